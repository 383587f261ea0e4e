/- Lemmas, in order: TopTill's law. What a law is handed, opened: two terms, numbers, a list.. -/
import Derived.Test.YtccpgpnekoncoaaQ21
import Derived.Test.YtccpgpnekoncoaaRows
import Derived.Test.YtccpgpnekoncoaaChecked
import Derived.JoinedOf
import Derived.LaidLaws
import Derived.RowKit
import Derived.RowKitTokens
import Derived.LaidHandle
import Derived.Stop.Joined
import Derived.Lay
import Derived.OpenShut
import Derived.SizedLaws
import Derived.SevenTiedAt
namespace Go.Proofs.Ytccpgpnekoncoaa
open Go Go.Sy Go.RoyM
set_option maxRecDepth 100000 in
set_option maxHeartbeats 1600000 in
theorem s3 (t0 t1 : TermD) (price many : Int) (sh : List Int) (sa : Option Addr) (ca : Nat) (fr to : Int) (u : World) (hA : IAt u sa sh) (hl : sh.length ≤ 9223372036854775807) (hfr : 0 ≤ fr ∧ fr ≤ 255) (hto : 0 ≤ to ∧ to ≤ 255) : Calls Try.prog 3 #[.agg #[.int .i64 t0.f, .int .i64 t0.u, .int .i64 t0.b, .int .i64 t1.f, .int .i64 t1.u, .int .i64 t1.b], .int .i64 price, .int .i64 many, .slice sa sh.length ca, .int .u8 fr, .int .u8 to] u (Ret fun v w' => v = .bool true ∧ Ext [] u w') := by
  refine calls_of Try.func3 rfl rfl (fun a hf => ?_)
  have hh := Hp.init u []
  refine sy_sq ?_
  refine o_box hf hh ?_; clear hf hh a; intro B6 a w hf hh
  refine o_box hf hh ?_; clear hf hh a; intro B7 a w hf hh
  refine o_v hf hh (yv_assign rfl) ?_; clear hf a; intro a hf
  refine o_end ?_
  refine sy_seq ?_
  refine sy_sq ?_
  refine o_v hf hh (y_ld Try.sc_3 rfl) ?_; clear hf a; intro a hf
  refine o_v hf hh (yv_bin rfl rfl rfl) ?_; clear hf a; intro a hf
  refine o_v hf hh (yv_move rfl) ?_; clear hf a; intro a hf
  refine guard_split hf (t := 44) rfl (fun hg2 => ?_) (fun hg2 => ?_)
  ·have hG2 := hg2; try simp only [gS] at hG2
   refine o_off hf ?_; clear hf a; intro a hf
   refine o_off hf ?_; clear hf a; intro a hf
   refine o_v hf hh (y_pt rfl rfl) ?_; clear hf a; intro a hf
   refine o_v hf hh (yv_move rfl) ?_; clear hf a; intro a hf
   refine o_off hf ?_; clear hf a; intro a hf
   refine o_off hf ?_; clear hf a; intro a hf
   refine o_v hf hh (y_pt rfl rfl) ?_; clear hf a; intro a hf
   refine o_v hf hh (yv_move rfl) ?_; clear hf a; intro a hf
   refine o_off hf ?_; clear hf a; intro a hf
   refine o_off hf ?_; clear hf a; intro a hf
   refine o_v hf hh (y_pt rfl rfl) ?_; clear hf a; intro a hf
   refine o_v hf hh (yv_move rfl) ?_; clear hf a; intro a hf
   refine o_off hf ?_; clear hf a; intro a hf
   refine o_off hf ?_; clear hf a; intro a hf
   refine o_off hf ?_; clear hf a; intro a hf
   refine o_v hf hh (y_pt rfl rfl) ?_; clear hf a; intro a hf
   refine o_v hf hh (yv_move rfl) ?_; clear hf a; intro a hf
   refine o_off hf ?_; clear hf a; intro a hf
   refine o_off hf ?_; clear hf a; intro a hf
   refine o_off hf ?_; clear hf a; intro a hf
   refine o_v hf hh (y_pt rfl rfl) ?_; clear hf a; intro a hf
   refine o_v hf hh (yv_move rfl) ?_; clear hf a; intro a hf
   refine o_off hf ?_; clear hf a; intro a hf
   refine o_off hf ?_; clear hf a; intro a hf
   refine o_off hf ?_; clear hf a; intro a hf
   refine o_off hf ?_; clear hf a; intro a hf
   refine o_v hf hh (y_pt rfl rfl) ?_; clear hf a; intro a hf
   refine o_v hf hh (yv_move rfl) ?_; clear hf a; intro a hf
   refine o_off hf ?_; clear hf a; intro a hf
   refine o_off hf ?_; clear hf a; intro a hf
   refine o_off hf ?_; clear hf a; intro a hf
   refine o_off hf ?_; clear hf a; intro a hf
   refine o_v hf hh (y_pt rfl rfl) ?_; clear hf a; intro a hf
   refine o_end ?_
   refine c_t hf ?_
   refine sy_sq ?_
   refine o_call hf Try.en_7 rfl rfl rfl (s7 _) ?_; clear hf a; intro v a w hR hf
   obtain ⟨rfl, hx⟩ := hR; replace hh := hh.more hx; clear hx
   refine o_v hf hh (yv_assign rfl) ?_; clear hf a; intro a hf
   refine o_end ?_
   refine sy_ret ?_
   refine then_r ?_
   refine ret_r hf rfl rfl ?_
   first
     | exact ⟨rfl, hh.ext⟩
     | exact ⟨rfl, e3.trans (e8.trans (e9.trans (e10.trans hh.ext)))⟩
  ·have hG2 := hg2; try simp only [gS] at hG2
   refine o_v hf hh (y_ld Try.sc_3 rfl) ?_; clear hf a; intro a hf
   refine o_v hf hh (yv_bin rfl rfl rfl) ?_; clear hf a; intro a hf
   refine o_v hf hh (y_pf rfl rfl) ?_; clear hf a; intro a hf
   refine o_v hf hh (yv_move rfl) ?_; clear hf a; intro a hf
   refine guard_split hf (t := 48) rfl (fun hg5 => ?_) (fun hg5 => ?_)
   ·have hG5 := hg5; try simp only [gS] at hG5
    refine o_off hf ?_; clear hf a; intro a hf
    refine o_off hf ?_; clear hf a; intro a hf
    refine o_v hf hh (y_pt rfl rfl) ?_; clear hf a; intro a hf
    refine o_v hf hh (yv_move rfl) ?_; clear hf a; intro a hf
    refine o_off hf ?_; clear hf a; intro a hf
    refine o_off hf ?_; clear hf a; intro a hf
    refine o_v hf hh (y_pt rfl rfl) ?_; clear hf a; intro a hf
    refine o_v hf hh (yv_move rfl) ?_; clear hf a; intro a hf
    refine o_off hf ?_; clear hf a; intro a hf
    refine o_off hf ?_; clear hf a; intro a hf
    refine o_off hf ?_; clear hf a; intro a hf
    refine o_v hf hh (y_pt rfl rfl) ?_; clear hf a; intro a hf
    refine o_v hf hh (yv_move rfl) ?_; clear hf a; intro a hf
    refine o_off hf ?_; clear hf a; intro a hf
    refine o_off hf ?_; clear hf a; intro a hf
    refine o_off hf ?_; clear hf a; intro a hf
    refine o_v hf hh (y_pt rfl rfl) ?_; clear hf a; intro a hf
    refine o_v hf hh (yv_move rfl) ?_; clear hf a; intro a hf
    refine o_off hf ?_; clear hf a; intro a hf
    refine o_off hf ?_; clear hf a; intro a hf
    refine o_off hf ?_; clear hf a; intro a hf
    refine o_off hf ?_; clear hf a; intro a hf
    refine o_v hf hh (y_pt rfl rfl) ?_; clear hf a; intro a hf
    refine o_v hf hh (yv_move rfl) ?_; clear hf a; intro a hf
    refine o_off hf ?_; clear hf a; intro a hf
    refine o_off hf ?_; clear hf a; intro a hf
    refine o_off hf ?_; clear hf a; intro a hf
    refine o_off hf ?_; clear hf a; intro a hf
    refine o_v hf hh (y_pt rfl rfl) ?_; clear hf a; intro a hf
    refine o_end ?_
    refine c_t hf ?_
    refine sy_sq ?_
    refine o_call hf Try.en_7 rfl rfl rfl (s7 _) ?_; clear hf a; intro v a w hR hf
    obtain ⟨rfl, hx⟩ := hR; replace hh := hh.more hx; clear hx
    refine o_v hf hh (yv_assign rfl) ?_; clear hf a; intro a hf
    refine o_end ?_
    refine sy_ret ?_
    refine then_r ?_
    refine ret_r hf rfl rfl ?_
    first
      | exact ⟨rfl, hh.ext⟩
      | exact ⟨rfl, e3.trans (e8.trans (e9.trans (e10.trans hh.ext)))⟩
   ·have hG5 := hg5; try simp only [gS] at hG5
    refine o_v hf hh (yv_move rfl) ?_; clear hf a; intro a hf
    refine o_v hf hh (yv_bin rfl rfl rfl) ?_; clear hf a; intro a hf
    refine o_v hf hh (y_pf rfl rfl) ?_; clear hf a; intro a hf
    refine o_v hf hh (yv_move rfl) ?_; clear hf a; intro a hf
    refine guard_split hf (t := 52) rfl (fun hg8 => ?_) (fun hg8 => ?_)
    ·have hG8 := hg8; try simp only [gS] at hG8
     refine o_off hf ?_; clear hf a; intro a hf
     refine o_off hf ?_; clear hf a; intro a hf
     refine o_v hf hh (y_pt rfl rfl) ?_; clear hf a; intro a hf
     refine o_v hf hh (yv_move rfl) ?_; clear hf a; intro a hf
     refine o_off hf ?_; clear hf a; intro a hf
     refine o_off hf ?_; clear hf a; intro a hf
     refine o_off hf ?_; clear hf a; intro a hf
     refine o_v hf hh (y_pt rfl rfl) ?_; clear hf a; intro a hf
     refine o_v hf hh (yv_move rfl) ?_; clear hf a; intro a hf
     refine o_off hf ?_; clear hf a; intro a hf
     refine o_off hf ?_; clear hf a; intro a hf
     refine o_off hf ?_; clear hf a; intro a hf
     refine o_v hf hh (y_pt rfl rfl) ?_; clear hf a; intro a hf
     refine o_v hf hh (yv_move rfl) ?_; clear hf a; intro a hf
     refine o_off hf ?_; clear hf a; intro a hf
     refine o_off hf ?_; clear hf a; intro a hf
     refine o_off hf ?_; clear hf a; intro a hf
     refine o_off hf ?_; clear hf a; intro a hf
     refine o_v hf hh (y_pt rfl rfl) ?_; clear hf a; intro a hf
     refine o_v hf hh (yv_move rfl) ?_; clear hf a; intro a hf
     refine o_off hf ?_; clear hf a; intro a hf
     refine o_off hf ?_; clear hf a; intro a hf
     refine o_off hf ?_; clear hf a; intro a hf
     refine o_off hf ?_; clear hf a; intro a hf
     refine o_v hf hh (y_pt rfl rfl) ?_; clear hf a; intro a hf
     refine o_end ?_
     refine c_t hf ?_
     refine sy_sq ?_
     refine o_call hf Try.en_7 rfl rfl rfl (s7 _) ?_; clear hf a; intro v a w hR hf
     obtain ⟨rfl, hx⟩ := hR; replace hh := hh.more hx; clear hx
     refine o_v hf hh (yv_assign rfl) ?_; clear hf a; intro a hf
     refine o_end ?_
     refine sy_ret ?_
     refine then_r ?_
     refine ret_r hf rfl rfl ?_
     first
       | exact ⟨rfl, hh.ext⟩
       | exact ⟨rfl, e3.trans (e8.trans (e9.trans (e10.trans hh.ext)))⟩
    ·have hG8 := hg8; try simp only [gS] at hG8
     refine o_v hf hh (yv_move rfl) ?_; clear hf a; intro a hf
     refine o_v hf hh (yv_bin rfl rfl rfl) ?_; clear hf a; intro a hf
     refine o_v hf hh (y_pf rfl rfl) ?_; clear hf a; intro a hf
     refine o_v hf hh (yv_move rfl) ?_; clear hf a; intro a hf
     refine guard_split hf (t := 56) rfl (fun hg11 => ?_) (fun hg11 => ?_)
     ·have hG11 := hg11; try simp only [gS] at hG11
      refine o_off hf ?_; clear hf a; intro a hf
      refine o_off hf ?_; clear hf a; intro a hf
      refine o_off hf ?_; clear hf a; intro a hf
      refine o_v hf hh (y_pt rfl rfl) ?_; clear hf a; intro a hf
      refine o_v hf hh (yv_move rfl) ?_; clear hf a; intro a hf
      refine o_off hf ?_; clear hf a; intro a hf
      refine o_off hf ?_; clear hf a; intro a hf
      refine o_off hf ?_; clear hf a; intro a hf
      refine o_v hf hh (y_pt rfl rfl) ?_; clear hf a; intro a hf
      refine o_v hf hh (yv_move rfl) ?_; clear hf a; intro a hf
      refine o_off hf ?_; clear hf a; intro a hf
      refine o_off hf ?_; clear hf a; intro a hf
      refine o_off hf ?_; clear hf a; intro a hf
      refine o_off hf ?_; clear hf a; intro a hf
      refine o_v hf hh (y_pt rfl rfl) ?_; clear hf a; intro a hf
      refine o_v hf hh (yv_move rfl) ?_; clear hf a; intro a hf
      refine o_off hf ?_; clear hf a; intro a hf
      refine o_off hf ?_; clear hf a; intro a hf
      refine o_off hf ?_; clear hf a; intro a hf
      refine o_off hf ?_; clear hf a; intro a hf
      refine o_v hf hh (y_pt rfl rfl) ?_; clear hf a; intro a hf
      refine o_end ?_
      refine c_t hf ?_
      refine sy_sq ?_
      refine o_call hf Try.en_7 rfl rfl rfl (s7 _) ?_; clear hf a; intro v a w hR hf
      obtain ⟨rfl, hx⟩ := hR; replace hh := hh.more hx; clear hx
      refine o_v hf hh (yv_assign rfl) ?_; clear hf a; intro a hf
      refine o_end ?_
      refine sy_ret ?_
      refine then_r ?_
      refine ret_r hf rfl rfl ?_
      first
        | exact ⟨rfl, hh.ext⟩
        | exact ⟨rfl, e3.trans (e8.trans (e9.trans (e10.trans hh.ext)))⟩
     ·have hG11 := hg11; try simp only [gS] at hG11
      refine o_v hf hh (yv_move rfl) ?_; clear hf a; intro a hf
      refine o_v hf hh (yv_len Try.se_25 rfl) ?_; clear hf a; intro a hf
      refine o_v hf hh (yv_bin rfl rfl rfl) ?_; clear hf a; intro a hf
      refine o_v hf hh (y_pf rfl rfl) ?_; clear hf a; intro a hf
      refine o_v hf hh (yv_move rfl) ?_; clear hf a; intro a hf
      refine guard_split hf (t := 61) rfl (fun hg14 => ?_) (fun hg14 => ?_)
      ·have hG14 := hg14; try simp only [gS] at hG14
       refine o_off hf ?_; clear hf a; intro a hf
       refine o_off hf ?_; clear hf a; intro a hf
       refine o_off hf ?_; clear hf a; intro a hf
       refine o_v hf hh (y_pt rfl rfl) ?_; clear hf a; intro a hf
       refine o_v hf hh (yv_move rfl) ?_; clear hf a; intro a hf
       refine o_off hf ?_; clear hf a; intro a hf
       refine o_off hf ?_; clear hf a; intro a hf
       refine o_off hf ?_; clear hf a; intro a hf
       refine o_off hf ?_; clear hf a; intro a hf
       refine o_v hf hh (y_pt rfl rfl) ?_; clear hf a; intro a hf
       refine o_v hf hh (yv_move rfl) ?_; clear hf a; intro a hf
       refine o_off hf ?_; clear hf a; intro a hf
       refine o_off hf ?_; clear hf a; intro a hf
       refine o_off hf ?_; clear hf a; intro a hf
       refine o_off hf ?_; clear hf a; intro a hf
       refine o_v hf hh (y_pt rfl rfl) ?_; clear hf a; intro a hf
       refine o_end ?_
       refine c_t hf ?_
       refine sy_sq ?_
       refine o_call hf Try.en_7 rfl rfl rfl (s7 _) ?_; clear hf a; intro v a w hR hf
       obtain ⟨rfl, hx⟩ := hR; replace hh := hh.more hx; clear hx
       refine o_v hf hh (yv_assign rfl) ?_; clear hf a; intro a hf
       refine o_end ?_
       refine sy_ret ?_
       refine then_r ?_
       refine ret_r hf rfl rfl ?_
       first
         | exact ⟨rfl, hh.ext⟩
         | exact ⟨rfl, e3.trans (e8.trans (e9.trans (e10.trans hh.ext)))⟩
      ·have hG14 := hg14; try simp only [gS] at hG14
       refine o_v hf hh (yv_move rfl) ?_; clear hf a; intro a hf
       refine o_call hf Try.en_5 rfl rfl rfl (p37 sh sa ca _ (hA.ext hh.ext) (by omega)) ?_; clear hf a; intro v a w hR hf
       obtain ⟨rfl, hx⟩ := hR; replace hh := hh.more hx; clear hx
       refine o_v hf hh (yv_not rfl) ?_; clear hf a; intro a hf
       refine o_v hf hh (y_pf rfl rfl) ?_; clear hf a; intro a hf
       refine o_v hf hh (yv_move rfl) ?_; clear hf a; intro a hf
       refine guard_split hf (t := 66) rfl (fun hg17 => ?_) (fun hg17 => ?_)
       ·have hG17 := hg17; try simp only [gS] at hG17
        refine o_off hf ?_; clear hf a; intro a hf
        refine o_off hf ?_; clear hf a; intro a hf
        refine o_off hf ?_; clear hf a; intro a hf
        refine o_off hf ?_; clear hf a; intro a hf
        refine o_v hf hh (y_pt rfl rfl) ?_; clear hf a; intro a hf
        refine o_v hf hh (yv_move rfl) ?_; clear hf a; intro a hf
        refine o_off hf ?_; clear hf a; intro a hf
        refine o_off hf ?_; clear hf a; intro a hf
        refine o_off hf ?_; clear hf a; intro a hf
        refine o_off hf ?_; clear hf a; intro a hf
        refine o_v hf hh (y_pt rfl rfl) ?_; clear hf a; intro a hf
        refine o_end ?_
        refine c_t hf ?_
        refine sy_sq ?_
        refine o_call hf Try.en_7 rfl rfl rfl (s7 _) ?_; clear hf a; intro v a w hR hf
        obtain ⟨rfl, hx⟩ := hR; replace hh := hh.more hx; clear hx
        refine o_v hf hh (yv_assign rfl) ?_; clear hf a; intro a hf
        refine o_end ?_
        refine sy_ret ?_
        refine then_r ?_
        refine ret_r hf rfl rfl ?_
        first
          | exact ⟨rfl, hh.ext⟩
          | exact ⟨rfl, e3.trans (e8.trans (e9.trans (e10.trans hh.ext)))⟩
       ·have hG17 := hg17; try simp only [gS] at hG17
        refine o_v hf hh (y_ia Try.ae_24 rfl rfl) ?_; clear hf a; intro a hf
        refine o_v hf hh (yv_cast (y_lds Try.ag_23 rfl) (show _ = tmV t0 from rfl)) ?_; clear hf a; intro a hf
        refine o_call hf Try.en_6 rfl rfl rfl (p39 t0 _) ?_; clear hf a; intro v a w hR hf
        obtain ⟨rfl, hx⟩ := hR; replace hh := hh.more hx; clear hx
        refine o_v hf hh (yv_not rfl) ?_; clear hf a; intro a hf
        refine o_v hf hh (y_pf rfl rfl) ?_; clear hf a; intro a hf
        refine o_v hf hh (yv_move rfl) ?_; clear hf a; intro a hf
        refine guard_split hf (t := 72) rfl (fun hg21 => ?_) (fun hg21 => ?_)
        ·have hG21 := hg21; try simp only [gS] at hG21
         refine o_off hf ?_; clear hf a; intro a hf
         refine o_off hf ?_; clear hf a; intro a hf
         refine o_off hf ?_; clear hf a; intro a hf
         refine o_off hf ?_; clear hf a; intro a hf
         refine o_v hf hh (y_pt rfl rfl) ?_; clear hf a; intro a hf
         refine o_end ?_
         refine c_t hf ?_
         refine sy_sq ?_
         refine o_call hf Try.en_7 rfl rfl rfl (s7 _) ?_; clear hf a; intro v a w hR hf
         obtain ⟨rfl, hx⟩ := hR; replace hh := hh.more hx; clear hx
         refine o_v hf hh (yv_assign rfl) ?_; clear hf a; intro a hf
         refine o_end ?_
         refine sy_ret ?_
         refine then_r ?_
         refine ret_r hf rfl rfl ?_
         first
           | exact ⟨rfl, hh.ext⟩
           | exact ⟨rfl, e3.trans (e8.trans (e9.trans (e10.trans hh.ext)))⟩
        ·have hG21 := hg21; try simp only [gS] at hG21
         refine o_v hf hh (y_ia Try.ae_24 rfl rfl) ?_; clear hf a; intro a hf
         refine o_v hf hh (yv_cast (y_lds Try.ag_23 rfl) (show _ = tmV t1 from rfl)) ?_; clear hf a; intro a hf
         refine o_call hf Try.en_6 rfl rfl rfl (p39 t1 _) ?_; clear hf a; intro v a w hR hf
         obtain ⟨rfl, hx⟩ := hR; replace hh := hh.more hx; clear hx
         refine o_v hf hh (yv_not rfl) ?_; clear hf a; intro a hf
         refine o_v hf hh (y_pf rfl rfl) ?_; clear hf a; intro a hf
         refine o_end ?_
         refine sy_cond hf rfl (fun hg25 => ?_) (fun hg25 => ?_)
         ·have hG25 := hg25; try simp only [gS] at hG25
          refine sy_sq ?_
          refine o_call hf Try.en_7 rfl rfl rfl (s7 _) ?_; clear hf a; intro v a w hR hf
          obtain ⟨rfl, hx⟩ := hR; replace hh := hh.more hx; clear hx
          refine o_v hf hh (yv_assign rfl) ?_; clear hf a; intro a hf
          refine o_end ?_
          refine sy_ret ?_
          refine then_r ?_
          refine ret_r hf rfl rfl ?_
          first
            | exact ⟨rfl, hh.ext⟩
            | exact ⟨rfl, e3.trans (e8.trans (e9.trans (e10.trans hh.ext)))⟩
         ·have hG25 := hg25; try simp only [gS] at hG25
          refine sy_skip ?_
          refine then_n ?_
          refine sy_seq ?_
          have hP0 : 0 ≤ price := by omega
          have hP1 : price ≤ 1048576 := by omega
          have hM0 : 1 ≤ many := by omega
          have hM1 : many ≤ 12 := by omega
          have hSl : sh.length ≤ 5 := by omega
          have hSb : shB sh = true := by assumption
          have hTb0 : termB t0 = true := by assumption
          have hTb1 : termB t1 = true := by assumption
          have hS := shB_iff.1 hSb; have hT0 := termB_iff.1 hTb0; have hT1 := termB_iff.1 hTb1
          obtain ⟨mn, rfl⟩ : ∃ k : Nat, many = k := ⟨many.toNat, by omega⟩
          have hpm0 : 0 ≤ price * (mn : Nat) := Int.mul_nonneg hP0 (by omega)
          have hpm1 : price * (mn : Nat) ≤ 1048576 * 12 := Int.mul_le_mul hP1 (by omega) (by omega) (by omega)
          clear hTb0 hTb1 hSb
          replace hh : Hp u [] [(B7, .cells #[.int .i64 price] 3), (B6, .cells #[.int .i64 t0.f, .int .i64 t0.u, .int .i64 t0.b, .int .i64 t1.f, .int .i64 t1.u, .int .i64 t1.b] 24)] w := hh
          refine sy_ops ?_
          refine o_v hf hh (yv_makeFunc rfl rfl) ?_; clear hf a; intro a hf
          refine o_v hf hh (yv_assign rfl) ?_; clear hf a; intro a hf
          refine o_end ?_
          refine sy_sq ?_
          refine o_v hf hh (yv_move rfl) ?_; clear hf a; intro a hf
          refine ops_buildSl hf hh Try.bl_25_1 rfl rfl (.inl rfl) rfl ?_; clear hf hh; clear a; intro B81 a w hf hh
          refine o_v hf hh (yv_move rfl) ?_; clear hf a; intro a hf
          refine ops_buildSl hf hh Try.bl_25_1 rfl rfl (.inl rfl) rfl ?_; clear hf hh; clear a; intro B83 a w hf hh
          refine o_v hf hh (yv_move rfl) ?_; clear hf a; intro a hf
          refine o_v hf hh (yv_buildS Try.bs_30 rfl rfl) ?_; clear hf a; intro a hf
          refine o_v hf hh (yv_buildS Try.bs_32 rfl rfl) ?_; clear hf a; intro a hf
          refine o_v hf hh (yv_move rfl) ?_; clear hf a; intro a hf
          refine o_v hf hh (yv_move rfl) ?_; clear hf a; intro a hf
          refine o_call hf Try.en_8 rfl rfl rfl (s8 (mn : Nat) price B7 _ (hh.at (i := 2) rfl) ⟨by omega, by omega⟩) ?_; clear hf a; intro v a w hR hf
          obtain ⟨rfl, hx⟩ := hR; replace hh := hh.more hx; clear hx
          refine o_v hf hh (yv_move rfl) ?_; clear hf a; intro a hf
          refine o_call hf Try.en_8 rfl rfl rfl (s8 1 price B7 _ (hh.at (i := 2) rfl) ⟨by omega, by omega⟩) ?_; clear hf a; intro v a w hR hf
          obtain ⟨rfl, hx⟩ := hR; replace hh := hh.more hx; clear hx
          refine ops_buildSl hf hh Try.bl_34_3 rfl rfl (.inl rfl) rfl ?_; clear hf hh; clear a; intro B92 a w hf hh
          refine o_v hf hh (yv_buildS Try.bs_38 rfl rfl) ?_; clear hf a; intro a hf
          refine o_alloc hf hh Try.ze_38 ?_; clear hf hh a; intro B14 a w hf hh
          refine o_store hf hh Try.sz_38 fun w hh => ?_
          refine o_end ?_
          refine sy_seq ?_
          replace hh : Hp u [] [(B14, .cells (prC (mn : Nat) (some ⟨B81, 0, none⟩) 1 (some ⟨B92, 0, none⟩) 3 3) 38), (B92, .cells #[.int .i64 1, .slice (some ⟨B83, 0, none⟩) 1 1, .int .i64 (mn : Nat), .int .i64 0, .int .i64 0, .int .i64 0, .int .i64 2, .slice none 0 0, .int .i64 0, .int .i64 0, .int .i64 (mn : Nat), .int .i64 (price * (mn : Nat)), .int .i64 2, .slice none 0 0, .int .i64 0, .int .i64 0, .int .i64 1, .int .i64 (price * 1)] 32), (B83, .cells #[.int .i64 1] 3), (B81, .cells #[.int .i64 (mn : Nat)] 3), (B7, .cells #[.int .i64 price] 3), (B6, .cells #[.int .i64 t0.f, .int .i64 t0.u, .int .i64 t0.b, .int .i64 t1.f, .int .i64 t1.u, .int .i64 t1.b] 24)] w := hh
          have hPr : PrAt w (mn : Nat) (mn : Nat) (some ⟨B81, 0, none⟩) (some ⟨B92, 0, none⟩) [DlD.pr (mn : Nat) (some ⟨B83, 0, none⟩) 1, DlD.se (mn : Nat) (price * (mn : Nat)), DlD.se 1 (price * 1)] := by
            refine ⟨iat_lit (hh.at (i := 3) rfl) rfl, fun i s hi => ⟨B92, 0, _, _, _, rfl, hh.at (i := 1) rfl, ?_⟩, fun d hd => ?_, by omega, by omega, by omega, by omega, by show 3 ≤ 20; omega⟩
            · match i, hi with
              | 0, hi => cases hi; rfl
              | 1, hi => cases hi; rfl
              | 2, hi => cases hi; rfl
              | i + 3, hi => simp at hi
            · simp only [List.mem_cons, List.not_mem_nil, or_false] at hd
              rcases hd with rfl | rfl | rfl
              · exact ⟨iat_lit (hh.at (i := 2) rfl) rfl, by omega, by omega⟩
              · exact ⟨by omega, by omega, by omega, by omega⟩
              · exact ⟨by omega, by omega, by omega, by omega⟩
          have q6 : w.heap[B6]? = some (.cells #[.int .i64 t0.f, .int .i64 t0.u, .int .i64 t0.b, .int .i64 t1.f, .int .i64 t1.u, .int .i64 t1.b] 24 (0, 0)) := hh.at (i := 5) rfl
          have q7 : w.heap[B7]? = some (.cells #[.int .i64 price] 3 (0, 0)) := hh.at (i := 4) rfl
          have q14 : w.heap[B14]? = some (.cells (prC (mn : Nat) (some ⟨B81, 0, none⟩) 1 (some ⟨B92, 0, none⟩) 3 3) 38 (0, 0)) := hh.at (i := 0) rfl
          have e3 := hh.ext
          have hA3 := hA.ext e3
          obtain ⟨u3, rfl⟩ : ∃ z, z = w := ⟨_, rfl⟩
          replace hh := Hp.init u3 []
          refine sy_ops ?_
          refine o_v hf hh (y_lds Try.ag_38 rfl) ?_; clear hf a; intro a hf
          refine o_call hf Try.en_9 rfl rfl rfl (s9 (mn : Nat) (mn : Nat) (some ⟨B81, 0, none⟩) (some ⟨B92, 0, none⟩) 1 3 [DlD.pr (mn : Nat) (some ⟨B83, 0, none⟩) 1, DlD.se (mn : Nat) (price * (mn : Nat)), DlD.se 1 (price * 1)] 1 _ (hPr.ext hh.ext) (by show 1 ≤ 3; omega) (by show 3 ≤ 3; omega)) ?_; clear hf a; intro v a w hR hf
          obtain ⟨p1, m1, so1, n1, co1, e1, X1, rfl, hfin, hx⟩ := hR; replace hh := (hh.join hx).perm List.perm_append_comm; clear hx
          replace hfin : AftF X1 (some ⟨0, 0, (mn : Nat), (mn : Nat)⟩) p1 m1 so1 n1 co1 e1 := by
            have e9 := @till_on1 (mn : Nat) (some ⟨B83, 0, none⟩) 1
            rw [← e9]; exact hfin
          obtain ⟨rfl, rfl, rfl, rfl, hT1⟩ := hfin
          refine o_v hf hh (yv_move rfl) ?_; clear hf a; intro a hf
          refine o_v hf hh (yv_extract rfl rfl) ?_; clear hf a; intro a hf
          refine o_v hf hh (yv_extract rfl rfl) ?_; clear hf a; intro a hf
          refine o_alloc hf hh Try.ze_41 ?_; clear hf hh a; intro B15 a w hf hh
          refine o_store hf hh Try.sz_41 fun w hh => ?_
          refine o_v hf hh (yv_assign rfl) ?_; clear hf a; intro a hf
          refine o_end ?_
          refine sy_sq ?_
          refine o_v hf hh (y_lds Try.ag_38 rfl) ?_; clear hf a; intro a hf
          refine o_call hf Try.en_9 rfl rfl rfl (s9 (mn : Nat) (mn : Nat) (some ⟨B81, 0, none⟩) (some ⟨B92, 0, none⟩) 1 3 [DlD.pr (mn : Nat) (some ⟨B83, 0, none⟩) 1, DlD.se (mn : Nat) (price * (mn : Nat)), DlD.se 1 (price * 1)] 2 _ (hPr.ext hh.ext) (by show 2 ≤ 3; omega) (by show 3 ≤ 3; omega)) ?_; clear hf a; intro v a w hR hf
          obtain ⟨p2, m2, so2, n2, co2, e2, X2, rfl, hfin, hx⟩ := hR; replace hh := (hh.join hx).perm List.perm_append_comm; clear hx
          replace hfin : AftF X2 (some ⟨0, price * (mn : Nat), 0, 0⟩) p2 m2 so2 n2 co2 e2 := by
            have e9 := @till_on2 (mn : Nat) (price * (mn : Nat)) (some ⟨B83, 0, none⟩) 1
            rw [← e9]; exact hfin
          obtain ⟨rfl, rfl, rfl, rfl, hT2⟩ := hfin
          refine o_v hf hh (yv_move rfl) ?_; clear hf a; intro a hf
          refine o_v hf hh (yv_extract rfl rfl) ?_; clear hf a; intro a hf
          refine o_v hf hh (yv_extract rfl rfl) ?_; clear hf a; intro a hf
          refine o_alloc hf hh Try.ze_41 ?_; clear hf hh a; intro B17 a w hf hh
          refine o_store hf hh Try.sz_41 fun w hh => ?_
          refine o_v hf hh (yv_assign rfl) ?_; clear hf a; intro a hf
          refine o_end ?_
          refine sy_sq ?_
          refine o_v hf hh (y_lds Try.ag_38 rfl) ?_; clear hf a; intro a hf
          refine o_call hf Try.en_9 rfl rfl rfl (s9 (mn : Nat) (mn : Nat) (some ⟨B81, 0, none⟩) (some ⟨B92, 0, none⟩) 1 3 [DlD.pr (mn : Nat) (some ⟨B83, 0, none⟩) 1, DlD.se (mn : Nat) (price * (mn : Nat)), DlD.se 1 (price * 1)] 3 _ (hPr.ext hh.ext) (by show 3 ≤ 3; omega) (by show 3 ≤ 3; omega)) ?_; clear hf a; intro v a w hR hf
          obtain ⟨p3, m3, so3, n3, co3, e3, X3, rfl, hfin, hx⟩ := hR; replace hh := (hh.join hx).perm List.perm_append_comm; clear hx
          replace hfin : AftF X3 (none) p3 m3 so3 n3 co3 e3 := by
            have e9 := @till_on3 (mn : Nat) (price * (mn : Nat)) (price * 1) (some ⟨B83, 0, none⟩) 1
            rw [← e9]; exact hfin
          obtain ⟨rfl, rfl, rfl, rfl, rfl, rfl⟩ := hfin
          refine o_v hf hh (yv_move rfl) ?_; clear hf a; intro a hf
          refine o_v hf hh (yv_extract rfl rfl) ?_; clear hf a; intro a hf
          refine o_v hf hh (yv_extract rfl rfl) ?_; clear hf a; intro a hf
          refine o_alloc hf hh Try.ze_41 ?_; clear hf hh a; intro B19 a w hf hh
          refine o_store hf hh Try.sz_41 fun w hh => ?_
          refine o_v hf hh (yv_assign rfl) ?_; clear hf a; intro a hf
          refine o_end ?_
          refine sy_seq ?_
          refine sy_seq ?_
          replace hh : Hp u3 [] ((B19, .cells #[.int .i64 0, .int .i64 0, .slice none 0 0] 41) :: (((B17, .cells #[.int .i64 0, .int .i64 (price * (mn : Nat)), .slice so2 1 co2] 41) :: (((B15, .cells #[.int .i64 0, .int .i64 0, .slice so1 1 co1] 41) :: ([] ++ X1)) ++ X2)) ++ X3)) w := hh
          have hT1' := hT1 w (fun q hq => hh.get q (by simp [hq]))
          have hT2' := hT2 w (fun q hq => hh.get q (by simp [hq]))
          clear hT1 hT2
          obtain ⟨sb1, o1, c1, Y1, f1, eso1, hb1, hc1⟩ := hT1' 0 _ rfl
          obtain ⟨sb2, o2, c2, Y2, f2, eso2, hb2, hc2⟩ := hT2' 0 _ rfl
          subst eso1; subst eso2
          have hd1 : cellsAt c1 (o1 + (0 : Int).toNat * 2) 2 = some [.int .i64 (mn : Nat), .int .i64 (mn : Nat)] := hc1
          have hd2 : cellsAt c2 (o2 + (0 : Int).toNat * 2) 2 = some [.int .i64 0, .int .i64 0] := hc2
          have q15 : w.heap[B15]? = some (.cells #[.int .i64 0, .int .i64 0, .slice (some ⟨sb1, o1, none⟩) 1 co1] 41 (0, 0)) := hh.get (B15, _) (by simp; done)
          have q17 : w.heap[B17]? = some (.cells #[.int .i64 0, .int .i64 (price * (mn : Nat)), .slice (some ⟨sb2, o2, none⟩) 1 co2] 41 (0, 0)) := hh.get (B17, _) (by simp; done)
          have e8 := hh.ext
          replace q6 := hh.old q6; replace q7 := hh.old q7
          have hA8 := hA3.ext e8
          have q19 : w.heap[B19]? = some (.cells #[.int .i64 0, .int .i64 0, .slice none 0 0] 41 (0, 0)) := hh.at (i := 0) rfl
          obtain ⟨u8, rfl⟩ : ∃ z, z = w := ⟨_, rfl⟩
          replace hh := Hp.init u8 []
          refine sy_treeC (.p 0 (.p 1 (.p 2 (.p 3 (.p 4 (.p 5 (.p 6 (.p 7 (.p 8 (.p 9 (.p 10 (.p 11 (.q 0 12 (.p 13 (.p 14 (.p 15 (.p 16 (.p 17 (.q 0 18 (.p 19 (.q 0 20 (.p 21 (.p 22 (.e1 23 (.p 24 (.p 25 (.p 26 (.p 27 (.q 0 28 (.p 29 (.p 30 (.p 31 (.p 32 (.p 33 (.q 0 34 (.p 35 (.q 0 36 (.e1 37 (.p 38 (.p 39 (.fin))))))))))))))))))))))))))))))))))))))))) [[]] [(AtE u8 [] [], [])] Try.follows (by kernel_rfl) rfl hh (fun w hh => ?_)
          refine mc_p rfl   hf (yv_move rfl) (.inl rfl) rfl rfl ?_; clear hf a; intro a hf
          refine mc_p rfl   hf (yv_bin rfl rfl rfl) (.inl rfl) rfl rfl ?_; clear hf a; intro a hf
          refine mc_p rfl   hf (yv_move rfl) (.inl rfl) rfl rfl ?_; clear hf a; intro a hf
          refine mc_p rfl   hf (yv_move rfl) (gon rfl rfl rfl (by first | assumption | rfl | (simp; done) | (simp; omega))) rfl rfl ?_; clear hf a; intro a hf
          refine mc_p rfl   hf (yv_bin rfl rfl rfl) (gon rfl rfl rfl (by first | assumption | rfl | (simp; done) | (simp; omega))) rfl rfl ?_; clear hf a; intro a hf
          refine mc_p rfl   hf (y_pf rfl rfl) (.inl rfl) rfl rfl ?_; clear hf a; intro a hf
          refine mc_p rfl   hf (yv_move rfl) (.inl rfl) rfl rfl ?_; clear hf a; intro a hf
          refine mc_p rfl   hf (yv_move rfl) (gon rfl rfl rfl (by first | assumption | rfl | (simp; done) | (simp; omega))) rfl rfl ?_; clear hf a; intro a hf
          refine mc_p rfl   hf (yv_bin rfl rfl rfl) (gon rfl rfl rfl (by first | assumption | rfl | (simp; done) | (simp; omega))) rfl rfl ?_; clear hf a; intro a hf
          refine mc_p rfl   hf (y_pf rfl rfl) (.inl rfl) rfl rfl ?_; clear hf a; intro a hf
          refine mc_p rfl   hf (yv_move rfl) (.inl rfl) rfl rfl ?_; clear hf a; intro a hf
          refine mc_p rfl   hf (yv_fieldAddr Try.fo_41_2 rfl) (gon rfl rfl rfl (by first | assumption | rfl | (simp; done) | (simp; omega))) rfl rfl ?_; clear hf a; intro a hf
          refine mc_q rfl rfl (AtE.of hh (by intro p hp; cases hp)) hf (y_ld Try.sc_39 rfl) (gon rfl rfl rfl (by first | assumption | rfl | (simp; done) | (simp; omega))) rfl rfl ?_; clear hf a; intro a hf
          refine mc_p rfl   hf (yv_len Try.se_39 rfl) (gon rfl rfl rfl (by first | assumption | rfl | (simp; done) | (simp; omega))) rfl rfl ?_; clear hf a; intro a hf
          refine mc_p rfl   hf (yv_bin rfl rfl rfl) (gon rfl rfl rfl (by first | assumption | rfl | (simp; done) | (simp; omega))) rfl rfl ?_; clear hf a; intro a hf
          refine mc_p rfl   hf (y_pf rfl rfl) (.inl rfl) rfl rfl ?_; clear hf a; intro a hf
          refine mc_p rfl   hf (yv_move rfl) (.inl rfl) rfl rfl ?_; clear hf a; intro a hf
          refine mc_p rfl   hf (yv_fieldAddr Try.fo_41_2 rfl) (gon rfl rfl rfl (by first | assumption | rfl | (simp; done) | (simp; omega))) rfl rfl ?_; clear hf a; intro a hf
          refine mc_q rfl rfl (AtE.of hh (by intro p hp; cases hp)) hf (y_ld Try.sc_39 rfl) (gon rfl rfl rfl (by first | assumption | rfl | (simp; done) | (simp; omega))) rfl rfl ?_; clear hf a; intro a hf
          refine mc_p rfl   hf (y_ix Try.se_39 rfl rfl) (gon rfl rfl rfl (by first | assumption | rfl | (simp; done) | (simp; omega))) rfl rfl ?_; clear hf a; intro a hf
          refine mc_q rfl rfl (AtE.of hh (by intro p hp; cases hp)) hf (y_lds Try.ag_36 rfl) (gon rfl rfl rfl (by first | assumption | rfl | (simp; done) | (simp; omega))) rfl rfl ?_; clear hf a; intro a hf
          refine mc_p rfl   hf (yv_move rfl) (gon rfl rfl rfl (by first | assumption | rfl | (simp; done) | (simp; omega))) rfl rfl ?_; clear hf a; intro a hf
          refine mc_p rfl   hf (yv_move rfl) (gon rfl rfl rfl (by first | assumption | rfl | (simp; done) | (simp; omega))) rfl rfl ?_; clear hf a; intro a hf
          refine mc_e rfl fun Q1 => ?_
          refine o_call hf Try.en_10 rfl rfl rfl (s10 _ _ _) ?_; clear hf a; intro v a w hR hf
          obtain ⟨rfl, hx⟩ := hR; replace hh := hh.more hx; clear hx
          refine ops_end ?_
          refine then_n ⟨⟨fun _ _ => (AtE.of hh (by intro p hp; cases hp)), trivial⟩, ?_⟩
          refine mc_p rfl   hf (yv_cast (yv_neF [((mn : Nat) : Int), ((mn : Nat) : Int)] [((mn : Nat) : Int), ((mn : Nat) : Int)] fl43 rfl rfl) (congrArg Value.bool (show _ = false by simp))) (gon rfl rfl rfl (by first | assumption | rfl | (simp; done) | (simp; omega))) rfl rfl ?_; clear hf a; intro a hf
          refine mc_p rfl   hf (y_pf rfl rfl) (.inl rfl) rfl rfl ?_; clear hf a; intro a hf
          refine mc_p rfl   hf (yv_move rfl) (.inl rfl) rfl rfl ?_; clear hf a; intro a hf
          refine mc_p rfl   hf (yv_fieldAddr Try.fo_41_2 rfl) (gon rfl rfl rfl (by first | assumption | rfl | (simp; done) | (simp; omega))) rfl rfl ?_; clear hf a; intro a hf
          refine mc_q rfl rfl (AtE.of hh (by intro p hp; cases hp)) hf (y_ld Try.sc_39 rfl) (gon rfl rfl rfl (by first | assumption | rfl | (simp; done) | (simp; omega))) rfl rfl ?_; clear hf a; intro a hf
          refine mc_p rfl   hf (yv_len Try.se_39 rfl) (gon rfl rfl rfl (by first | assumption | rfl | (simp; done) | (simp; omega))) rfl rfl ?_; clear hf a; intro a hf
          refine mc_p rfl   hf (yv_bin rfl rfl rfl) (gon rfl rfl rfl (by first | assumption | rfl | (simp; done) | (simp; omega))) rfl rfl ?_; clear hf a; intro a hf
          refine mc_p rfl   hf (y_pf rfl rfl) (.inl rfl) rfl rfl ?_; clear hf a; intro a hf
          refine mc_p rfl   hf (yv_move rfl) (.inl rfl) rfl rfl ?_; clear hf a; intro a hf
          refine mc_p rfl   hf (yv_fieldAddr Try.fo_41_2 rfl) (gon rfl rfl rfl (by first | assumption | rfl | (simp; done) | (simp; omega))) rfl rfl ?_; clear hf a; intro a hf
          refine mc_q rfl rfl (AtE.of hh (by intro p hp; cases hp)) hf (y_ld Try.sc_39 rfl) (gon rfl rfl rfl (by first | assumption | rfl | (simp; done) | (simp; omega))) rfl rfl ?_; clear hf a; intro a hf
          refine mc_p rfl   hf (y_ix Try.se_39 rfl rfl) (gon rfl rfl rfl (by first | assumption | rfl | (simp; done) | (simp; omega))) rfl rfl ?_; clear hf a; intro a hf
          refine mc_q rfl rfl (AtE.of hh (by intro p hp; cases hp)) hf (y_lds Try.ag_36 rfl) (gon rfl rfl rfl (by first | assumption | rfl | (simp; done) | (simp; omega))) rfl rfl ?_; clear hf a; intro a hf
          refine mc_e rfl fun Q1 => ?_
          refine o_call hf Try.en_10 rfl rfl rfl (s10 _ _ _) ?_; clear hf a; intro v a w hR hf
          obtain ⟨rfl, hx⟩ := hR; replace hh := hh.more hx; clear hx
          refine ops_end ?_
          refine then_n ⟨⟨fun _ _ => (AtE.of hh (by intro p hp; cases hp)), trivial⟩, ?_⟩
          refine mc_p rfl   hf (yv_cast (yv_neF [0, 0] [0, 0] fl43 rfl rfl) (congrArg Value.bool (show _ = false by simp))) (gon rfl rfl rfl (by first | assumption | rfl | (simp; done) | (simp; omega))) rfl rfl ?_; clear hf a; intro a hf
          refine mc_p rfl   hf (y_pf rfl rfl) (.inl rfl) rfl rfl ?_; clear hf a; intro a hf
          refine mc_end ?_
          refine then_n ?_
          refine c_f hf ?_
          refine sy_skip ?_
          refine then_n ?_
          refine sy_seq ?_
          obtain ⟨fn, rfl⟩ : ∃ k : Nat, fr = k := ⟨fr.toNat, by omega⟩
          obtain ⟨tn, rfl⟩ : ∃ k : Nat, to = k := ⟨to.toNat, by omega⟩
          obtain ⟨fi, hfi⟩ : ∃ k : Nat, k = fn % mn := ⟨_, rfl⟩
          have hfl : fi < mn := by rw [hfi]; exact Nat.mod_lt _ (by omega)
          obtain ⟨rm, hrm⟩ : ∃ z : Int, z = (tn : Int) % ((mn : Int) - (fi : Int)) := ⟨_, rfl⟩
          have hr0 := Int.emod_nonneg (tn : Int) (show ((mn : Int) - (fi : Int)) ≠ 0 by omega)
          have hr1 := Int.emod_lt_of_pos (tn : Int) (show (0 : Int) < (mn : Int) - (fi : Int) by omega)
          rw [← hrm] at hr0 hr1
          obtain ⟨la, hla⟩ : ∃ z : Int, z = (fi : Int) + rm := ⟨_, rfl⟩
          refine sy_ops ?_
          refine o_v hf hh (yv_move rfl) ?_; clear hf a; intro a hf
          first | refine o_v hf hh (yv_convx (.inl rfl) (by kernel_rfl) Try.un_3 rfl (by omega) (by simp only [IntKind.top]; omega)) ?_; clear hf a; intro a hf | refine o_v hf hh (yv_conv (by kernel_rfl) Try.un_3 rfl) ?_; clear hf a; intro a hf
          refine o_v hf hh (yv_move rfl) ?_; clear hf a; intro a hf
          refine ops_v hf hh (yv_cast (yv_rem rfl rfl (by omega) (by omega)) (intv (b := ((fi : Nat) : Int)) (by rw [hfi, Int.natCast_emod]))) (.inl rfl) rfl rfl rfl ?_; clear hf a; intro a hf
          refine o_v hf hh (yv_assign rfl) ?_; clear hf a; intro a hf
          refine o_end ?_
          refine sy_sq ?_
          refine o_v hf hh (yv_move rfl) ?_; clear hf a; intro a hf
          refine o_v hf hh (yv_move rfl) ?_; clear hf a; intro a hf
          first | refine o_v hf hh (yv_convx (.inl rfl) (by kernel_rfl) Try.un_3 rfl (by omega) (by simp only [IntKind.top]; omega)) ?_; clear hf a; intro a hf | refine o_v hf hh (yv_conv (by kernel_rfl) Try.un_3 rfl) ?_; clear hf a; intro a hf
          refine o_v hf hh (yv_move rfl) ?_; clear hf a; intro a hf
          refine o_v hf hh (yv_move rfl) ?_; clear hf a; intro a hf
          refine o_v hf hh (y_sub rfl rfl) ?_; clear hf a; intro a hf
          refine ops_v hf hh (yv_cast (yv_rem rfl rfl (by omega) (by omega)) (intv (b := rm) (by rw [hrm]))) (.inl rfl) rfl rfl rfl ?_; clear hf a; intro a hf
          refine ops_v hf hh (yv_cast (yv_add rfl rfl (by omega) (by omega)) (intv (b := la) (by rw [hla]))) (.inl rfl) rfl rfl rfl ?_; clear hf a; intro a hf
          refine o_v hf hh (yv_assign rfl) ?_; clear hf a; intro a hf
          refine o_end ?_
          refine sy_seq ?_
          refine sy_treeS (.p 0 (.q 0 1 (.p 3 (.p 5 (.p 6 (.p 7 (.p 8 (.p 9 (.p 10 (.s2 [2, 4, 11, 12, 14] [2, 4, 11, 12] 13 (.e1 15 (.fin)))))))))))) [[]] [(AtE u8 [] [], [])] Try.follows (by kernel_rfl) rfl hh (fun w hh => ?_)
          refine ms_p rfl   hf (yv_sliceArr Try.ae_24 rfl) (.inl rfl) rfl rfl ?_; clear hf a; intro a hf
          refine ms_q rfl rfl (AtE.of hh (by intro p hp; cases hp)) hf (y_ld Try.sc_3 rfl) (.inl rfl) rfl rfl ?_; clear hf a; intro a hf
          refine ms_p rfl   hf (yv_move rfl) (.inl rfl) rfl rfl ?_; clear hf a; intro a hf
          refine ms_p rfl   hf (yv_move rfl) (.inl rfl) rfl rfl ?_; clear hf a; intro a hf
          refine ms_p rfl   hf (y_sub rfl rfl) (.inl rfl) rfl rfl ?_; clear hf a; intro a hf
          refine ms_p rfl   hf (yv_buildS Try.bs_49 rfl rfl) (.inl rfl) rfl rfl ?_; clear hf a; intro a hf
          refine ms_p rfl   hf (yv_move rfl) (.inl rfl) rfl rfl ?_; clear hf a; intro a hf
          refine ms_p rfl   hf (yv_move rfl) (.inl rfl) rfl rfl ?_; clear hf a; intro a hf
          refine ms_p rfl   hf (yv_buildS Try.bs_49 rfl rfl) (.inl rfl) rfl rfl ?_; clear hf a; intro a hf
          refine ms_s2 [⟨2, 163, fun b => .slice (some ⟨b, 0, none⟩) 1 1, .cells #[.int .i64 price] 3⟩, ⟨4, 165, fun b => .slice (some ⟨b, 0, none⟩) 1 1, .cells #[.slice sa sh.length ca] 25⟩, ⟨11, 172, fun b => .slice (some ⟨b, 0, none⟩) 2 2, .cells #[.int .i64 0, .int .i64 0, .int .i64 0, .int .i64 ((mn : Nat) - 1), .int .i64 1, .int .i64 0, .int .i64 (fi : Nat), .int .i64 la] 49⟩, ⟨12, 173, fun b => .slice (some ⟨b, 0, none⟩) 2 2, .cells #[.int .i64 0, .int .i64 0] 3⟩, ⟨14, 23, fun b => ptr b 0, .cells (Value.agg #[.slice none 0 0, .slice none 0 0, .slice none 0 0, .slice none 0 0, .slice none 0 0]).cells 52⟩] [⟨2, 163, fun b => .slice (some ⟨b, 0, none⟩) 1 1, .cells #[.int .i64 price] 3⟩, ⟨4, 165, fun b => .slice (some ⟨b, 0, none⟩) 1 1, .cells #[.slice sa sh.length ca] 25⟩, ⟨11, 172, fun b => .slice (some ⟨b, 0, none⟩) 2 2, .cells #[.int .i64 0, .int .i64 0, .int .i64 0, .int .i64 ((mn : Nat) - 1), .int .i64 1, .int .i64 0, .int .i64 (fi : Nat), .int .i64 la] 49⟩, ⟨12, 173, fun b => .slice (some ⟨b, 0, none⟩) 2 2, .cells #[.int .i64 0, .int .i64 0] 3⟩] 174 13 (fun β => .agg #[.slice (some ⟨B6, 0, none⟩) 2 2, .slice (some ⟨β 2, 0, none⟩) 1 1, .slice (some ⟨β 4, 0, none⟩) 1 1, .slice (some ⟨β 11, 0, none⟩) 2 2, .slice (some ⟨β 12, 0, none⟩) 2 2]) [(161, .slice (some ⟨B6, 0, none⟩) 2 2)] hf hh ?_ ?_ (by show List.Nodup [2, 4, 11, 12, 14]; decide) (by show List.Nodup [174, 163, 165, 172, 173, 23]; decide) (fun i w w' e => ⟨fun _ h => h.more e, trivial⟩) ?_ rfl rfl rfl rfl (by repeat' (first | exact True.intro | refine And.intro rfl ?_)) (lo_ne rfl) (fun β β' h => by simp only [show β 2 = β' 2 from h _ (.head _), show β 4 = β' 4 from h _ (.tail _ (.head _)), show β 11 = β' 11 from h _ (.tail _ (.tail _ (.head _))), show β 12 = β' 12 from h _ (.tail _ (.tail _ (.tail _ (.head _))))]) (fun β => yv_buildS Try.bs_52 rfl rfl) fun β a w hf hh => ?_
          ·intro s hs
           rcases List.mem_cons.1 hs with rfl | hs
           ·exact layOk (Lo := [(162, .int .i64 price)]) rfl rfl rfl rfl rfl (lay_buildSl Try.bl_25_1 rfl rfl) (by repeat' (first | exact True.intro | refine And.intro rfl ?_)) rfl
           rcases List.mem_cons.1 hs with rfl | hs
           ·exact layOk (Lo := [(164, .slice sa sh.length ca)]) rfl rfl rfl rfl rfl (lay_buildSl Try.bl_47_1 rfl rfl) (by repeat' (first | exact True.intro | refine And.intro rfl ?_)) rfl
           rcases List.mem_cons.1 hs with rfl | hs
           ·exact layOk (Lo := [(168, .agg #[.int .i64 0, .int .i64 0, .int .i64 0, .int .i64 ((mn : Nat) - 1)]), (171, .agg #[.int .i64 1, .int .i64 0, .int .i64 (fi : Nat), .int .i64 la])]) rfl rfl rfl rfl rfl (lay_buildSl Try.bl_50_2 rfl rfl) (by repeat' (first | exact True.intro | refine And.intro rfl ?_)) rfl
           rcases List.mem_cons.1 hs with rfl | hs
           ·exact layOk (Lo := []) rfl rfl rfl rfl rfl (lay_buildSl Try.bl_25_2 rfl rfl) (by repeat' (first | exact True.intro | refine And.intro rfl ?_)) rfl
           rcases List.mem_cons.1 hs with rfl | hs
           ·exact layOk (Lo := []) rfl rfl rfl rfl rfl (lay_alloc Try.ze_52) (by repeat' (first | exact True.intro | refine And.intro rfl ?_)) rfl
           cases hs
          ·intro v s hs
           rcases List.mem_cons.1 hs with rfl | hs
           ·exact layOk (Lo := [(162, .int .i64 price)]) rfl rfl rfl rfl rfl (lay_buildSl Try.bl_25_1 rfl rfl) (by repeat' (first | exact True.intro | refine And.intro rfl ?_)) rfl
           rcases List.mem_cons.1 hs with rfl | hs
           ·exact layOk (Lo := [(164, .slice sa sh.length ca)]) rfl rfl rfl rfl rfl (lay_buildSl Try.bl_47_1 rfl rfl) (by repeat' (first | exact True.intro | refine And.intro rfl ?_)) rfl
           rcases List.mem_cons.1 hs with rfl | hs
           ·exact layOk (Lo := [(168, .agg #[.int .i64 0, .int .i64 0, .int .i64 0, .int .i64 ((mn : Nat) - 1)]), (171, .agg #[.int .i64 1, .int .i64 0, .int .i64 (fi : Nat), .int .i64 la])]) rfl rfl rfl rfl rfl (lay_buildSl Try.bl_50_2 rfl rfl) (by repeat' (first | exact True.intro | refine And.intro rfl ?_)) rfl
           rcases List.mem_cons.1 hs with rfl | hs
           ·exact layOk (Lo := []) rfl rfl rfl rfl rfl (lay_buildSl Try.bl_25_2 rfl rfl) (by repeat' (first | exact True.intro | refine And.intro rfl ?_)) rfl
           rcases List.mem_cons.1 hs with rfl | hs
           ·exact layOk (Lo := []) rfl rfl rfl rfl rfl (lay_alloc Try.ze_52) (by repeat' (first | exact True.intro | refine And.intro rfl ?_)) rfl
           cases hs
          ·intro s hs
           rcases List.mem_cons.1 hs with rfl | hs
           ·exact .head _
           rcases List.mem_cons.1 hs with rfl | hs
           ·exact .tail _ (.head _)
           rcases List.mem_cons.1 hs with rfl | hs
           ·exact .tail _ (.tail _ (.head _))
           rcases List.mem_cons.1 hs with rfl | hs
           ·exact .tail _ (.tail _ (.tail _ (.head _)))
           cases hs
          simp only [List.map_cons, List.map_nil, List.cons_append, List.nil_append] at hf hh
          obtain ⟨B163, hB163⟩ : ∃ b, b = β 2 := ⟨_, rfl⟩
          rw [← hB163] at hf hh; clear hB163
          obtain ⟨B165, hB165⟩ : ∃ b, b = β 4 := ⟨_, rfl⟩
          rw [← hB165] at hf hh; clear hB165
          obtain ⟨B172, hB172⟩ : ∃ b, b = β 11 := ⟨_, rfl⟩
          rw [← hB172] at hf hh; clear hB172
          obtain ⟨B173, hB173⟩ : ∃ b, b = β 12 := ⟨_, rfl⟩
          rw [← hB173] at hf hh; clear hB173
          obtain ⟨B23, hB23⟩ : ∃ b, b = β 14 := ⟨_, rfl⟩
          rw [← hB23] at hf hh; clear hB23
          refine ms_e rfl fun Q1 => ?_
          refine o_store hf hh Try.sz_52 fun w hh => ?_
          refine ops_end ?_
          refine then_n ⟨⟨fun _ _ => (AtE.of hh (by intro p hp; cases hp)), trivial⟩, ?_⟩
          refine ms_end ?_
          refine then_n ?_
          refine sy_seq ?_
          replace hh : Hp u8 [] [(B163, .cells #[.int .i64 price] 3), (B165, .cells #[.slice sa sh.length ca] 25), (B172, .cells #[.int .i64 0, .int .i64 0, .int .i64 0, .int .i64 ((mn : Nat) - 1), .int .i64 1, .int .i64 0, .int .i64 (fi : Nat), .int .i64 la] 49), (B173, .cells #[.int .i64 0, .int .i64 0] 3), (B23, .cells #[.slice (some ⟨B6, 0, none⟩) 2 2, .slice (some ⟨B163, 0, none⟩) 1 1, .slice (some ⟨B165, 0, none⟩) 1 1, .slice (some ⟨B172, 0, none⟩) 2 2, .slice (some ⟨B173, 0, none⟩) 2 2] 52)] w := hh
          have hF : (0 : Int) ≤ (fi : Nat) ∧ ((fi : Nat) : Int) ≤ la ∧ la < (mn : Nat) := by omega
          have hRo : RoyAt w (tillD t0 t1 price mn sh (fi : Nat) la) ⟨some ⟨B6, 0, none⟩, some ⟨B163, 0, none⟩, some ⟨B165, 0, none⟩, some ⟨B172, 0, none⟩, some ⟨B173, 0, none⟩, 2, 1, 1, 2, 2⟩ := by
            refine ⟨fun i s hi => ⟨B6, 0, _, _, _, rfl, hh.old q6, ?_⟩, iat_lit (hh.at (i := 0) rfl) rfl, fun i s hi => ⟨B165, 0, _, _, _, sa, ca, rfl, hh.at (i := 1) rfl, ?_⟩, fun i s hi => ⟨B172, 0, _, _, _, rfl, hh.at (i := 2) rfl, ?_⟩, iat_lit (hh.at (i := 3) rfl) rfl, by show 2 ≤ 1000; omega, by show 1 ≤ 1000; omega, by show 1 ≤ 1000; omega, by show 2 ≤ 1000; omega, by show 2 ≤ 1000; omega, fun l hl => ?_, by show 2 ≤ 2; omega⟩
            · match i, hi with
              | 0, hi => cases hi; rfl
              | 1, hi => cases hi; rfl
              | i + 2, hi => simp [tillD] at hi
            · match i, hi with
              | 0, hi => cases hi; exact ⟨rfl, hA8.ext hh.ext⟩
              | i + 1, hi => simp [tillD] at hi
            · match i, hi with
              | 0, hi => cases hi; rfl
              | 1, hi => cases hi; rfl
              | i + 2, hi => simp [tillD] at hi
            · rw [List.mem_singleton.1 hl]; omega
          obtain ⟨hE, hll, hlm, hal⟩ := till_least hT0 hT1 ⟨hP0, hP1⟩ (show 1 ≤ mn ∧ mn ≤ 12 by omega) hS hF
          obtain ⟨hPo0, hPo1, ⟨hPo2, hPo3⟩, hcn, hgt⟩ := till_pool hT0 hT1 ⟨hP0, hP1⟩ (show 1 ≤ mn ∧ mn ≤ 12 by omega) hS hF
          replace hh : Hp u8 [] [(B163, .cells #[.int .i64 price] 3), (B165, .cells #[.slice sa sh.length ca] 25), (B172, .cells #[.int .i64 0, .int .i64 0, .int .i64 0, .int .i64 ((mn : Nat) - 1), .int .i64 1, .int .i64 0, .int .i64 (fi : Nat), .int .i64 la] 49), (B173, .cells #[.int .i64 0, .int .i64 0] 3), (B23, .cells (royC (tillD t0 t1 price mn sh (fi : Nat) la) ⟨some ⟨B6, 0, none⟩, some ⟨B163, 0, none⟩, some ⟨B165, 0, none⟩, some ⟨B172, 0, none⟩, some ⟨B173, 0, none⟩, 2, 1, 1, 2, 2⟩) 52)] w := hh
          obtain ⟨d, hd⟩ : ∃ d, d = tillD t0 t1 price mn sh (fi : Nat) la := ⟨_, rfl⟩
          obtain ⟨pl, hpl⟩ : ∃ p : Pl, p = ⟨some ⟨B6, 0, none⟩, some ⟨B163, 0, none⟩, some ⟨B165, 0, none⟩, some ⟨B172, 0, none⟩, some ⟨B173, 0, none⟩, 2, 1, 1, 2, 2⟩ := ⟨_, rfl⟩
          rw [← hd] at hE hll hlm hal hPo0 hPo1 hPo2 hPo3 hgt
          rw [← hd, ← hpl] at hh hRo
          clear hlm hcn
          have q23 : w.heap[B23]? = some (.cells (royC d pl) 52 (0, 0)) := hh.at (i := 4) rfl
          replace q6 := hh.old q6; replace q7 := hh.old q7; replace q15 := hh.old q15; replace q17 := hh.old q17
          have hA9 := hA8.ext hh.ext
          have e9 := hh.ext
          obtain ⟨u9, rfl⟩ : ∃ z, z = w := ⟨_, rfl⟩
          replace hh := Hp.init u9 []
          refine sy_ops ?_
          refine o_v hf hh (y_lds Try.ag_52 rfl) ?_; clear hf a; intro a hf
          refine o_call hf Try.en_11 rfl rfl rfl (p30 d pl 0 _ (hRo.ext hh.ext)) ?_; clear hf a; intro v a w hR hf
          rw [hE] at hR
          obtain ⟨sv, Xl, rfl, hOl, hx⟩ := hR
          obtain ⟨oal, cpl, rfl⟩ := own_val hOl
          replace hh := (hh.join hx).perm List.perm_append_comm; clear hx
          refine o_v hf hh (yv_move rfl) ?_; clear hf a; intro a hf
          refine o_v hf hh (yv_extract rfl rfl) ?_; clear hf a; intro a hf
          refine o_v hf hh (yv_extract rfl rfl) ?_; clear hf a; intro a hf
          refine o_v hf hh (yv_assign rfl) ?_; clear hf a; intro a hf
          refine o_v hf hh (yv_assign rfl) ?_; clear hf a; intro a hf
          refine o_end ?_
          refine sy_sq ?_
          refine o_v hf hh (y_lds Try.ag_52 rfl) ?_; clear hf a; intro a hf
          refine o_call hf Try.en_12 rfl rfl rfl (p28 d pl 0 _ (hRo.ext hh.ext)) ?_; clear hf a; intro v a w hR hf
          rw [hE] at hR
          obtain ⟨rfl, hx⟩ := hR; replace hh := hh.more hx; clear hx
          refine o_v hf hh (yv_move rfl) ?_; clear hf a; intro a hf
          refine o_v hf hh (yv_extract rfl rfl) ?_; clear hf a; intro a hf
          refine o_v hf hh (yv_extract rfl rfl) ?_; clear hf a; intro a hf
          refine o_alloc hf hh Try.ze_36 ?_; clear hf hh a; intro B26 a w hf hh
          refine o_store hf hh Try.sz_36 fun w hh => ?_
          refine o_v hf hh (yv_assign rfl) ?_; clear hf a; intro a hf
          refine o_end ?_
          refine sy_seq ?_
          refine sy_seq ?_
          have hNl : NAt w oal (leaV d 0) := nat_own hOl (fun q hq => hh.get q (by simp [hq]))
          have q26 : w.heap[B26]? = some (.cells #[.int .i64 (allV d 0).1, .int .i64 (allV d 0).2] 36 (0, 0)) := hh.at (i := 0) rfl
          replace q6 := hh.old q6; replace q7 := hh.old q7; replace q15 := hh.old q15; replace q17 := hh.old q17; replace q23 := hh.old q23
          replace hRo := hRo.ext hh.ext
          have hA10 := hA9.ext hh.ext
          have e10 := hh.ext
          obtain ⟨u10, rfl⟩ : ∃ z, z = w := ⟨_, rfl⟩
          replace hh := Hp.init u10 []
          obtain ⟨ll, hlld⟩ : ∃ ll, ll = leaV d 0 := ⟨_, rfl⟩
          rw [← hlld] at hll hal hNl hf
          obtain ⟨lo, hlo⟩ : ∃ z : Int, z = (allV d 0).1 := ⟨_, rfl⟩
          rw [← hlo] at q26 hal hPo0 hPo1 hPo2 hPo3 hgt
          obtain ⟨hi9, hhi⟩ : ∃ z : Int, z = (allV d 0).2 := ⟨_, rfl⟩
          rw [← hhi] at q26
          have hl12 : ll.length ≤ 12 := by omega
          clear hOl hlld hlo hhi hE
          refine sy_ops ?_
          refine o_v hf hh (yv_move rfl) ?_; clear hf a; intro a hf
          refine o_v hf hh (yv_bin rfl rfl rfl) ?_; clear hf a; intro a hf
          refine o_v hf hh (yv_move rfl) ?_; clear hf a; intro a hf
          refine o_v hf hh (yv_move rfl) ?_; clear hf a; intro a hf
          refine o_v hf hh (yv_bin rfl rfl rfl) ?_; clear hf a; intro a hf
          refine o_v hf hh (y_pf rfl rfl) ?_; clear hf a; intro a hf
          refine o_v hf hh (yv_move rfl) ?_; clear hf a; intro a hf
          refine o_v hf hh (yv_move rfl) ?_; clear hf a; intro a hf
          refine o_v hf hh (yv_len Try.se_25 rfl) ?_; clear hf a; intro a hf
          refine o_v hf hh (yv_move rfl) ?_; clear hf a; intro a hf
          refine o_v hf hh (yv_bin rfl rfl rfl) ?_; clear hf a; intro a hf
          refine o_v hf hh (y_pf rfl rfl) ?_; clear hf a; intro a hf
          refine o_end ?_
          refine c_f hf ?_
          refine sy_skip ?_
          refine then_n ?_
          refine sy_sq ?_
          refine o_v hf hh (yv_assign rfl) ?_; clear hf a; intro a hf
          refine o_end ?_
          refine sy_seq ?_
          refine sy_sq ?_
          refine o_v hf hh (y_lds Try.ag_24 rfl) ?_; clear hf a; intro a hf
          refine o_v hf hh (yv_move rfl) ?_; clear hf a; intro a hf
          refine o_end ?_
          refine sy_block ?_
          refine sy_loopF (σ := Nat) [12, 28, 29, 30, 31, 33, 34, 35, 198, 199, 200, 201, 202, 203, 204, 205, 206, 207, 208, 209, 210, 211, 212, 213, 214, 215, 216, 217, 218, 219, 220, 221, 222, 223, 224, 225, 226] (fun g => [(198, .int .i64 (g : Nat)), (28, .int .i64 (cS t0 t1 price ll g))]) (fun g => g ≤ 2) (fun g => 2 - g) (0) hf hh ?_ ?_ ?_
          · repeat' (first | exact True.intro | refine And.intro rfl ?_)
          · exact Nat.zero_le _
          ·rintro g a w hg hf hh
           refine sy_sq ?_
           refine o_v hf hh (yv_bin rfl rfl rfl) ?_; clear hf a; intro a hf
           refine o_end ?_
           refine sy_seq ?_
           refine sy_cond hf rfl (fun hg59 => ?_) (fun hg59 => ?_)
           ·have hG59 := hg59; try simp only [gS] at hG59
            refine sy_skip ?_
            refine then_n ?_
            refine sy_seq ?_
            refine sy_block ?_
            refine sy_sq ?_
            refine o_v hf hh (yv_move rfl) ?_; clear hf a; intro a hf
            refine o_v hf hh (yv_cast (yv_idxA Try.ae_24 Try.ag_23 rfl rfl) (tms_at t0 t1 g (by omega))) ?_; clear hf a; intro a hf
            refine o_alloc hf hh Try.ze_23 ?_; clear hf hh a; intro B30 a w hf hh
            refine o_v hf hh (yv_assign rfl) ?_; clear hf a; intro a hf
            refine o_store hf hh Try.sz_23 fun w hh => ?_
            refine o_end ?_
            refine sy_sq ?_
            refine o_v hf hh (yv_assign rfl) ?_; clear hf a; intro a hf
            refine o_end ?_
            refine sy_seq ?_
            refine sy_sq ?_
            refine o_v hf hh (yv_move rfl) ?_; clear hf a; intro a hf
            refine o_v hf hh (yv_len Try.se_25 rfl) ?_; clear hf a; intro a hf
            refine o_v hf hh (yv_move rfl) ?_; clear hf a; intro a hf
            refine o_end ?_
            refine sy_block ?_
            refine sy_loopF (σ := Nat) [31, 33, 204, 205, 206, 207, 208, 209, 210, 211, 212, 213] (fun j => [(204, .int .i64 (j : Nat)), (31, .int .i64 ((ll.take j).count g : Nat))]) (fun j => j ≤ ll.length) (fun j => ll.length - j) (0) hf hh ?_ ?_ ?_
            · repeat' (first | exact True.intro | refine And.intro rfl ?_)
            · exact Nat.zero_le _
            ·rintro j a w hj hf hh
             refine sy_sq ?_
             refine o_v hf hh (yv_bin rfl rfl rfl) ?_; clear hf a; intro a hf
             refine o_end ?_
             refine sy_seq ?_
             refine sy_cond hf rfl (fun hg62 => ?_) (fun hg62 => ?_)
             ·have hG62 := hg62; try simp only [gS] at hG62
              refine sy_skip ?_
              refine then_n ?_
              refine sy_seq ?_
              refine sy_block ?_
              refine sy_seq ?_
              obtain ⟨x, hx⟩ := ex_of (l := ll) (i := j) (by omega)
              obtain ⟨blk, off, cc, TT, frr, e5, hb5, hc5⟩ := hNl j x hx; subst e5
              have hct := count_take (g := g) hx
              have hcj := cnt_le (g := g) (i := j) hl12
              refine sy_ops ?_
              refine o_v hf hh (y_ix Try.se_25 rfl rfl) ?_; clear hf a; intro a hf
              refine o_v hf hh (y_ld Try.sc_3 rfl) ?_; clear hf a; intro a hf
              refine o_v hf hh (yv_assign rfl) ?_; clear hf a; intro a hf
              refine o_end ?_
              refine sy_sq ?_
              refine o_v hf hh (yv_move rfl) ?_; clear hf a; intro a hf
              refine o_v hf hh (yv_move rfl) ?_; clear hf a; intro a hf
              refine o_v hf hh (yv_bin rfl rfl rfl) ?_; clear hf a; intro a hf
              refine o_end ?_
              refine sy_cond hf rfl (fun hg64 => ?_) (fun hg64 => ?_)
              ·have hG64 := hg64; try simp only [gS] at hG64
               refine sy_ops ?_
               refine o_v hf hh (yv_move rfl) ?_; clear hf a; intro a hf
               refine o_v hf hh (y_add rfl rfl) ?_; clear hf a; intro a hf
               refine o_v hf hh (yv_assign rfl) ?_; clear hf a; intro a hf
               refine ops_end ?_
               refine blk_n ?_
               refine then_n ?_
               refine sy_ops ?_
               refine o_v hf hh (y_add rfl rfl) ?_; clear hf a; intro a hf
               refine o_v hf hh (yv_move rfl) ?_; clear hf a; intro a hf
               refine ops_end ?_
               refine then_n ?_
               first
                 | (have hy : x = g := by omega
                    rw [if_pos hy] at hct
                    exact ⟨j + 1, ⟨by omega, hf.head ⟨rfl, congrArg (fun z : Int => some (Value.int IntKind.i64 z)) (show (((ll.take j).count g : Nat) : Int) + 1 = (((ll.take (j + 1)).count g : Nat) : Int) by omega), True.intro⟩ (Keep.cons rfl (Keep.cons rfl (Keep.cons rfl (Keep.cons rfl (Keep.cons rfl (Keep.cons rfl (Keep.cons rfl (Keep.cons rfl (Keep.cons rfl (Keep.cons rfl (Keep.cons rfl (Keep.cons rfl (Keep.app rfl (Keep.rm rfl Keep.base)))))))))))))), hh⟩, by omega⟩)
                 | (have hy : ¬ x = g := by omega
                    rw [if_neg hy] at hct
                    exact ⟨j + 1, ⟨by omega, hf.head ⟨rfl, congrArg (fun z : Int => some (Value.int IntKind.i64 z)) (show (((ll.take j).count g : Nat) : Int) = (((ll.take (j + 1)).count g : Nat) : Int) by omega), True.intro⟩ (Keep.cons rfl (Keep.cons rfl (Keep.cons rfl (Keep.cons rfl (Keep.cons rfl (Keep.cons rfl (Keep.cons rfl (Keep.cons rfl (Keep.cons rfl (Keep.cons rfl (Keep.cons rfl (Keep.cons rfl (Keep.app rfl (Keep.rm rfl Keep.base)))))))))))))), hh⟩, by omega⟩)
              ·have hG64 := hg64; try simp only [gS] at hG64
               refine sy_skip ?_
               refine blk_n ?_
               refine then_n ?_
               refine sy_ops ?_
               refine o_v hf hh (y_add rfl rfl) ?_; clear hf a; intro a hf
               refine o_v hf hh (yv_move rfl) ?_; clear hf a; intro a hf
               refine ops_end ?_
               refine then_n ?_
               first
                 | (have hy : x = g := by omega
                    rw [if_pos hy] at hct
                    exact ⟨j + 1, ⟨by omega, hf.head ⟨rfl, congrArg (fun z : Int => some (Value.int IntKind.i64 z)) (show (((ll.take j).count g : Nat) : Int) + 1 = (((ll.take (j + 1)).count g : Nat) : Int) by omega), True.intro⟩ (Keep.cons rfl (Keep.cons rfl (Keep.cons rfl (Keep.cons rfl (Keep.cons rfl (Keep.cons rfl (Keep.cons rfl (Keep.cons rfl (Keep.cons rfl (Keep.app rfl (Keep.rm rfl Keep.base))))))))))), hh⟩, by omega⟩)
                 | (have hy : ¬ x = g := by omega
                    rw [if_neg hy] at hct
                    exact ⟨j + 1, ⟨by omega, hf.head ⟨rfl, congrArg (fun z : Int => some (Value.int IntKind.i64 z)) (show (((ll.take j).count g : Nat) : Int) = (((ll.take (j + 1)).count g : Nat) : Int) by omega), True.intro⟩ (Keep.cons rfl (Keep.cons rfl (Keep.cons rfl (Keep.cons rfl (Keep.cons rfl (Keep.cons rfl (Keep.cons rfl (Keep.cons rfl (Keep.cons rfl (Keep.app rfl (Keep.rm rfl Keep.base))))))))))), hh⟩, by omega⟩)
             ·have hG62 := hg62; try simp only [gS] at hG62
              refine sy_exit ?_
              refine then_e ?_
              refine then_e ?_
              refine blk_e ?_
              refine then_n ?_
              refine sy_seq ?_
              obtain rfl : j = ll.length := by omega
              rw [List.take_length] at hf
              have hcg : ll.count g ≤ 12 := Nat.le_trans List.count_le_length hl12
              have hbd := cS_bd hT0 hT1 ⟨hP0, hP1⟩ hl12 g (by omega)
              have hcb := com_le12 (tA_ok hT0 hT1 g) ⟨hP0, hP1⟩ hcg
              obtain ⟨hw1, hw2⟩ := comW_ok (tA_ok hT0 hT1 g) ⟨hP0, hP1⟩ hcg
              refine sy_ops ?_
              refine o_v hf hh (y_lds Try.ag_23 rfl) ?_; clear hf a; intro a hf
              refine o_v hf hh (y_ld Try.sc_3 rfl) ?_; clear hf a; intro a hf
              refine o_v hf hh (yv_move rfl) ?_; clear hf a; intro a hf
              refine o_call hf Try.en_13 rfl rfl rfl (p17 (tA t0 t1 g) price (ll.count g : Nat) _) ?_; clear hf a; intro v a w hR hf
              rw [hw1, hw2] at hR
              obtain ⟨rfl, hx⟩ := hR; replace hh := hh.more hx; clear hx
              refine o_v hf hh (yv_move rfl) ?_; clear hf a; intro a hf
              refine o_v hf hh (yv_extract rfl rfl) ?_; clear hf a; intro a hf
              refine o_v hf hh (yv_extract rfl rfl) ?_; clear hf a; intro a hf
              refine o_v hf hh (yv_assign rfl) ?_; clear hf a; intro a hf
              refine o_v hf hh (yv_assign rfl) ?_; clear hf a; intro a hf
              refine o_end ?_
              refine sy_seq ?_
              refine sy_sq ?_
              refine o_v hf hh (yv_move rfl) ?_; clear hf a; intro a hf
              refine o_v hf hh (yv_bin rfl rfl rfl) ?_; clear hf a; intro a hf
              refine o_end ?_
              refine c_f hf ?_
              refine sy_skip ?_
              refine then_n ?_
              refine sy_ops ?_
              refine o_v hf hh (yv_move rfl) ?_; clear hf a; intro a hf
              refine o_v hf hh (yv_move rfl) ?_; clear hf a; intro a hf
              refine o_v hf hh (y_add rfl rfl) ?_; clear hf a; intro a hf
              refine o_v hf hh (yv_assign rfl) ?_; clear hf a; intro a hf
              refine ops_end ?_
              refine blk_n ?_
              refine then_n ?_
              refine sy_ops ?_
              refine o_v hf hh (y_add rfl rfl) ?_; clear hf a; intro a hf
              refine o_v hf hh (yv_move rfl) ?_; clear hf a; intro a hf
              refine ops_end ?_
              refine then_n ?_
              exact ⟨g + 1, ⟨by omega, (hf.head (by repeat' (first | exact True.intro | refine And.intro rfl ?_)) (Keep.cons rfl (Keep.cons rfl (Keep.cons rfl (Keep.cons rfl (Keep.cons rfl (Keep.cons rfl (Keep.cons rfl (Keep.cons rfl (Keep.cons rfl (Keep.cons rfl (Keep.cons rfl (Keep.cons rfl (Keep.cons rfl (Keep.cons rfl (Keep.cons rfl (Keep.cons rfl (Keep.cons rfl (Keep.cons rfl (Keep.app rfl (Keep.rm rfl (Keep.cons rfl (Keep.cons rfl (Keep.cons rfl (Keep.cons rfl (Keep.cons rfl (Keep.cons rfl (Keep.cons rfl (Keep.cons rfl (Keep.cons rfl (Keep.app rfl (Keep.rm rfl Keep.base)))))))))))))))))))))))))))))))), hh.less (.cons _ (List.Sublist.refl _))⟩, by omega⟩
           ·have hG59 := hg59; try simp only [gS] at hG59
            refine sy_exit ?_
            refine then_e ?_
            refine then_e ?_
            refine blk_e ?_
            refine then_n ?_
            refine sy_seq ?_
            obtain rfl : g = 2 := by omega
            rw [cS_two, ← hal] at hf
            have hspB : splB (price * (mn : Nat) - lo) sh = true := by
              unfold splB inI
              rw [shB_iff.2 hS]
              simp only [Bool.and_true, Bool.and_eq_true, decide_eq_true_eq]; omega
            have hspV : splV (price * (mn : Nat) - lo) sh = splitL (price * (mn : Nat) - lo) sh := if_pos hspB
            have hspE : splE (price * (mn : Nat) - lo) sh = 0 := if_pos hspB
            have hps := split_sum (n := price * (mn : Nat) - lo) hS
            have hpl9 : (splitL (price * (mn : Nat) - lo) sh).length = sh.length := by unfold splitL; rw [List.length_map, List.length_range]
            have hpb : ∀ j, j < sh.length → 0 ≤ (splitL (price * (mn : Nat) - lo) sh).getD j 0 ∧ (splitL (price * (mn : Nat) - lo) sh).getD j 0 ≤ 12582913 := fun j hj => part_bd hPo0 hPo1 hS hj
            obtain ⟨pts, hpts⟩ : ∃ l, l = splitL (price * (mn : Nat) - lo) sh := ⟨_, rfl⟩
            rw [← hpts] at hps hpl9 hpb hgt hspV
            have hpa : ∀ x ∈ pts, -12582913 ≤ x ∧ x ≤ 12582913 := fun x hx => by
              obtain ⟨j, hj, e⟩ := List.getElem_of_mem hx
              have h := hpb j (by omega)
              rw [List.getD_eq_getElem?_getD, List.getElem?_eq_getElem hj, e] at h
              have h2 : 0 ≤ x ∧ x ≤ 12582913 := h
              omega
            refine sy_ops ?_
            refine o_v hf hh (y_ld Try.sc_3 rfl) ?_; clear hf a; intro a hf
            refine o_v hf hh (yv_move rfl) ?_; clear hf a; intro a hf
            refine o_v hf hh (y_mul rfl rfl) ?_; clear hf a; intro a hf
            refine o_v hf hh (yv_move rfl) ?_; clear hf a; intro a hf
            refine o_v hf hh (y_sub rfl rfl) ?_; clear hf a; intro a hf
            refine o_v hf hh (yv_move rfl) ?_; clear hf a; intro a hf
            refine o_call hf Try.en_14 rfl rfl rfl (p15 (price * (mn : Nat) - lo) sh sa ca _ (hA10.ext hh.ext) (by omega)) ?_; clear hf a; intro v a w hR hf
            rw [hspV, hspE] at hR
            obtain ⟨oap, capp, Xp, rfl, hOp, hx⟩ := hR; replace hh := (hh.join hx).perm List.perm_append_comm; clear hx
            refine o_v hf hh (yv_move rfl) ?_; clear hf a; intro a hf
            refine o_v hf hh (yv_extract rfl rfl) ?_; clear hf a; intro a hf
            refine o_v hf hh (yv_extract rfl rfl) ?_; clear hf a; intro a hf
            refine o_v hf hh (yv_assign rfl) ?_; clear hf a; intro a hf
            refine o_v hf hh (yv_assign rfl) ?_; clear hf a; intro a hf
            refine o_end ?_
            refine sy_seq ?_
            refine sy_sq ?_
            refine o_v hf hh (yv_move rfl) ?_; clear hf a; intro a hf
            refine o_v hf hh (yv_fieldAddr Try.fo_36_0 rfl) ?_; clear hf a; intro a hf
            refine o_v hf hh (y_ld Try.sc_3 rfl) ?_; clear hf a; intro a hf
            refine o_v hf hh (yv_bin rfl rfl rfl) ?_; clear hf a; intro a hf
            refine o_v hf hh (yv_move rfl) ?_; clear hf a; intro a hf
            refine o_v hf hh (yv_move rfl) ?_; clear hf a; intro a hf
            refine o_v hf hh (yv_bin rfl rfl rfl) ?_; clear hf a; intro a hf
            refine o_v hf hh (y_pf rfl rfl) ?_; clear hf a; intro a hf
            refine o_v hf hh (yv_move rfl) ?_; clear hf a; intro a hf
            refine o_v hf hh (yv_move rfl) ?_; clear hf a; intro a hf
            refine o_v hf hh (yv_len Try.se_25 rfl) ?_; clear hf a; intro a hf
            refine o_v hf hh (yv_move rfl) ?_; clear hf a; intro a hf
            refine o_v hf hh (yv_len Try.se_25 rfl) ?_; clear hf a; intro a hf
            refine o_v hf hh (yv_bin rfl rfl rfl) ?_; clear hf a; intro a hf
            refine o_v hf hh (y_pf rfl rfl) ?_; clear hf a; intro a hf
            refine o_end ?_
            refine c_f hf ?_
            refine sy_skip ?_
            refine then_n ?_
            refine sy_seq ?_
            refine sy_sq ?_
            refine o_v hf hh (yv_move rfl) ?_; clear hf a; intro a hf
            refine o_v hf hh (yv_len Try.se_25 rfl) ?_; clear hf a; intro a hf
            refine o_v hf hh (yv_move rfl) ?_; clear hf a; intro a hf
            refine o_end ?_
            refine sy_block ?_
            refine sy_loopF (σ := Nat) [12, 28, 38, 39, 40, 41, 254, 255, 256, 257, 258, 259, 260, 261, 262, 263, 264, 265, 266, 267, 268, 269, 270, 271, 272, 273, 274, 275, 276, 277, 278, 279, 280, 281, 282] (fun i => [(254, .int .i64 (i : Nat)), (28, .int .i64 (lo + sumI (pts.take i)))]) (fun i => i ≤ pts.length) (fun i => pts.length - i) (0) hf hh ?_ ?_ ?_
            · exact ⟨rfl, congrArg (fun z : Int => some (Value.int IntKind.i64 z)) (show lo = lo + sumI (pts.take 0) by rw [List.take_zero, sumI_nil, Int.add_zero]), True.intro⟩
            · exact Nat.zero_le _
            ·rintro i a w hi hf hh
             refine sy_sq ?_
             refine o_v hf hh (yv_bin rfl rfl rfl) ?_; clear hf a; intro a hf
             refine o_end ?_
             refine sy_seq ?_
             refine sy_cond hf rfl (fun hg76 => ?_) (fun hg76 => ?_)
             ·have hG76 := hg76; try simp only [gS] at hG76
              refine sy_skip ?_
              refine then_n ?_
              refine sy_seq ?_
              refine sy_block ?_
              refine sy_seq ?_
              obtain ⟨x, hx⟩ := ex_of (l := pts) (i := i) (by omega)
              obtain ⟨blk, off, cc, TT, frr, e5, hb5, hc5⟩ := (hOp.iat fun q hq => hh.get q (by simp [hq])) i x hx
              obtain ⟨hge, hg1, hg2⟩ := hgt i (by omega)
              rw [getD_at hx] at hg1 hg2
              have htb := take_bd hpa (by omega) i (by omega)
              have hxa := hpa x (List.mem_of_getElem? hx)
              refine sy_ops ?_
              refine o_v hf hh (yv_move rfl) ?_; clear hf a; intro a hf
              refine o_v hf hh (y_ix Try.se_25 (congrArg (fun z => some (Value.slice z pts.length capp)) e5) rfl) ?_; clear hf a; intro a hf
              refine o_w hf (yv_ldw Try.sc_3 rfl hb5 hc5) ?_; clear hf a; intro a hf
              refine o_v hf hh (yv_assign rfl) ?_; clear hf a; intro a hf
              refine o_v hf hh (yv_assign rfl) ?_; clear hf a; intro a hf
              refine o_end ?_
              refine sy_sq ?_
              refine o_v hf hh (y_lds Try.ag_52 rfl) ?_; clear hf a; intro a hf
              refine o_v hf hh (yv_move rfl) ?_; clear hf a; intro a hf
              refine o_call hf Try.en_15 rfl rfl rfl (p32 d pl 0 (i : Nat) _ (hRo.ext hh.ext)) ?_; clear hf a; intro v a w hR hf
              rw [hge] at hR
              obtain ⟨rfl, hx⟩ := hR; replace hh := hh.more hx; clear hx
              refine o_v hf hh (yv_move rfl) ?_; clear hf a; intro a hf
              refine o_v hf hh (yv_extract rfl rfl) ?_; clear hf a; intro a hf
              refine o_v hf hh (yv_extract rfl rfl) ?_; clear hf a; intro a hf
              refine o_alloc hf hh Try.ze_36 ?_; clear hf hh a; intro B40 a w hf hh
              refine o_store hf hh Try.sz_36 fun w hh => ?_
              refine o_v hf hh (yv_assign rfl) ?_; clear hf a; intro a hf
              refine o_end ?_
              refine sy_seq ?_
              refine sy_sq ?_
              refine o_v hf hh (yv_move rfl) ?_; clear hf a; intro a hf
              refine o_v hf hh (yv_bin rfl rfl rfl) ?_; clear hf a; intro a hf
              refine o_v hf hh (yv_move rfl) ?_; clear hf a; intro a hf
              refine o_v hf hh (yv_move rfl) ?_; clear hf a; intro a hf
              refine o_v hf hh (yv_fieldAddr Try.fo_36_0 rfl) ?_; clear hf a; intro a hf
              refine o_v hf hh (y_ld Try.sc_3 rfl) ?_; clear hf a; intro a hf
              refine o_v hf hh (yv_bin rfl rfl rfl) ?_; clear hf a; intro a hf
              refine o_v hf hh (y_pf rfl rfl) ?_; clear hf a; intro a hf
              refine o_v hf hh (yv_move rfl) ?_; clear hf a; intro a hf
              refine o_v hf hh (yv_move rfl) ?_; clear hf a; intro a hf
              refine o_v hf hh (yv_fieldAddr Try.fo_36_1 rfl) ?_; clear hf a; intro a hf
              refine o_v hf hh (y_ld Try.sc_3 rfl) ?_; clear hf a; intro a hf
              refine o_v hf hh (yv_bin rfl rfl rfl) ?_; clear hf a; intro a hf
              refine o_v hf hh (y_pf rfl rfl) ?_; clear hf a; intro a hf
              refine o_end ?_
              refine c_f hf ?_
              refine sy_skip ?_
              refine then_n ?_
              refine sy_ops ?_
              refine o_v hf hh (yv_move rfl) ?_; clear hf a; intro a hf
              refine o_v hf hh (yv_move rfl) ?_; clear hf a; intro a hf
              refine o_v hf hh (y_add rfl rfl) ?_; clear hf a; intro a hf
              refine o_v hf hh (yv_assign rfl) ?_; clear hf a; intro a hf
              refine ops_end ?_
              refine blk_n ?_
              refine then_n ?_
              refine sy_ops ?_
              refine o_v hf hh (y_add rfl rfl) ?_; clear hf a; intro a hf
              refine o_v hf hh (yv_move rfl) ?_; clear hf a; intro a hf
              refine ops_end ?_
              refine then_n ?_
              exact ⟨i + 1, ⟨by omega, hf.head ⟨rfl, congrArg (fun z : Int => some (Value.int IntKind.i64 z)) (show lo + sumI (pts.take i) + x = lo + sumI (pts.take (i + 1)) by rw [sumI_take hx]; omega), True.intro⟩ (Keep.cons rfl (Keep.cons rfl (Keep.cons rfl (Keep.cons rfl (Keep.cons rfl (Keep.cons rfl (Keep.cons rfl (Keep.cons rfl (Keep.cons rfl (Keep.cons rfl (Keep.cons rfl (Keep.cons rfl (Keep.cons rfl (Keep.cons rfl (Keep.cons rfl (Keep.cons rfl (Keep.cons rfl (Keep.cons rfl (Keep.cons rfl (Keep.cons rfl (Keep.cons rfl (Keep.cons rfl (Keep.cons rfl (Keep.cons rfl (Keep.cons rfl (Keep.cons rfl (Keep.cons rfl (Keep.cons rfl (Keep.cons rfl (Keep.cons rfl (Keep.cons rfl (Keep.cons rfl (Keep.cons rfl (Keep.cons rfl (Keep.app rfl (Keep.rm rfl Keep.base)))))))))))))))))))))))))))))))))))), hh.less (.cons _ (List.Sublist.refl _))⟩, by omega⟩
             ·have hG76 := hg76; try simp only [gS] at hG76
              refine sy_exit ?_
              refine then_e ?_
              refine then_e ?_
              refine blk_e ?_
              refine then_n ?_
              refine sy_seq ?_
              obtain rfl : i = pts.length := by omega
              rw [List.take_length, hps] at hf
              refine sy_ops ?_
              refine o_v hf hh (yv_move rfl) ?_; clear hf a; intro a hf
              refine o_v hf hh (yv_fieldAddr Try.fo_41_1 rfl) ?_; clear hf a; intro a hf
              refine o_v hf hh (y_ld Try.sc_3 rfl) ?_; clear hf a; intro a hf
              refine o_v hf hh (yv_fieldAddr Try.fo_41_1 rfl) ?_; clear hf a; intro a hf
              refine o_v hf hh (y_ld Try.sc_3 rfl) ?_; clear hf a; intro a hf
              refine o_v hf hh (y_sub rfl rfl) ?_; clear hf a; intro a hf
              refine o_v hf hh (yv_bin rfl rfl rfl) ?_; clear hf a; intro a hf
              refine o_v hf hh (yv_move rfl) ?_; clear hf a; intro a hf
              refine o_call hf Try.en_7 rfl rfl rfl (s7 _) ?_; clear hf a; intro v a w hR hf
              obtain ⟨rfl, hx⟩ := hR; replace hh := hh.more hx; clear hx
              refine o_v hf hh (y_pt rfl rfl) ?_; clear hf a; intro a hf
              refine o_v hf hh (yv_assign rfl) ?_; clear hf a; intro a hf
              refine o_end ?_
              refine sy_ret ?_
              refine ret_r hf rfl rfl ?_
              first
                | exact ⟨rfl, hh.ext⟩
                | exact ⟨rfl, e3.trans (e8.trans (e9.trans (e10.trans hh.ext)))⟩
end Go.Proofs.Ytccpgpnekoncoaa
namespace Go.Proofs.Ytccpgpnekoncoaa
open Go Go.Sy Go.RoyM Go.ChangeShapes Go.WideShapes Go.Deep Go.RowKit
theorem un24 : Try.prog.underlying 24 = some (.array 2 23) := by kernel_rfl
theorem co24 : Try.prog.cellsOf 24 = 6 := by kernel_rfl
theorem co23 : Try.prog.cellsOf 23 = 3 := by kernel_rfl
theorem un25 : Try.prog.underlying 25 = some (.slice 3) := by kernel_rfl
theorem un5 : Try.prog.underlying 5 = some (.int .u8) := by kernel_rfl
theorem fk23 : flK Try.prog .i64 9 23 = some 3 := by kernel_rfl
theorem fk3 : flK Try.prog .i64 9 3 = some 1 := by kernel_rfl
theorem un4 : Try.prog.underlying 4 = some .bool := by kernel_rfl
theorem own : ownKnob Try.prog.godebug = none := by kernel_rfl
theorem iat_flat {W : World} {sa : Option Addr} {m : List Int} (h : FlatAt W .i64 sa 1 (m.map fun z => [z])) : IAt W sa m := fun i x hi => by
  obtain ⟨blk, off, c, T, fr, h1, h2, h3⟩ := h i [x] (by rw [List.getElem?_map, hi]; rfl)
  refine ⟨blk, off, c, T, fr, h1, h2, ?_⟩
  unfold cellsAt at h3
  cases hc : c[off + i * 1]? with
  | none => rw [hc] at h3; simp at h3
  | some v => rw [hc] at h3; simp [cellsAt] at h3; rw [Int.toNat_natCast, hc, h3]
theorem okWide_arr {P : Program} {w : World} {r : Reach} {base : Nat} {t : TypeId} {v : Value} {n : Nat} {e : TypeId} (ht : P.underlying t = some (.array n e)) (h : Value.okWide P w r base t v) : ∃ cs, v = .agg cs ∧ cs.size = P.cellsOf t := by
  simp only [Value.okWide, ht] at h
  obtain ⟨cs, h1, h2, _⟩ := h
  exact ⟨cs, h1, h2⟩
theorem len6 {l : List Value} (h : l.length = 6) : ∃ a b c d e f, l = [a, b, c, d, e, f] := by
  match l, h with
  | [a, b, c, d, e, f], _ => exact ⟨a, b, c, d, e, f, rfl⟩
theorem three {p : List Int} {a b c : Value} (h : p.length = 3) (e : [a, b, c] = p.map (Value.int .i64)) : ∃ x y z, a = .int .i64 x ∧ b = .int .i64 y ∧ c = .int .i64 z := by
  match p, h with
  | [x, y, z], _ =>
    have e : [a, b, c] = [.int .i64 x, .int .i64 y, .int .i64 z] := e
    simp only [List.cons.injEq, and_true] at e
    exact ⟨x, y, z, e.1, e.2.1, e.2.2⟩
section
variable {H : Type} {enc : TypeId × Value → H} {W : World} {base : Nat} {spare : Nat → Bool} {held : Bool}
set_option maxRecDepth 100000 in
theorem openTs {r : Reach} {b0 : Nat} {v : Value} {d : DataW H} {p : List MemPlace} (hv : Value.okWide Try.prog W r b0 24 v) (h : DataW.Trod enc Try.prog W base spare held 24 v d p) :
    ∃ t0 t1 : TermD, v = .agg #[.int .i64 t0.f, .int .i64 t0.u, .int .i64 t0.b, .int .i64 t1.f, .int .i64 t1.u, .int .i64 t1.b] := by
  obtain ⟨cs, rfl, hsz⟩ := okWide_arr un24 hv
  obtain ⟨fuel, h⟩ := h
  obtain ⟨xs, m, _, _, _, hxl, hf⟩ := DataW.trod_array un24 h
  rw [co24] at hsz
  obtain ⟨l, rfl⟩ : ∃ l : List Value, cs = l.toArray := ⟨cs.toList, by simp⟩
  obtain ⟨a, b, c, d, e, f, rfl⟩ := len6 (by simpa using hsz)
  have h0 := hf 0 (by omega)
  have h1 := hf 1 (by omega)
  rw [co23] at h0 h1
  rw [List.getElem?_eq_getElem (by omega)] at h0 h1
  obtain ⟨p0, l0, e0, _⟩ := trod_fl fk23 h0
  obtain ⟨p1, l1, e1, _⟩ := trod_fl fk23 h1
  obtain ⟨x, y, z, rfl, rfl, rfl⟩ := three l0 (show [a, b, c] = _ from e0)
  obtain ⟨x', y', z', rfl, rfl, rfl⟩ := three l1 (show [d, e, f] = _ from e1)
  exact ⟨⟨x, y, z⟩, ⟨x', y', z'⟩, rfl⟩
end
end Go.Proofs.Ytccpgpnekoncoaa
