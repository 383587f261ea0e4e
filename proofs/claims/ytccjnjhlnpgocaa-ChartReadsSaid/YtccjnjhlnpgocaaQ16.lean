/- Lemmas, in order: The document's Between. The document's same, and its Idle. The document's Place, and whether bounds are the same. The document's Draw. The document's Idle. ChartReads. What a law is handed, opened: charts, sights, numbers.. -/
import Derived.Test.YtccjnjhlnpgocaaQ15
import Derived.Test.YtccjnjhlnpgocaaRows
import Derived.Test.YtccjnjhlnpgocaaChecked
import Derived.JoinedOf
import Derived.LaidLaws
import Derived.RowKit
import Derived.RowKitTokens
import Derived.LaidHandle
import Derived.Stop.Joined
import Derived.Lay
import Derived.SizedLaws
import Derived.SevenTiedAt
namespace Go.Proofs.Ytccjnjhlnpgocaa
open Go Go.Sy Go.ChaM
set_option maxRecDepth 100000 in
set_option maxHeartbeats 4000000 in
theorem p18 (c : ChD) (sa : Option Addr) (cp : Nat) (x y : Int) (u : World) (hA : ChAt u c sa) : Calls Try.prog 18 #[.agg (chC c sa cp), .int .i64 x, .int .i64 y] u (Ret fun v w' => v = .tuple #[spV (betV c false x y), spV (betV c true x y), .int .i64 (betE c x y)] ∧ Ext [] u w') := by
  refine calls_of Try.func18 rfl rfl (fun a hf => ?_)
  have hh := Hp.init u []
  have hl9 := hA.len
  refine sy_sq ?_
  refine o_box hf hh ?_; clear hf hh a; intro B3 a w hf hh
  refine o_alloc hf hh Try.ze_28 ?_; clear hf hh a; intro B6 a w hf hh
  refine o_alloc hf hh Try.ze_28 ?_; clear hf hh a; intro B7 a w hf hh
  refine o_v hf hh (yv_assign rfl) ?_; clear hf a; intro a hf
  refine o_end ?_
  refine sy_seq ?_
  refine sy_sq ?_
  refine o_v hf hh (y_lds Try.ag_24 rfl) ?_; clear hf a; intro a hf
  refine o_call hf Try.en_31 rfl rfl rfl (p31 c sa cp _ (hA.ext hh.ext)) ?_; clear hf a; intro v a w hR hf
  obtain ⟨rfl, hx⟩ := hR; replace hh := hh.more hx; clear hx
  refine o_v hf hh (yv_not rfl) ?_; clear hf a; intro a hf
  refine o_end ?_
  refine sy_cond hf rfl (fun hg2 => ?_) (fun hg2 => ?_)
  ·have hG2 := hg2; try simp only [gS] at hG2
   refine sy_sq ?_
   refine o_v hf hh (yv_buildS Try.bs_28 rfl rfl) ?_; clear hf a; intro a hf
   refine o_v hf hh (yv_buildS Try.bs_28 rfl rfl) ?_; clear hf a; intro a hf
   refine o_store hf hh Try.sz_28 fun w hh => ?_
   refine o_store hf hh Try.sz_28 fun w hh => ?_
   refine o_v hf hh (yv_assign rfl) ?_; clear hf a; intro a hf
   refine o_end ?_
   refine sy_ret ?_
   refine then_r ?_
   refine ret_c (vs := [.agg #[.int .i64 0, .int .i64 0], .agg #[.int .i64 0, .int .i64 0], .int .i64 1]) hf ?_ ?_
   · exact ⟨⟨B6, 0, _, _, _, rfl, hh.at (i := 1) rfl, .inr ⟨2, _, Try.ag_28, rfl, rfl⟩⟩, ⟨B7, 0, _, _, _, rfl, hh.at (i := 0) rfl, .inr ⟨2, _, Try.ag_28, rfl, rfl⟩⟩, rfl, True.intro⟩
   · have hev : betE c x y = 1 := by unfold betE; rw [if_pos (by assumption)]
     have hne : betE c x y ≠ 0 := by rw [hev]; decide
     exact ⟨by rw [bet_zero hne, bet_zero hne, hev]; rfl, hh.ext⟩
  ·have hG2 := hg2; try simp only [gS] at hG2
   refine sy_skip ?_
   refine then_n ?_
   refine sy_seq ?_
   refine sy_seq ?_
   have hcb : chB c = true := by assumption
   have hO := chB_iff.1 hcb
   have hl10 := hO.l; have hn1 := hO.n1; have hn2 := hO.n2
   have hp2 : 2 ^ c.si.length ≤ 2 ^ 10 := Nat.pow_le_pow_right (by omega) hl10
   have hp1 := Nat.one_le_two_pow (n := c.si.length)
   replace hh : Hp u [] [(B7, .cells #[.int .i64 0, .int .i64 0] 28), (B6, .cells #[.int .i64 0, .int .i64 0] 28), (B3, .cells (chC c sa cp) 24)] w := hh
   refine sy_ops ?_
   refine o_v hf hh (y_lds Try.ag_24 rfl) ?_; clear hf a; intro a hf
   refine o_v hf hh (yv_move rfl) ?_; clear hf a; intro a hf
   refine o_call hf Try.en_46 rfl rfl rfl (p46 c sa cp x ⟨hn1, hn2⟩ _) ?_; clear hf a; intro v a w hR hf
   obtain ⟨rfl, hx⟩ := hR; replace hh := hh.more hx; clear hx
   refine o_v hf hh (yv_not rfl) ?_; clear hf a; intro a hf
   refine o_v hf hh (yv_move rfl) ?_; clear hf a; intro a hf
   refine guard_split hf (t := 22) rfl (fun hg4 => ?_) (fun hg4 => ?_)
   ·have hG4 := hg4; try simp only [gS] at hG4
    refine o_off hf ?_; clear hf a; intro a hf
    refine o_off hf ?_; clear hf a; intro a hf
    refine o_off hf ?_; clear hf a; intro a hf
    refine o_off hf ?_; clear hf a; intro a hf
    refine o_v hf hh (y_pt rfl rfl) ?_; clear hf a; intro a hf
    refine o_end ?_
    refine c_t hf ?_
    refine sy_sq ?_
    refine o_v hf hh (yv_buildS Try.bs_28 rfl rfl) ?_; clear hf a; intro a hf
    refine o_v hf hh (yv_buildS Try.bs_28 rfl rfl) ?_; clear hf a; intro a hf
    refine o_store hf hh Try.sz_28 fun w hh => ?_
    refine o_store hf hh Try.sz_28 fun w hh => ?_
    refine o_v hf hh (yv_assign rfl) ?_; clear hf a; intro a hf
    refine o_end ?_
    refine sy_ret ?_
    refine then_r ?_
    refine ret_c (vs := [.agg #[.int .i64 0, .int .i64 0], .agg #[.int .i64 0, .int .i64 0], .int .i64 2]) hf ?_ ?_
    · exact ⟨⟨B6, 0, _, _, _, rfl, hh.at (i := 1) rfl, .inr ⟨2, _, Try.ag_28, rfl, rfl⟩⟩, ⟨B7, 0, _, _, _, rfl, hh.at (i := 0) rfl, .inr ⟨2, _, Try.ag_28, rfl, rfl⟩⟩, rfl, True.intro⟩
    · have hev : betE c x y = 2 := by unfold betE; rw [if_neg (by rw [hcb]; decide), if_pos (by first | (rw [show stB c x = false by assumption, Bool.false_and]) | (rw [show stB c y = false by assumption, Bool.and_false]))]
      have hne : betE c x y ≠ 0 := by rw [hev]; decide
      exact ⟨by rw [bet_zero hne, bet_zero hne, hev]; rfl, hh.ext⟩
   ·have hG4 := hg4; try simp only [gS] at hG4
    refine o_v hf hh (y_lds Try.ag_24 rfl) ?_; clear hf a; intro a hf
    refine o_v hf hh (yv_move rfl) ?_; clear hf a; intro a hf
    refine o_call hf Try.en_46 rfl rfl rfl (p46 c sa cp y ⟨hn1, hn2⟩ _) ?_; clear hf a; intro v a w hR hf
    obtain ⟨rfl, hx⟩ := hR; replace hh := hh.more hx; clear hx
    refine o_v hf hh (yv_not rfl) ?_; clear hf a; intro a hf
    refine o_v hf hh (y_pf rfl rfl) ?_; clear hf a; intro a hf
    refine o_end ?_
    refine sy_cond hf rfl (fun hg6 => ?_) (fun hg6 => ?_)
    ·have hG6 := hg6; try simp only [gS] at hG6
     refine sy_sq ?_
     refine o_v hf hh (yv_buildS Try.bs_28 rfl rfl) ?_; clear hf a; intro a hf
     refine o_v hf hh (yv_buildS Try.bs_28 rfl rfl) ?_; clear hf a; intro a hf
     refine o_store hf hh Try.sz_28 fun w hh => ?_
     refine o_store hf hh Try.sz_28 fun w hh => ?_
     refine o_v hf hh (yv_assign rfl) ?_; clear hf a; intro a hf
     refine o_end ?_
     refine sy_ret ?_
     refine then_r ?_
     refine ret_c (vs := [.agg #[.int .i64 0, .int .i64 0], .agg #[.int .i64 0, .int .i64 0], .int .i64 2]) hf ?_ ?_
     · exact ⟨⟨B6, 0, _, _, _, rfl, hh.at (i := 1) rfl, .inr ⟨2, _, Try.ag_28, rfl, rfl⟩⟩, ⟨B7, 0, _, _, _, rfl, hh.at (i := 0) rfl, .inr ⟨2, _, Try.ag_28, rfl, rfl⟩⟩, rfl, True.intro⟩
     · have hev : betE c x y = 2 := by unfold betE; rw [if_neg (by rw [hcb]; decide), if_pos (by first | (rw [show stB c x = false by assumption, Bool.false_and]) | (rw [show stB c y = false by assumption, Bool.and_false]))]
       have hne : betE c x y ≠ 0 := by rw [hev]; decide
       exact ⟨by rw [bet_zero hne, bet_zero hne, hev]; rfl, hh.ext⟩
    ·have hG6 := hg6; try simp only [gS] at hG6
     refine sy_skip ?_
     refine then_n ?_
     refine sy_seq ?_
     refine sy_seq ?_
     refine sy_treeC (.q 0 0 (.q 0 1 (.e1 2 (.e1 3 (.p 4 (.fin)))))) [[]] [(AtE u [] [(B3, .cells (chC c sa cp) 24)], [])] Try.follows (by kernel_rfl) rfl hh (fun w hh => ?_)
     refine mc_q rfl rfl (AtE.of hh (by intro p hp; rw [List.mem_singleton.1 hp]; simp)) hf (y_lds Try.ag_24 rfl) (.inl rfl) rfl rfl ?_; clear hf a; intro a hf
     refine mc_q rfl rfl (AtE.of hh (by intro p hp; rw [List.mem_singleton.1 hp]; simp)) hf (y_lds Try.ag_24 rfl) (.inl rfl) rfl rfl ?_; clear hf a; intro a hf
     refine mc_e rfl fun Q1 => ?_
     refine o_call hf Try.en_48 rfl rfl rfl (p48 c sa cp (by omega) _) ?_; clear hf a; intro v a w hR hf
     obtain ⟨rfl, hx⟩ := hR; replace hh := hh.more hx; clear hx
     refine ops_end ?_
     refine then_n ⟨⟨fun _ _ => (AtE.of hh (by intro p hp; rw [List.mem_singleton.1 hp]; simp)), trivial⟩, ?_⟩
     refine mc_e rfl fun Q1 => ?_
     refine o_call hf Try.en_47 rfl rfl rfl (p47 c sa cp (2 ^ c.si.length - 1 : Nat) _ (hA.ext hh.ext) hO (by omega)) ?_; clear hf a; intro v a w hR hf
     obtain ⟨rfl, hx⟩ := hR; replace hh := hh.more hx; clear hx
     refine ops_end ?_
     refine then_n ⟨⟨fun _ _ => (AtE.of hh (by intro p hp; rw [List.mem_singleton.1 hp]; simp)), trivial⟩, ?_⟩
     refine mc_p rfl   hf (yv_not rfl) (.inl rfl) rfl rfl ?_; clear hf a; intro a hf
     refine mc_end ?_
     refine then_n ?_
     refine sy_cond hf rfl (fun hg9 => ?_) (fun hg9 => ?_)
     ·have hG9 := hg9; try simp only [gS] at hG9
      refine sy_sq ?_
      refine o_v hf hh (yv_buildS Try.bs_28 rfl rfl) ?_; clear hf a; intro a hf
      refine o_v hf hh (yv_buildS Try.bs_28 rfl rfl) ?_; clear hf a; intro a hf
      refine o_store hf hh Try.sz_28 fun w hh => ?_
      refine o_store hf hh Try.sz_28 fun w hh => ?_
      refine o_v hf hh (yv_assign rfl) ?_; clear hf a; intro a hf
      refine o_end ?_
      refine sy_ret ?_
      refine then_r ?_
      refine ret_c (vs := [.agg #[.int .i64 0, .int .i64 0], .agg #[.int .i64 0, .int .i64 0], .int .i64 4]) hf ?_ ?_
      · exact ⟨⟨B6, 0, _, _, _, rfl, hh.at (i := 1) rfl, .inr ⟨2, _, Try.ag_28, rfl, rfl⟩⟩, ⟨B7, 0, _, _, _, rfl, hh.at (i := 0) rfl, .inr ⟨2, _, Try.ag_28, rfl, rfl⟩⟩, rfl, True.intro⟩
      · have hev : betE c x y = 4 := by unfold betE; rw [if_neg (by rw [hcb]; decide), if_neg (by rw [show stB c x = true by assumption, show stB c y = true by assumption]; decide), if_pos ((canE hO).1 (by assumption))]
        have hne : betE c x y ≠ 0 := by rw [hev]; decide
        exact ⟨by rw [bet_zero hne, bet_zero hne, hev]; rfl, hh.ext⟩
     ·have hG9 := hg9; try simp only [gS] at hG9
      refine sy_skip ?_
      refine then_n ?_
      refine sy_cut (σ := Nat) [9, 10, 37, 38, 39, 40, 41, 42, 43] (fun q => [(9, ptr q 0)]) (fun q => fun w' => Hp u [] ((q, .cells (bC (tig c false (2 ^ c.si.length - 1 : Nat).testBit)) 81) :: [(B7, .cells #[.int .i64 0, .int .i64 0] 28), (B6, .cells #[.int .i64 0, .int .i64 0] 28), (B3, .cells (chC c sa cp) 24)]) w') hf ?_ ?_
      ·have hwr : wrL c = [] := Decidable.of_not_not fun h => by
         have h1 := (canE hO).2 h
         have h2 : canT c (2 ^ c.si.length - 1 : Nat).testBit = true := by assumption
         rw [h1] at h2; cases h2
       refine sy_treeC (.q 0 0 (.q 0 1 (.e2 2 (.e2 3 (.p 4 (.p 5 (.p 6 (.e1 7 (.e1 8 (.p 9 (.fin))))))) 7 (.e1 3 (.p 4 (.p 5 (.p 6 (.e1 8 (.p 9 (.fin)))))))) 7 (.e1 2 (.e1 3 (.p 4 (.p 5 (.p 6 (.e1 8 (.p 9 (.fin))))))))))) [[]] [(AtE u [] [(B3, .cells (chC c sa cp) 24)], [])] Try.follows (by kernel_rfl) rfl hh (fun w hh => ?_)
       refine mc_q rfl rfl (AtE.of hh (by intro p hp; rw [List.mem_singleton.1 hp]; simp)) hf (y_lds Try.ag_24 rfl) (.inl rfl) rfl rfl ?_; clear hf a; intro a hf
       refine mc_q rfl rfl (AtE.of hh (by intro p hp; rw [List.mem_singleton.1 hp]; simp)) hf (y_lds Try.ag_24 rfl) (.inl rfl) rfl rfl ?_; clear hf a; intro a hf
       refine ⟨?_, ?_⟩
       ·refine mc_e rfl fun Q1 => ?_
        refine o_call hf Try.en_48 rfl rfl rfl (p48 c sa cp (by omega) _) ?_; clear hf a; intro v a w hR hf
        obtain ⟨rfl, hx⟩ := hR; replace hh := hh.more hx; clear hx
        refine ops_end ?_
        refine then_n ⟨⟨fun _ _ => (AtE.of hh (by intro p hp; rw [List.mem_singleton.1 hp]; simp)), trivial⟩, ?_⟩
        refine ⟨?_, ?_⟩
        ·refine mc_e rfl fun Q1 => ?_
         refine o_call hf Try.en_49 rfl rfl rfl (p49 c sa cp (2 ^ c.si.length - 1 : Nat) false _ (hA.ext hh.ext) hO (by omega)) ?_; clear hf a; intro v a w hR hf
         obtain ⟨b1, rfl, hb1, hx⟩ := hR; replace hh := hh.more hx; clear hx
         obtain rfl := hb1 (tigB_every hO hwr false); clear hb1
         refine ops_end ?_
         refine then_n ⟨⟨fun _ _ => (AtE.of hh (by intro p hp; rw [List.mem_singleton.1 hp]; simp)), trivial⟩, ?_⟩
         refine mc_p rfl   hf (yv_move rfl) (.inl rfl) rfl rfl ?_; clear hf a; intro a hf
         refine mc_p rfl   hf (yv_extract rfl rfl) (.inl rfl) rfl rfl ?_; clear hf a; intro a hf
         refine mc_p rfl   hf (yv_extract rfl rfl) (.inl rfl) rfl rfl ?_; clear hf a; intro a hf
         refine mc_e rfl fun Q1 => ?_
         refine o_alloc hf hh Try.ze_81 ?_; clear hf hh a; intro B9 a w hf hh
         refine ops_end ?_
         refine then_n ⟨⟨fun _ _ => (AtE.of hh (by intro p hp; rw [List.mem_singleton.1 hp]; simp)), trivial⟩, ?_⟩
         refine mc_e rfl fun Q1 => ?_
         refine o_store hf hh Try.sz_81 fun w hh => ?_
         refine ops_end ?_
         refine then_n ⟨⟨fun _ _ => (AtE.of hh (by intro p hp; rw [List.mem_singleton.1 hp]; simp)), trivial⟩, ?_⟩
         refine mc_p rfl   hf (yv_assign rfl) (.inl rfl) rfl rfl ?_; clear hf a; intro a hf
         refine mc_end ?_
         refine then_n ?_
         rw [z81] at hh
         replace hh : Hp u [] ((B9, .cells (spl (bC fun _ _ => none) 0 (bC (tig c false (2 ^ c.si.length - 1 : Nat).testBit)).toList) 81) :: [(B7, .cells #[.int .i64 0, .int .i64 0] 28), (B6, .cells #[.int .i64 0, .int .i64 0] 28), (B3, .cells (chC c sa cp) 24)]) w := hh
         rw [show spl (bC fun _ _ => none) 0 (bC (tig c false (2 ^ c.si.length - 1 : Nat).testBit)).toList = bC (tig c false (2 ^ c.si.length - 1 : Nat).testBit) from spl_all (by simp only [bC_size])] at hh
         exact ⟨B9, hh, hf.head ⟨rfl, True.intro⟩ (Keep.cons rfl (Keep.cons rfl (Keep.cons rfl (Keep.cons rfl (Keep.cons rfl (Keep.cons rfl (Keep.cons rfl (Keep.cons rfl (Keep.cons rfl (Keep.base))))))))))⟩
        ·refine mc_e rfl fun Q1 => ?_
         refine o_alloc hf hh Try.ze_81 ?_; clear hf hh a; intro B9 a w hf hh
         refine ops_end ?_
         refine then_n ⟨⟨fun _ _ => (AtE.of hh (by intro p hp; rw [List.mem_singleton.1 hp]; simp)), trivial⟩, ?_⟩
         refine mc_e rfl fun Q1 => ?_
         refine o_call hf Try.en_49 rfl rfl rfl (p49 c sa cp (2 ^ c.si.length - 1 : Nat) false _ (hA.ext hh.ext) hO (by omega)) ?_; clear hf a; intro v a w hR hf
         obtain ⟨b1, rfl, hb1, hx⟩ := hR; replace hh := hh.more hx; clear hx
         obtain rfl := hb1 (tigB_every hO hwr false); clear hb1
         refine ops_end ?_
         refine then_n ⟨⟨fun _ _ => (AtE.of hh (by intro p hp; rw [List.mem_singleton.1 hp]; simp)), trivial⟩, ?_⟩
         refine mc_p rfl   hf (yv_move rfl) (.inl rfl) rfl rfl ?_; clear hf a; intro a hf
         refine mc_p rfl   hf (yv_extract rfl rfl) (.inl rfl) rfl rfl ?_; clear hf a; intro a hf
         refine mc_p rfl   hf (yv_extract rfl rfl) (.inl rfl) rfl rfl ?_; clear hf a; intro a hf
         refine mc_e rfl fun Q1 => ?_
         refine o_store hf hh Try.sz_81 fun w hh => ?_
         refine ops_end ?_
         refine then_n ⟨⟨fun _ _ => (AtE.of hh (by intro p hp; rw [List.mem_singleton.1 hp]; simp)), trivial⟩, ?_⟩
         refine mc_p rfl   hf (yv_assign rfl) (.inl rfl) rfl rfl ?_; clear hf a; intro a hf
         refine mc_end ?_
         refine then_n ?_
         rw [z81] at hh
         replace hh : Hp u [] ((B9, .cells (spl (bC fun _ _ => none) 0 (bC (tig c false (2 ^ c.si.length - 1 : Nat).testBit)).toList) 81) :: [(B7, .cells #[.int .i64 0, .int .i64 0] 28), (B6, .cells #[.int .i64 0, .int .i64 0] 28), (B3, .cells (chC c sa cp) 24)]) w := hh
         rw [show spl (bC fun _ _ => none) 0 (bC (tig c false (2 ^ c.si.length - 1 : Nat).testBit)).toList = bC (tig c false (2 ^ c.si.length - 1 : Nat).testBit) from spl_all (by simp only [bC_size])] at hh
         exact ⟨B9, hh, hf.head ⟨rfl, True.intro⟩ (Keep.cons rfl (Keep.cons rfl (Keep.cons rfl (Keep.cons rfl (Keep.cons rfl (Keep.cons rfl (Keep.cons rfl (Keep.cons rfl (Keep.cons rfl (Keep.base))))))))))⟩
       ·refine mc_e rfl fun Q1 => ?_
        refine o_alloc hf hh Try.ze_81 ?_; clear hf hh a; intro B9 a w hf hh
        refine ops_end ?_
        refine then_n ⟨⟨fun _ _ => (AtE.of hh (by intro p hp; rw [List.mem_singleton.1 hp]; simp)), trivial⟩, ?_⟩
        refine mc_e rfl fun Q1 => ?_
        refine o_call hf Try.en_48 rfl rfl rfl (p48 c sa cp (by omega) _) ?_; clear hf a; intro v a w hR hf
        obtain ⟨rfl, hx⟩ := hR; replace hh := hh.more hx; clear hx
        refine ops_end ?_
        refine then_n ⟨⟨fun _ _ => (AtE.of hh (by intro p hp; rw [List.mem_singleton.1 hp]; simp)), trivial⟩, ?_⟩
        refine mc_e rfl fun Q1 => ?_
        refine o_call hf Try.en_49 rfl rfl rfl (p49 c sa cp (2 ^ c.si.length - 1 : Nat) false _ (hA.ext hh.ext) hO (by omega)) ?_; clear hf a; intro v a w hR hf
        obtain ⟨b1, rfl, hb1, hx⟩ := hR; replace hh := hh.more hx; clear hx
        obtain rfl := hb1 (tigB_every hO hwr false); clear hb1
        refine ops_end ?_
        refine then_n ⟨⟨fun _ _ => (AtE.of hh (by intro p hp; rw [List.mem_singleton.1 hp]; simp)), trivial⟩, ?_⟩
        refine mc_p rfl   hf (yv_move rfl) (.inl rfl) rfl rfl ?_; clear hf a; intro a hf
        refine mc_p rfl   hf (yv_extract rfl rfl) (.inl rfl) rfl rfl ?_; clear hf a; intro a hf
        refine mc_p rfl   hf (yv_extract rfl rfl) (.inl rfl) rfl rfl ?_; clear hf a; intro a hf
        refine mc_e rfl fun Q1 => ?_
        refine o_store hf hh Try.sz_81 fun w hh => ?_
        refine ops_end ?_
        refine then_n ⟨⟨fun _ _ => (AtE.of hh (by intro p hp; rw [List.mem_singleton.1 hp]; simp)), trivial⟩, ?_⟩
        refine mc_p rfl   hf (yv_assign rfl) (.inl rfl) rfl rfl ?_; clear hf a; intro a hf
        refine mc_end ?_
        refine then_n ?_
        rw [z81] at hh
        replace hh : Hp u [] ((B9, .cells (spl (bC fun _ _ => none) 0 (bC (tig c false (2 ^ c.si.length - 1 : Nat).testBit)).toList) 81) :: [(B7, .cells #[.int .i64 0, .int .i64 0] 28), (B6, .cells #[.int .i64 0, .int .i64 0] 28), (B3, .cells (chC c sa cp) 24)]) w := hh
        rw [show spl (bC fun _ _ => none) 0 (bC (tig c false (2 ^ c.si.length - 1 : Nat).testBit)).toList = bC (tig c false (2 ^ c.si.length - 1 : Nat).testBit) from spl_all (by simp only [bC_size])] at hh
        exact ⟨B9, hh, hf.head ⟨rfl, True.intro⟩ (Keep.cons rfl (Keep.cons rfl (Keep.cons rfl (Keep.cons rfl (Keep.cons rfl (Keep.cons rfl (Keep.cons rfl (Keep.cons rfl (Keep.cons rfl (Keep.base))))))))))⟩
      ·rintro q a w hh hf
       obtain ⟨B9, e9⟩ : ∃ z, z = q := ⟨_, rfl⟩
       rw [← e9] at hh hf; clear e9 q
       refine sy_cut (σ := Nat) [11, 12, 44, 45, 46, 47, 48, 49, 50] (fun q => [(11, ptr q 0)]) (fun q => fun w' => Hp u [] ((q, .cells (bC (tig c true (2 ^ c.si.length - 1 : Nat).testBit)) 81) :: ((B9, .cells (bC (tig c false (2 ^ c.si.length - 1 : Nat).testBit)) 81) :: [(B7, .cells #[.int .i64 0, .int .i64 0] 28), (B6, .cells #[.int .i64 0, .int .i64 0] 28), (B3, .cells (chC c sa cp) 24)])) w') hf ?_ ?_
       ·have hwr : wrL c = [] := Decidable.of_not_not fun h => by
          have h1 := (canE hO).2 h
          have h2 : canT c (2 ^ c.si.length - 1 : Nat).testBit = true := by assumption
          rw [h1] at h2; cases h2
        refine sy_treeC (.q 0 0 (.q 0 1 (.e2 2 (.e2 3 (.p 4 (.p 5 (.p 6 (.e1 7 (.e1 8 (.p 9 (.fin))))))) 7 (.e1 3 (.p 4 (.p 5 (.p 6 (.e1 8 (.p 9 (.fin)))))))) 7 (.e1 2 (.e1 3 (.p 4 (.p 5 (.p 6 (.e1 8 (.p 9 (.fin))))))))))) [[]] [(AtE u [] [(B3, .cells (chC c sa cp) 24)], [])] Try.follows (by kernel_rfl) rfl hh (fun w hh => ?_)
        refine mc_q rfl rfl (AtE.of hh (by intro p hp; rw [List.mem_singleton.1 hp]; simp)) hf (y_lds Try.ag_24 rfl) (.inl rfl) rfl rfl ?_; clear hf a; intro a hf
        refine mc_q rfl rfl (AtE.of hh (by intro p hp; rw [List.mem_singleton.1 hp]; simp)) hf (y_lds Try.ag_24 rfl) (.inl rfl) rfl rfl ?_; clear hf a; intro a hf
        refine ⟨?_, ?_⟩
        ·refine mc_e rfl fun Q1 => ?_
         refine o_call hf Try.en_48 rfl rfl rfl (p48 c sa cp (by omega) _) ?_; clear hf a; intro v a w hR hf
         obtain ⟨rfl, hx⟩ := hR; replace hh := hh.more hx; clear hx
         refine ops_end ?_
         refine then_n ⟨⟨fun _ _ => (AtE.of hh (by intro p hp; rw [List.mem_singleton.1 hp]; simp)), trivial⟩, ?_⟩
         refine ⟨?_, ?_⟩
         ·refine mc_e rfl fun Q1 => ?_
          refine o_call hf Try.en_49 rfl rfl rfl (p49 c sa cp (2 ^ c.si.length - 1 : Nat) true _ (hA.ext hh.ext) hO (by omega)) ?_; clear hf a; intro v a w hR hf
          obtain ⟨b1, rfl, hb1, hx⟩ := hR; replace hh := hh.more hx; clear hx
          obtain rfl := hb1 (tigB_every hO hwr true); clear hb1
          refine ops_end ?_
          refine then_n ⟨⟨fun _ _ => (AtE.of hh (by intro p hp; rw [List.mem_singleton.1 hp]; simp)), trivial⟩, ?_⟩
          refine mc_p rfl   hf (yv_move rfl) (.inl rfl) rfl rfl ?_; clear hf a; intro a hf
          refine mc_p rfl   hf (yv_extract rfl rfl) (.inl rfl) rfl rfl ?_; clear hf a; intro a hf
          refine mc_p rfl   hf (yv_extract rfl rfl) (.inl rfl) rfl rfl ?_; clear hf a; intro a hf
          refine mc_e rfl fun Q1 => ?_
          refine o_alloc hf hh Try.ze_81 ?_; clear hf hh a; intro B11 a w hf hh
          refine ops_end ?_
          refine then_n ⟨⟨fun _ _ => (AtE.of hh (by intro p hp; rw [List.mem_singleton.1 hp]; simp)), trivial⟩, ?_⟩
          refine mc_e rfl fun Q1 => ?_
          refine o_store hf hh Try.sz_81 fun w hh => ?_
          refine ops_end ?_
          refine then_n ⟨⟨fun _ _ => (AtE.of hh (by intro p hp; rw [List.mem_singleton.1 hp]; simp)), trivial⟩, ?_⟩
          refine mc_p rfl   hf (yv_assign rfl) (.inl rfl) rfl rfl ?_; clear hf a; intro a hf
          refine mc_end ?_
          refine then_n ?_
          rw [z81] at hh
          replace hh : Hp u [] ((B11, .cells (spl (bC fun _ _ => none) 0 (bC (tig c true (2 ^ c.si.length - 1 : Nat).testBit)).toList) 81) :: ((B9, .cells (bC (tig c false (2 ^ c.si.length - 1 : Nat).testBit)) 81) :: [(B7, .cells #[.int .i64 0, .int .i64 0] 28), (B6, .cells #[.int .i64 0, .int .i64 0] 28), (B3, .cells (chC c sa cp) 24)])) w := hh
          rw [show spl (bC fun _ _ => none) 0 (bC (tig c true (2 ^ c.si.length - 1 : Nat).testBit)).toList = bC (tig c true (2 ^ c.si.length - 1 : Nat).testBit) from spl_all (by simp only [bC_size])] at hh
          exact ⟨B11, hh, hf.head ⟨rfl, True.intro⟩ (Keep.cons rfl (Keep.cons rfl (Keep.cons rfl (Keep.cons rfl (Keep.cons rfl (Keep.cons rfl (Keep.cons rfl (Keep.cons rfl (Keep.cons rfl (Keep.base))))))))))⟩
         ·refine mc_e rfl fun Q1 => ?_
          refine o_alloc hf hh Try.ze_81 ?_; clear hf hh a; intro B11 a w hf hh
          refine ops_end ?_
          refine then_n ⟨⟨fun _ _ => (AtE.of hh (by intro p hp; rw [List.mem_singleton.1 hp]; simp)), trivial⟩, ?_⟩
          refine mc_e rfl fun Q1 => ?_
          refine o_call hf Try.en_49 rfl rfl rfl (p49 c sa cp (2 ^ c.si.length - 1 : Nat) true _ (hA.ext hh.ext) hO (by omega)) ?_; clear hf a; intro v a w hR hf
          obtain ⟨b1, rfl, hb1, hx⟩ := hR; replace hh := hh.more hx; clear hx
          obtain rfl := hb1 (tigB_every hO hwr true); clear hb1
          refine ops_end ?_
          refine then_n ⟨⟨fun _ _ => (AtE.of hh (by intro p hp; rw [List.mem_singleton.1 hp]; simp)), trivial⟩, ?_⟩
          refine mc_p rfl   hf (yv_move rfl) (.inl rfl) rfl rfl ?_; clear hf a; intro a hf
          refine mc_p rfl   hf (yv_extract rfl rfl) (.inl rfl) rfl rfl ?_; clear hf a; intro a hf
          refine mc_p rfl   hf (yv_extract rfl rfl) (.inl rfl) rfl rfl ?_; clear hf a; intro a hf
          refine mc_e rfl fun Q1 => ?_
          refine o_store hf hh Try.sz_81 fun w hh => ?_
          refine ops_end ?_
          refine then_n ⟨⟨fun _ _ => (AtE.of hh (by intro p hp; rw [List.mem_singleton.1 hp]; simp)), trivial⟩, ?_⟩
          refine mc_p rfl   hf (yv_assign rfl) (.inl rfl) rfl rfl ?_; clear hf a; intro a hf
          refine mc_end ?_
          refine then_n ?_
          rw [z81] at hh
          replace hh : Hp u [] ((B11, .cells (spl (bC fun _ _ => none) 0 (bC (tig c true (2 ^ c.si.length - 1 : Nat).testBit)).toList) 81) :: ((B9, .cells (bC (tig c false (2 ^ c.si.length - 1 : Nat).testBit)) 81) :: [(B7, .cells #[.int .i64 0, .int .i64 0] 28), (B6, .cells #[.int .i64 0, .int .i64 0] 28), (B3, .cells (chC c sa cp) 24)])) w := hh
          rw [show spl (bC fun _ _ => none) 0 (bC (tig c true (2 ^ c.si.length - 1 : Nat).testBit)).toList = bC (tig c true (2 ^ c.si.length - 1 : Nat).testBit) from spl_all (by simp only [bC_size])] at hh
          exact ⟨B11, hh, hf.head ⟨rfl, True.intro⟩ (Keep.cons rfl (Keep.cons rfl (Keep.cons rfl (Keep.cons rfl (Keep.cons rfl (Keep.cons rfl (Keep.cons rfl (Keep.cons rfl (Keep.cons rfl (Keep.base))))))))))⟩
        ·refine mc_e rfl fun Q1 => ?_
         refine o_alloc hf hh Try.ze_81 ?_; clear hf hh a; intro B11 a w hf hh
         refine ops_end ?_
         refine then_n ⟨⟨fun _ _ => (AtE.of hh (by intro p hp; rw [List.mem_singleton.1 hp]; simp)), trivial⟩, ?_⟩
         refine mc_e rfl fun Q1 => ?_
         refine o_call hf Try.en_48 rfl rfl rfl (p48 c sa cp (by omega) _) ?_; clear hf a; intro v a w hR hf
         obtain ⟨rfl, hx⟩ := hR; replace hh := hh.more hx; clear hx
         refine ops_end ?_
         refine then_n ⟨⟨fun _ _ => (AtE.of hh (by intro p hp; rw [List.mem_singleton.1 hp]; simp)), trivial⟩, ?_⟩
         refine mc_e rfl fun Q1 => ?_
         refine o_call hf Try.en_49 rfl rfl rfl (p49 c sa cp (2 ^ c.si.length - 1 : Nat) true _ (hA.ext hh.ext) hO (by omega)) ?_; clear hf a; intro v a w hR hf
         obtain ⟨b1, rfl, hb1, hx⟩ := hR; replace hh := hh.more hx; clear hx
         obtain rfl := hb1 (tigB_every hO hwr true); clear hb1
         refine ops_end ?_
         refine then_n ⟨⟨fun _ _ => (AtE.of hh (by intro p hp; rw [List.mem_singleton.1 hp]; simp)), trivial⟩, ?_⟩
         refine mc_p rfl   hf (yv_move rfl) (.inl rfl) rfl rfl ?_; clear hf a; intro a hf
         refine mc_p rfl   hf (yv_extract rfl rfl) (.inl rfl) rfl rfl ?_; clear hf a; intro a hf
         refine mc_p rfl   hf (yv_extract rfl rfl) (.inl rfl) rfl rfl ?_; clear hf a; intro a hf
         refine mc_e rfl fun Q1 => ?_
         refine o_store hf hh Try.sz_81 fun w hh => ?_
         refine ops_end ?_
         refine then_n ⟨⟨fun _ _ => (AtE.of hh (by intro p hp; rw [List.mem_singleton.1 hp]; simp)), trivial⟩, ?_⟩
         refine mc_p rfl   hf (yv_assign rfl) (.inl rfl) rfl rfl ?_; clear hf a; intro a hf
         refine mc_end ?_
         refine then_n ?_
         rw [z81] at hh
         replace hh : Hp u [] ((B11, .cells (spl (bC fun _ _ => none) 0 (bC (tig c true (2 ^ c.si.length - 1 : Nat).testBit)).toList) 81) :: ((B9, .cells (bC (tig c false (2 ^ c.si.length - 1 : Nat).testBit)) 81) :: [(B7, .cells #[.int .i64 0, .int .i64 0] 28), (B6, .cells #[.int .i64 0, .int .i64 0] 28), (B3, .cells (chC c sa cp) 24)])) w := hh
         rw [show spl (bC fun _ _ => none) 0 (bC (tig c true (2 ^ c.si.length - 1 : Nat).testBit)).toList = bC (tig c true (2 ^ c.si.length - 1 : Nat).testBit) from spl_all (by simp only [bC_size])] at hh
         exact ⟨B11, hh, hf.head ⟨rfl, True.intro⟩ (Keep.cons rfl (Keep.cons rfl (Keep.cons rfl (Keep.cons rfl (Keep.cons rfl (Keep.cons rfl (Keep.cons rfl (Keep.cons rfl (Keep.cons rfl (Keep.base))))))))))⟩
       ·rintro q a w hh hf
        obtain ⟨B11, e9⟩ : ∃ z, z = q := ⟨_, rfl⟩
        rw [← e9] at hh hf; clear e9 q
        refine sy_seq ?_
        refine sy_seq ?_
        have hwr : wrL c = [] := Decidable.of_not_not fun h => by
          have h1 := (canE hO).2 h
          have h2 : canT c (2 ^ c.si.length - 1 : Nat).testBit = true := by assumption
          rw [h1] at h2; cases h2
        have hsx : stB c x = true := by assumption
        have hsy : stB c y = true := by assumption
        have hbx := st_bd hsx; have hby := st_bd hsy
        obtain ⟨xn, rfl⟩ : ∃ k : Nat, x = k := ⟨x.toNat, by omega⟩
        obtain ⟨yn, rfl⟩ : ∃ k : Nat, y = k := ⟨y.toNat, by omega⟩
        have hrk : (bC (tig c false (2 ^ c.si.length - 1 : Nat).testBit))[0 + 64 + ((xn : Nat) : Int).toNat * 8 + ((yn : Nat) : Int).toNat * 1]? = some (.bool (bndV c false noneS xn yn).isSome) := by rw [← tig_every hO hwr false (u := xn) (v := yn) (by omega)]; exact bC2_r _ _ (by omega) (by omega)
        have g1 : (bC (tig c false (2 ^ c.si.length - 1 : Nat).testBit))[0 + ((yn : Nat) : Int).toNat * 8 + ((xn : Nat) : Int).toNat * 1]? = some (.int .i64 ((bndV c false noneS yn xn).getD 0)) := by rw [← tig_every hO hwr false (u := yn) (v := xn) (by omega)]; exact bC2_l _ _ (by omega) (by omega)
        have g2 : (bC (tig c false (2 ^ c.si.length - 1 : Nat).testBit))[0 + ((xn : Nat) : Int).toNat * 8 + ((yn : Nat) : Int).toNat * 1]? = some (.int .i64 ((bndV c false noneS xn yn).getD 0)) := by rw [← tig_every hO hwr false (u := xn) (v := yn) (by omega)]; exact bC2_l _ _ (by omega) (by omega)
        have g3 : (bC (tig c true (2 ^ c.si.length - 1 : Nat).testBit))[0 + ((yn : Nat) : Int).toNat * 8 + ((xn : Nat) : Int).toNat * 1]? = some (.int .i64 ((bndV c true noneS yn xn).getD 0)) := by rw [← tig_every hO hwr true (u := yn) (v := xn) (by omega)]; exact bC2_l _ _ (by omega) (by omega)
        have g4 : (bC (tig c true (2 ^ c.si.length - 1 : Nat).testBit))[0 + ((xn : Nat) : Int).toNat * 8 + ((yn : Nat) : Int).toNat * 1]? = some (.int .i64 ((bndV c true noneS xn yn).getD 0)) := by rw [← tig_every hO hwr true (u := xn) (v := yn) (by omega)]; exact bC2_l _ _ (by omega) (by omega)
        have d1 := bndV_bd hO false noneS yn xn; have d2 := bndV_bd hO false noneS xn yn; have d3 := bndV_bd hO true noneS yn xn; have d4 := bndV_bd hO true noneS xn yn
        have hst : (stB c xn && stB c yn) = true := by rw [hsx, hsy]; rfl
        refine sy_ops ?_
        refine o_v hf hh (yv_move rfl) ?_; clear hf a; intro a hf
        refine o_v hf hh (yv_move rfl) ?_; clear hf a; intro a hf
        refine o_v hf hh (yv_fieldAddr Try.fo_81_1 rfl) ?_; clear hf a; intro a hf
        refine o_v hf hh (y_ia Try.ae_79 rfl rfl) ?_; clear hf a; intro a hf
        refine o_v hf hh (y_ia Try.ae_78 rfl rfl) ?_; clear hf a; intro a hf
        refine o_v hf hh (y_ld Try.sc_4 rfl) ?_; clear hf a; intro a hf
        refine o_v hf hh (yv_not rfl) ?_; clear hf a; intro a hf
        refine o_end ?_
        refine sy_cond hf rfl (fun hg33 => ?_) (fun hg33 => ?_)
        ·have hG33 := hg33; try simp only [gS] at hG33
         refine sy_sq ?_
         refine o_v hf hh (yv_buildS Try.bs_28 rfl rfl) ?_; clear hf a; intro a hf
         refine o_v hf hh (yv_buildS Try.bs_28 rfl rfl) ?_; clear hf a; intro a hf
         refine o_store hf hh Try.sz_28 fun w hh => ?_
         refine o_store hf hh Try.sz_28 fun w hh => ?_
         refine o_v hf hh (yv_assign rfl) ?_; clear hf a; intro a hf
         refine o_end ?_
         refine sy_ret ?_
         refine then_r ?_
         refine ret_c (vs := [.agg #[.int .i64 0, .int .i64 0], .agg #[.int .i64 0, .int .i64 0], .int .i64 12]) hf ?_ ?_
         · exact ⟨⟨B6, 0, _, _, _, rfl, hh.at (i := 3) rfl, .inr ⟨2, _, Try.ag_28, rfl, rfl⟩⟩, ⟨B7, 0, _, _, _, rfl, hh.at (i := 2) rfl, .inr ⟨2, _, Try.ag_28, rfl, rfl⟩⟩, rfl, True.intro⟩
         · have hev : betE c xn yn = 12 := by
             have hs9 : (bndV c false noneS xn yn).isSome = false := by assumption
             unfold betE
             rw [if_neg (by rw [hcb]; decide), if_neg (by rw [hst]; decide), if_neg (by rw [hwr]; simp), Int.toNat_natCast, Int.toNat_natCast, if_pos]
             cases e : bndV c false noneS xn yn with
             | none => rfl
             | some m => rw [e] at hs9; cases hs9
           have hne : betE c xn yn ≠ 0 := by rw [hev]; decide
           exact ⟨by rw [bet_zero hne, bet_zero hne, hev]; rfl, hh.ext⟩
        ·have hG33 := hg33; try simp only [gS] at hG33
         refine sy_skip ?_
         refine then_n ?_
         refine sy_seq ?_
         refine sy_treeC (.p 0 (.p 1 (.p 2 (.p 3 (.p 4 (.q 0 5 (.p 6 (.p 7 (.p 8 (.p 9 (.p 10 (.p 11 (.q 0 12 (.p 13 (.p 14 (.p 15 (.p 16 (.p 17 (.p 18 (.q 0 19 (.p 20 (.p 21 (.p 22 (.p 23 (.p 24 (.p 25 (.q 0 26 (.p 27 (.e1 28 (.e1 29 (.p 30 (.fin)))))))))))))))))))))))))))))))) [[]] [(AtE u [] [(B11, .cells (bC (tig c true (2 ^ c.si.length - 1 : Nat).testBit)) 81), (B9, .cells (bC (tig c false (2 ^ c.si.length - 1 : Nat).testBit)) 81)], [])] Try.follows (by kernel_rfl) rfl hh (fun w hh => ?_)
         refine mc_p rfl   hf (yv_move rfl) (.inl rfl) rfl rfl ?_; clear hf a; intro a hf
         refine mc_p rfl   hf (yv_move rfl) (.inl rfl) rfl rfl ?_; clear hf a; intro a hf
         refine mc_p rfl   hf (yv_fieldAddr Try.fo_81_0 rfl) (.inl rfl) rfl rfl ?_; clear hf a; intro a hf
         refine mc_p rfl   hf (y_ia Try.ae_77 rfl rfl) (.inl rfl) rfl rfl ?_; clear hf a; intro a hf
         refine mc_p rfl   hf (y_ia Try.ae_76 rfl rfl) (.inl rfl) rfl rfl ?_; clear hf a; intro a hf
         refine mc_q rfl rfl (AtE.of hh (by intro p hp; simp only [List.mem_cons, List.not_mem_nil, or_false] at hp; rcases hp with h | h <;> simp [h])) hf (y_ld Try.sc_3 rfl) (.inl rfl) rfl rfl ?_; clear hf a; intro a hf
         refine mc_p rfl   hf (yv_neg rfl (by omega) (by omega)) (.inl rfl) rfl rfl ?_; clear hf a; intro a hf
         refine mc_p rfl   hf (yv_move rfl) (.inl rfl) rfl rfl ?_; clear hf a; intro a hf
         refine mc_p rfl   hf (yv_move rfl) (.inl rfl) rfl rfl ?_; clear hf a; intro a hf
         refine mc_p rfl   hf (yv_fieldAddr Try.fo_81_0 rfl) (.inl rfl) rfl rfl ?_; clear hf a; intro a hf
         refine mc_p rfl   hf (y_ia Try.ae_77 rfl rfl) (.inl rfl) rfl rfl ?_; clear hf a; intro a hf
         refine mc_p rfl   hf (y_ia Try.ae_76 rfl rfl) (.inl rfl) rfl rfl ?_; clear hf a; intro a hf
         refine mc_q rfl rfl (AtE.of hh (by intro p hp; simp only [List.mem_cons, List.not_mem_nil, or_false] at hp; rcases hp with h | h <;> simp [h])) hf (y_ld Try.sc_3 rfl) (.inl rfl) rfl rfl ?_; clear hf a; intro a hf
         refine mc_p rfl   hf (yv_buildS Try.bs_28 rfl rfl) (.inl rfl) rfl rfl ?_; clear hf a; intro a hf
         refine mc_p rfl   hf (yv_move rfl) (.inl rfl) rfl rfl ?_; clear hf a; intro a hf
         refine mc_p rfl   hf (yv_move rfl) (.inl rfl) rfl rfl ?_; clear hf a; intro a hf
         refine mc_p rfl   hf (yv_fieldAddr Try.fo_81_0 rfl) (.inl rfl) rfl rfl ?_; clear hf a; intro a hf
         refine mc_p rfl   hf (y_ia Try.ae_77 rfl rfl) (.inl rfl) rfl rfl ?_; clear hf a; intro a hf
         refine mc_p rfl   hf (y_ia Try.ae_76 rfl rfl) (.inl rfl) rfl rfl ?_; clear hf a; intro a hf
         refine mc_q rfl rfl (AtE.of hh (by intro p hp; simp only [List.mem_cons, List.not_mem_nil, or_false] at hp; rcases hp with h | h <;> simp [h])) hf (y_ld Try.sc_3 rfl) (.inl rfl) rfl rfl ?_; clear hf a; intro a hf
         refine mc_p rfl   hf (yv_neg rfl (by omega) (by omega)) (.inl rfl) rfl rfl ?_; clear hf a; intro a hf
         refine mc_p rfl   hf (yv_move rfl) (.inl rfl) rfl rfl ?_; clear hf a; intro a hf
         refine mc_p rfl   hf (yv_move rfl) (.inl rfl) rfl rfl ?_; clear hf a; intro a hf
         refine mc_p rfl   hf (yv_fieldAddr Try.fo_81_0 rfl) (.inl rfl) rfl rfl ?_; clear hf a; intro a hf
         refine mc_p rfl   hf (y_ia Try.ae_77 rfl rfl) (.inl rfl) rfl rfl ?_; clear hf a; intro a hf
         refine mc_p rfl   hf (y_ia Try.ae_76 rfl rfl) (.inl rfl) rfl rfl ?_; clear hf a; intro a hf
         refine mc_q rfl rfl (AtE.of hh (by intro p hp; simp only [List.mem_cons, List.not_mem_nil, or_false] at hp; rcases hp with h | h <;> simp [h])) hf (y_ld Try.sc_3 rfl) (.inl rfl) rfl rfl ?_; clear hf a; intro a hf
         refine mc_p rfl   hf (yv_buildS Try.bs_28 rfl rfl) (.inl rfl) rfl rfl ?_; clear hf a; intro a hf
         refine mc_e rfl fun Q1 => ?_
         refine o_store hf hh Try.sz_28 fun w hh => ?_
         refine ops_end ?_
         refine then_n ⟨⟨fun _ _ => (AtE.of hh (by intro p hp; simp only [List.mem_cons, List.not_mem_nil, or_false] at hp; rcases hp with h | h <;> simp [h])), trivial⟩, ?_⟩
         refine mc_e rfl fun Q1 => ?_
         refine o_store hf hh Try.sz_28 fun w hh => ?_
         refine ops_end ?_
         refine then_n ⟨⟨fun _ _ => (AtE.of hh (by intro p hp; simp only [List.mem_cons, List.not_mem_nil, or_false] at hp; rcases hp with h | h <;> simp [h])), trivial⟩, ?_⟩
         refine mc_p rfl   hf (yv_assign rfl) (.inl rfl) rfl rfl ?_; clear hf a; intro a hf
         refine mc_end ?_
         refine then_n ?_
         refine sy_ret ?_
         refine ret_c (vs := [spV (-(bndV c false noneS yn xn).getD 0, (bndV c false noneS xn yn).getD 0), spV (-(bndV c true noneS yn xn).getD 0, (bndV c true noneS xn yn).getD 0), .int .i64 0]) hf ?_ ?_
         · exact ⟨⟨B6, 0, _, _, _, rfl, hh.at (i := 3) rfl, .inr ⟨2, _, Try.ag_28, rfl, rfl⟩⟩, ⟨B7, 0, _, _, _, rfl, hh.at (i := 2) rfl, .inr ⟨2, _, Try.ag_28, rfl, rfl⟩⟩, rfl, True.intro⟩
         · have hs9 : (bndV c false noneS xn yn).isSome = true := by assumption
           have hev : betE c xn yn = 0 := by
             unfold betE
             rw [if_neg (by rw [hcb]; decide), if_neg (by rw [hst]; decide), if_neg (by rw [hwr]; simp), Int.toNat_natCast, Int.toNat_natCast, if_neg (fun e => by rw [e] at hs9; cases hs9)]
           exact ⟨by rw [betV_ok hev, betV_ok hev, hev, Int.toNat_natCast, Int.toNat_natCast]; rfl, hh.ext⟩
end Go.Proofs.Ytccjnjhlnpgocaa
namespace Go.ChaM
open Go Go.Sy
def samQ (n : Nat) (x y : M2) : Bool := (List.range n).all fun i => (List.range n).all fun k => decide (x i k = y i k)
theorem samQ_iff {n : Nat} {x y : M2} : samQ n x y = true ↔ ∀ i k, i < n → k < n → x i k = y i k := by
  unfold samQ
  simp only [List.all_eq_true, List.mem_range, decide_eq_true_eq]
  exact ⟨fun h i k hi hk => h i hi k hk, fun h i hi k hk => h i k hi hk⟩
theorem samQ_no {n : Nat} {x y : M2} {i k : Nat} (hi : i < n) (hk : k < n) (h : x i k ≠ y i k) : samQ n x y = false := Bool.eq_false_iff.2 fun e => h (samQ_iff.1 e i k hi hk)
theorem same_of {x y : M2} {i k : Nat} (h1 : (x i k).isSome = (y i k).isSome) (h2 : (x i k).isSome = true → (x i k).getD 0 = (y i k).getD 0) : x i k = y i k := by
  cases e1 : x i k with
  | none =>
    cases e2 : y i k with
    | none => rfl
    | some b => rw [e1, e2] at h1; cases h1
  | some a =>
    cases e2 : y i k with
    | none => rw [e1, e2] at h1; cases h1
    | some b => rw [e1, e2] at h2; exact congrArg some (h2 rfl)
theorem rest_pow {n i k : Nat} (hi : i < n) (hk : k < n) : (2 ^ n - 1 - 2 ^ i).testBit k = !decide (k = i) := by
  rw [rest_bit (Nat.pow_lt_pow_right (by omega) hi) hk, Nat.testBit_two_pow]
  exact congrArg (fun b => !b) (decide_eq_decide.2 ⟨Eq.symm, Eq.symm⟩)
theorem tig_less {c : ChD} (a : Bool) {i : Nat} (hi : i < c.si.length) : tig c a (2 ^ c.si.length - 1 - 2 ^ i).testBit = tig c a fun k => !decide (k = i) := tig_congr fun _ hk => rest_pow hi hk
theorem tig_evy (c : ChD) (a : Bool) : tig c a (2 ^ c.si.length - 1).testBit = tig c a fun _ => true := tig_congr fun _ hk => every_bit hk
theorem tigB_less {c : ChD} (hO : ChOk c) (hw : wrL c = []) (a : Bool) (S : Nat → Bool) : tigB c a S = true :=
  (tigB_iff hO).2 (wid_can hO hO (wid_self c) (S := S) (S' := fun i => !noneS i) (fun _ _ _ => rfl) ((can_all hO).2 hw) a)
theorem idl_sam {c : ChD} (hO : ChOk c) (hw : wrL c = []) {i : Nat} {s : SiD} (hs : c.si[i]? = some s) (hi : i < c.si.length) :
    (samQ c.n.toNat (tig c false (2 ^ c.si.length - 1).testBit) (tig c false (2 ^ c.si.length - 1 - 2 ^ i).testBit) && samQ c.n.toNat (tig c true (2 ^ c.si.length - 1).testBit) (tig c true (2 ^ c.si.length - 1 - 2 ^ i).testBit)) = idlB c i := by
  have hN : ∀ a, NoNeg (edE c a fun _ => true) := fun a => (can_all hO).2 hw a
  rw [Bool.eq_iff_iff, Bool.and_eq_true, samQ_iff, samQ_iff, idl_at hs, tig_evy, tig_evy, tig_less false hi, tig_less true hi]
  constructor
  · rintro ⟨h1, h2⟩ a
    cases a
    · exact (sam_iff hO (hN false) hs).1 h1
    · exact (sam_iff hO (hN true) hs).1 h2
  · intro h
    exact ⟨(sam_iff hO (hN false) hs).2 (h false), (sam_iff hO (hN true) hs).2 (h true)⟩
theorem or_add {b i : Nat} (h : b < 2 ^ i) : b ||| 2 ^ i = b + 2 ^ i := by
  have := Nat.two_pow_add_eq_or_of_lt h 1
  rw [Nat.mul_one] at this
  rw [Nat.or_comm, ← this, Nat.add_comm]
end Go.ChaM
namespace Go.Proofs.Ytccjnjhlnpgocaa
open Go Go.Sy Go.ChaM
theorem p16 (c : ChD) (sa : Option Addr) (cp : Nat) (y : Int) (u : World) (hA : ChAt u c sa) : Calls Try.prog 16 #[.agg (chC c sa cp), .int .i64 y] u (Ret fun v w' => v = .tuple #[spV (betV c false 0 y), spV (betV c true 0 y), .int .i64 (betE c 0 y)] ∧ Ext [] u w') := by
  refine calls_of Try.func16 rfl rfl (fun a hf => ?_)
  have hh := Hp.init u []
  refine sy_sq ?_
  refine o_box hf hh ?_; clear hf hh a; intro B2 a w hf hh
  refine o_alloc hf hh Try.ze_28 ?_; clear hf hh a; intro B4 a w hf hh
  refine o_alloc hf hh Try.ze_28 ?_; clear hf hh a; intro B5 a w hf hh
  refine o_v hf hh (yv_assign rfl) ?_; clear hf a; intro a hf
  refine o_end ?_
  refine sy_sq ?_
  refine o_v hf hh (y_lds Try.ag_24 rfl) ?_; clear hf a; intro a hf
  refine o_v hf hh (yv_move rfl) ?_; clear hf a; intro a hf
  refine o_call hf Try.en_18 rfl rfl rfl (p18 c sa cp 0 y _ (hA.ext hh.ext)) ?_; clear hf a; intro v a w hR hf
  obtain ⟨rfl, hx⟩ := hR; replace hh := hh.more hx; clear hx
  refine o_v hf hh (yv_extract rfl rfl) ?_; clear hf a; intro a hf
  refine o_v hf hh (yv_extract rfl rfl) ?_; clear hf a; intro a hf
  refine o_v hf hh (yv_extract rfl rfl) ?_; clear hf a; intro a hf
  refine o_store hf hh Try.sz_28 fun w hh => ?_
  refine o_store hf hh Try.sz_28 fun w hh => ?_
  refine o_v hf hh (yv_assign rfl) ?_; clear hf a; intro a hf
  refine o_end ?_
  refine sy_ret ?_
  refine ret_c (vs := [spV (betV c false 0 y), spV (betV c true 0 y), .int .i64 (betE c 0 y)]) hf ?_ ?_
  · exact ⟨⟨B4, 0, _, _, _, rfl, hh.at (i := 1) rfl, .inr ⟨2, _, Try.ag_28, rfl, rfl⟩⟩, ⟨B5, 0, _, _, _, rfl, hh.at (i := 0) rfl, .inr ⟨2, _, Try.ag_28, rfl, rfl⟩⟩, rfl, True.intro⟩
  · exact ⟨rfl, hh.ext⟩
set_option maxRecDepth 100000 in
theorem p52 (c : ChD) (sa : Option Addr) (cp : Nat) (x y : M2) (u : World) (hn : 1 ≤ c.n ∧ c.n ≤ 8) : Calls Try.prog 52 #[.agg (chC c sa cp), .agg (bC x), .agg (bC y)] u (Ret fun v w' => v = .bool (samQ c.n.toNat x y) ∧ Ext [] u w') := by
  refine calls_of Try.func52 rfl rfl (fun a hf => ?_)
  have hh := Hp.init u []
  obtain ⟨nn, hnn⟩ : ∃ nn : Nat, c.n = nn := ⟨c.n.toNat, by omega⟩
  have hcn : c.n.toNat = nn := by omega
  have hn8 : nn ≤ 8 := by omega
  refine sy_sq ?_
  refine o_box hf hh ?_; clear hf hh a; intro B3 a w hf hh
  refine o_box hf hh ?_; clear hf hh a; intro B4 a w hf hh
  refine o_box hf hh ?_; clear hf hh a; intro B5 a w hf hh
  refine o_v hf hh (yv_assign rfl) ?_; clear hf a; intro a hf
  refine o_end ?_
  refine sy_seq ?_
  refine sy_seq ?_
  replace hh : Hp u [] [(B5, .cells (bC y) 81), (B4, .cells (bC x) 81), (B3, .cells (chC c sa cp) 24)] w := hh
  refine sy_ops ?_
  refine o_v hf hh (yv_assign rfl) ?_; clear hf a; intro a hf
  refine o_end ?_
  refine sy_block ?_
  refine sy_loopH (σ := Nat) [6, 7, 8, 9, 10, 11, 12, 13, 14, 15, 16, 17, 18, 19, 20, 21, 22, 23, 24, 25, 26, 27, 28, 29, 30, 31, 32, 33, 34, 35, 36, 37, 38, 39, 40, 41, 42, 43, 44, 45, 46, 47, 48, 49, 50, 51, 52, 53, 54, 55, 56] (fun i => [(7, .int .i64 (i : Nat))]) (fun i => fun w' => i ≤ nn ∧ (∀ p q : Nat, p < i → q < nn → x p q = y p q) ∧ Hp u [] [(B5, .cells (bC y) 81), (B4, .cells (bC x) 81), (B3, .cells (chC c sa cp) 24)] w') (fun i => nn - i) (0) hf ?_ ?_ ?_
  · repeat' (first | exact True.intro | refine And.intro rfl ?_)
  · exact ⟨Nat.zero_le _, (fun p q hp _ => absurd hp (Nat.not_lt_zero _)), hh⟩
  ·rintro i a w ⟨hi, hd, hh⟩ hf
   refine sy_seq ?_
   refine sy_sq ?_
   refine o_v hf hh (yv_move rfl) ?_; clear hf a; intro a hf
   refine o_v hf hh (yv_fieldAddr Try.fo_24_0 rfl) ?_; clear hf a; intro a hf
   refine o_v hf hh (y_ld Try.sc_3 rfl) ?_; clear hf a; intro a hf
   refine o_v hf hh (yv_bin rfl rfl rfl) ?_; clear hf a; intro a hf
   refine o_end ?_
   refine sy_cond hf rfl (fun hg2 => ?_) (fun hg2 => ?_)
   ·have hG2 := hg2; try simp only [gS] at hG2
    refine sy_skip ?_
    refine then_n ?_
    refine sy_seq ?_
    refine sy_block ?_
    refine sy_sq ?_
    refine o_v hf hh (yv_assign rfl) ?_; clear hf a; intro a hf
    refine o_end ?_
    refine sy_block ?_
    refine sy_loopH (σ := Nat) [6, 8, 15, 16, 17, 18, 19, 20, 21, 22, 23, 24, 25, 26, 27, 28, 29, 30, 31, 32, 33, 34, 35, 36, 37, 38, 39, 40, 41, 42, 43, 44, 45, 46, 47, 48, 49, 50, 51, 52, 53, 54, 55, 56] (fun k => [(8, .int .i64 (k : Nat))]) (fun k => fun w' => k ≤ nn ∧ (∀ q : Nat, q < k → x i q = y i q) ∧ Hp u [] [(B5, .cells (bC y) 81), (B4, .cells (bC x) 81), (B3, .cells (chC c sa cp) 24)] w') (fun k => nn - k) (0) hf ?_ ?_ ?_
    · repeat' (first | exact True.intro | refine And.intro rfl ?_)
    · exact ⟨Nat.zero_le _, (fun q hq => absurd hq (Nat.not_lt_zero _)), hh⟩
    ·rintro k a w ⟨hk, he, hh⟩ hf
     refine sy_seq ?_
     refine sy_sq ?_
     refine o_v hf hh (yv_move rfl) ?_; clear hf a; intro a hf
     refine o_v hf hh (yv_fieldAddr Try.fo_24_0 rfl) ?_; clear hf a; intro a hf
     refine o_v hf hh (y_ld Try.sc_3 rfl) ?_; clear hf a; intro a hf
     refine o_v hf hh (yv_bin rfl rfl rfl) ?_; clear hf a; intro a hf
     refine o_end ?_
     refine sy_cond hf rfl (fun hg4 => ?_) (fun hg4 => ?_)
     ·have hG4 := hg4; try simp only [gS] at hG4
      refine sy_skip ?_
      refine then_n ?_
      refine sy_seq ?_
      refine sy_block ?_
      refine sy_seq ?_
      have gx1 : (bC x)[0 + 64 + ((i : Nat) : Int).toNat * 8 + ((k : Nat) : Int).toNat * 1]? = some (.bool (x i k).isSome) := bC2_r _ _ (by omega) (by omega)
      have gy1 : (bC y)[0 + 64 + ((i : Nat) : Int).toNat * 8 + ((k : Nat) : Int).toNat * 1]? = some (.bool (y i k).isSome) := bC2_r _ _ (by omega) (by omega)
      have gx0 : (bC x)[0 + ((i : Nat) : Int).toNat * 8 + ((k : Nat) : Int).toNat * 1]? = some (.int .i64 ((x i k).getD 0)) := bC2_l _ _ (by omega) (by omega)
      have gy0 : (bC y)[0 + ((i : Nat) : Int).toNat * 8 + ((k : Nat) : Int).toNat * 1]? = some (.int .i64 ((y i k).getD 0)) := bC2_l _ _ (by omega) (by omega)
      refine sy_quiet (C := Hp _ _ _) Try.follows (by kernel_rfl) (hh.drawn _) ?_
      refine oq_v hf (yv_move rfl) ?_; clear hf a; intro a hf
      refine oq_v hf (yv_move rfl) ?_; clear hf a; intro a hf
      refine oq_v hf (yv_fieldAddr Try.fo_81_1 rfl) ?_; clear hf a; intro a hf
      refine oq_v hf (y_ia Try.ae_79 rfl rfl) ?_; clear hf a; intro a hf
      refine oq_v hf (y_ia Try.ae_78 rfl rfl) ?_; clear hf a; intro a hf
      refine oq_v hf (y_ld Try.sc_4 rfl) ?_; clear hf a; intro a hf
      refine oq_v hf (yv_move rfl) ?_; clear hf a; intro a hf
      refine oq_v hf (yv_move rfl) ?_; clear hf a; intro a hf
      refine oq_v hf (yv_fieldAddr Try.fo_81_1 rfl) ?_; clear hf a; intro a hf
      refine oq_v hf (y_ia Try.ae_79 rfl rfl) ?_; clear hf a; intro a hf
      refine oq_v hf (y_ia Try.ae_78 rfl rfl) ?_; clear hf a; intro a hf
      refine oq_v hf (y_ld Try.sc_4 rfl) ?_; clear hf a; intro a hf
      refine oq_v hf (yv_neb Try.ub_4 rfl rfl) ?_; clear hf a; intro a hf
      refine oq_v hf (yv_move rfl) ?_; clear hf a; intro a hf
      refine guard_splitq hf (t := 34) rfl (fun hg8 => ?_) (fun hg8 => ?_)
      ·have hG8 := hg8; try simp only [gS] at hG8
       refine oq_off hf ?_; clear hf a; intro a hf
       refine oq_off hf ?_; clear hf a; intro a hf
       refine oq_off hf ?_; clear hf a; intro a hf
       refine oq_off hf ?_; clear hf a; intro a hf
       refine oq_off hf ?_; clear hf a; intro a hf
       refine oq_off hf ?_; clear hf a; intro a hf
       refine oq_off hf ?_; clear hf a; intro a hf
       refine oq_off hf ?_; clear hf a; intro a hf
       refine oq_off hf ?_; clear hf a; intro a hf
       refine oq_off hf ?_; clear hf a; intro a hf
       refine oq_off hf ?_; clear hf a; intro a hf
       refine oq_off hf ?_; clear hf a; intro a hf
       refine oq_off hf ?_; clear hf a; intro a hf
       refine oq_off hf ?_; clear hf a; intro a hf
       refine oq_off hf ?_; clear hf a; intro a hf
       refine oq_off hf ?_; clear hf a; intro a hf
       refine oq_off hf ?_; clear hf a; intro a hf
       refine oq_off hf ?_; clear hf a; intro a hf
       refine oq_off hf ?_; clear hf a; intro a hf
       refine oq_off hf ?_; clear hf a; intro a hf
       refine oq_off hf ?_; clear hf a; intro a hf
       refine oq_v hf (y_pt rfl rfl) ?_; clear hf a; intro a hf
       refine q_end fun w hh => ?_
       refine then_n ?_
       refine c_t hf ?_
       refine sy_sq ?_
       refine o_v hf hh (yv_assign rfl) ?_; clear hf a; intro a hf
       refine o_end ?_
       refine sy_ret ?_
       refine blk_r ?_
       refine then_r ?_
       refine then_r ?_
       refine blk_r ?_
       refine blk_r ?_
       refine then_r ?_
       refine then_r ?_
       refine blk_r ?_
       refine then_r ?_
       refine ret_r hf rfl rfl ?_
       first
         | (have ei : i = nn := by omega
            exact ⟨congrArg Value.bool (samQ_iff.2 fun p q hp hq => hd p q (by omega) (by omega)).symm, hh.ext⟩)
         | (have hne : x i k ≠ y i k := fun e => by clear hf hh gx1 gy1 gx0 gy0; simp_all
            exact ⟨congrArg Value.bool (samQ_no (by omega) (by omega) hne).symm, hh.ext⟩)
      ·have hG8 := hg8; try simp only [gS] at hG8
       refine oq_v hf (yv_move rfl) ?_; clear hf a; intro a hf
       refine oq_v hf (yv_move rfl) ?_; clear hf a; intro a hf
       refine oq_v hf (yv_fieldAddr Try.fo_81_1 rfl) ?_; clear hf a; intro a hf
       refine oq_v hf (y_ia Try.ae_79 rfl rfl) ?_; clear hf a; intro a hf
       refine oq_v hf (y_ia Try.ae_78 rfl rfl) ?_; clear hf a; intro a hf
       refine oq_v hf (y_ld Try.sc_4 rfl) ?_; clear hf a; intro a hf
       refine oq_v hf (yv_move rfl) ?_; clear hf a; intro a hf
       refine guard_splitq hf (t := 41) rfl (fun hg10 => ?_) (fun hg10 => ?_)
       ·have hG10 := hg10; try simp only [gS] at hG10
        refine oq_v hf (yv_move rfl) ?_; clear hf a; intro a hf
        refine oq_v hf (yv_move rfl) ?_; clear hf a; intro a hf
        refine oq_v hf (yv_fieldAddr Try.fo_81_0 rfl) ?_; clear hf a; intro a hf
        refine oq_v hf (y_ia Try.ae_77 rfl rfl) ?_; clear hf a; intro a hf
        refine oq_v hf (y_ia Try.ae_76 rfl rfl) ?_; clear hf a; intro a hf
        refine oq_v hf (y_ld Try.sc_3 rfl) ?_; clear hf a; intro a hf
        refine oq_v hf (yv_move rfl) ?_; clear hf a; intro a hf
        refine oq_v hf (yv_move rfl) ?_; clear hf a; intro a hf
        refine oq_v hf (yv_fieldAddr Try.fo_81_0 rfl) ?_; clear hf a; intro a hf
        refine oq_v hf (y_ia Try.ae_77 rfl rfl) ?_; clear hf a; intro a hf
        refine oq_v hf (y_ia Try.ae_76 rfl rfl) ?_; clear hf a; intro a hf
        refine oq_v hf (y_ld Try.sc_3 rfl) ?_; clear hf a; intro a hf
        refine oq_v hf (yv_bin rfl rfl rfl) ?_; clear hf a; intro a hf
        refine oq_v hf (y_pt rfl rfl) ?_; clear hf a; intro a hf
        refine oq_v hf (y_pf rfl rfl) ?_; clear hf a; intro a hf
        refine q_end fun w hh => ?_
        refine then_n ?_
        refine sy_cond hf rfl (fun hg12 => ?_) (fun hg12 => ?_)
        ·have hG12 := hg12; try simp only [gS] at hG12
         refine sy_sq ?_
         refine o_v hf hh (yv_assign rfl) ?_; clear hf a; intro a hf
         refine o_end ?_
         refine sy_ret ?_
         refine blk_r ?_
         refine then_r ?_
         refine then_r ?_
         refine blk_r ?_
         refine blk_r ?_
         refine then_r ?_
         refine then_r ?_
         refine blk_r ?_
         refine then_r ?_
         refine ret_r hf rfl rfl ?_
         first
           | (have ei : i = nn := by omega
              exact ⟨congrArg Value.bool (samQ_iff.2 fun p q hp hq => hd p q (by omega) (by omega)).symm, hh.ext⟩)
           | (have hne : x i k ≠ y i k := fun e => by clear hf hh gx1 gy1 gx0 gy0; simp_all
              exact ⟨congrArg Value.bool (samQ_no (by omega) (by omega) hne).symm, hh.ext⟩)
        ·have hG12 := hg12; try simp only [gS] at hG12
         refine sy_skip ?_
         refine blk_n ?_
         refine then_n ?_
         refine sy_ops ?_
         refine o_v hf hh (yv_move rfl) ?_; clear hf a; intro a hf
         refine o_v hf hh (y_add rfl rfl) ?_; clear hf a; intro a hf
         refine o_v hf hh (yv_assign rfl) ?_; clear hf a; intro a hf
         refine ops_end ?_
         refine then_n ?_
         have hs1 : (x i k).isSome = (y i k).isSome := by clear hf hh gx1 gy1 gx0 gy0; simp_all
         have hs2 : (x i k).isSome = true → (x i k).getD 0 = (y i k).getD 0 := by clear hf hh gx1 gy1 gx0 gy0; simp_all
         exact ⟨k + 1, ⟨⟨by omega, (fun q hq => by rcases Nat.lt_succ_iff_lt_or_eq.1 hq with h | h; exact he q h; rw [h]; exact same_of hs1 hs2), hh⟩, (hf.head (by repeat' (first | exact True.intro | refine And.intro rfl ?_)) (Keep.cons rfl (Keep.cons rfl (Keep.cons rfl (Keep.cons rfl (Keep.cons rfl (Keep.cons rfl (Keep.cons rfl (Keep.cons rfl (Keep.cons rfl (Keep.cons rfl (Keep.cons rfl (Keep.cons rfl (Keep.cons rfl (Keep.cons rfl (Keep.cons rfl (Keep.cons rfl (Keep.cons rfl (Keep.cons rfl (Keep.cons rfl (Keep.cons rfl (Keep.cons rfl (Keep.cons rfl (Keep.cons rfl (Keep.cons rfl (Keep.cons rfl (Keep.cons rfl (Keep.cons rfl (Keep.cons rfl (Keep.cons rfl (Keep.cons rfl (Keep.cons rfl (Keep.cons rfl (Keep.cons rfl (Keep.cons rfl (Keep.cons rfl (Keep.cons rfl (Keep.cons rfl (Keep.cons rfl (Keep.cons rfl (Keep.cons rfl (Keep.cons rfl (Keep.cons rfl (Keep.cons rfl (Keep.app rfl (Keep.rm rfl Keep.base))))))))))))))))))))))))))))))))))))))))))))))⟩, by omega⟩
       ·have hG10 := hg10; try simp only [gS] at hG10
        refine oq_off hf ?_; clear hf a; intro a hf
        refine oq_off hf ?_; clear hf a; intro a hf
        refine oq_off hf ?_; clear hf a; intro a hf
        refine oq_off hf ?_; clear hf a; intro a hf
        refine oq_off hf ?_; clear hf a; intro a hf
        refine oq_off hf ?_; clear hf a; intro a hf
        refine oq_off hf ?_; clear hf a; intro a hf
        refine oq_off hf ?_; clear hf a; intro a hf
        refine oq_off hf ?_; clear hf a; intro a hf
        refine oq_off hf ?_; clear hf a; intro a hf
        refine oq_off hf ?_; clear hf a; intro a hf
        refine oq_off hf ?_; clear hf a; intro a hf
        refine oq_off hf ?_; clear hf a; intro a hf
        refine oq_v hf (y_pf rfl rfl) ?_; clear hf a; intro a hf
        refine oq_v hf (y_pf rfl rfl) ?_; clear hf a; intro a hf
        refine q_end fun w hh => ?_
        refine then_n ?_
        refine c_f hf ?_
        refine sy_skip ?_
        refine blk_n ?_
        refine then_n ?_
        refine sy_ops ?_
        refine o_v hf hh (yv_move rfl) ?_; clear hf a; intro a hf
        refine o_v hf hh (y_add rfl rfl) ?_; clear hf a; intro a hf
        refine o_v hf hh (yv_assign rfl) ?_; clear hf a; intro a hf
        refine ops_end ?_
        refine then_n ?_
        have hs1 : (x i k).isSome = (y i k).isSome := by clear hf hh gx1 gy1 gx0 gy0; simp_all
        have hs2 : (x i k).isSome = true → (x i k).getD 0 = (y i k).getD 0 := by clear hf hh gx1 gy1 gx0 gy0; simp_all
        exact ⟨k + 1, ⟨⟨by omega, (fun q hq => by rcases Nat.lt_succ_iff_lt_or_eq.1 hq with h | h; exact he q h; rw [h]; exact same_of hs1 hs2), hh⟩, (hf.head (by repeat' (first | exact True.intro | refine And.intro rfl ?_)) (Keep.cons rfl (Keep.cons rfl (Keep.cons rfl (Keep.cons rfl (Keep.cons rfl (Keep.cons rfl (Keep.cons rfl (Keep.cons rfl (Keep.cons rfl (Keep.cons rfl (Keep.cons rfl (Keep.cons rfl (Keep.cons rfl (Keep.cons rfl (Keep.cons rfl (Keep.cons rfl (Keep.cons rfl (Keep.cons rfl (Keep.cons rfl (Keep.cons rfl (Keep.cons rfl (Keep.cons rfl (Keep.cons rfl (Keep.cons rfl (Keep.cons rfl (Keep.cons rfl (Keep.cons rfl (Keep.cons rfl (Keep.cons rfl (Keep.cons rfl (Keep.cons rfl (Keep.cons rfl (Keep.cons rfl (Keep.cons rfl (Keep.cons rfl (Keep.cons rfl (Keep.cons rfl (Keep.cons rfl (Keep.cons rfl (Keep.cons rfl (Keep.cons rfl (Keep.cons rfl (Keep.cons rfl (Keep.app rfl (Keep.rm rfl Keep.base))))))))))))))))))))))))))))))))))))))))))))))⟩, by omega⟩
     ·have hG4 := hg4; try simp only [gS] at hG4
      refine sy_exit ?_
      refine then_e ?_
      refine then_e ?_
      refine blk_e ?_
      refine blk_n ?_
      refine then_n ?_
      refine sy_ops ?_
      refine o_v hf hh (yv_move rfl) ?_; clear hf a; intro a hf
      refine o_v hf hh (y_add rfl rfl) ?_; clear hf a; intro a hf
      refine o_v hf hh (yv_assign rfl) ?_; clear hf a; intro a hf
      refine ops_end ?_
      refine then_n ?_
      exact ⟨i + 1, ⟨⟨by omega, (fun p q hp hq => by rcases Nat.lt_succ_iff_lt_or_eq.1 hp with h | h; exact hd p q h hq; rw [h]; exact he q (by omega)), hh⟩, (hf.head (by repeat' (first | exact True.intro | refine And.intro rfl ?_)) (Keep.cons rfl (Keep.cons rfl (Keep.cons rfl (Keep.cons rfl (Keep.cons rfl (Keep.cons rfl (Keep.cons rfl (Keep.app rfl (Keep.rm rfl (Keep.cons rfl (Keep.cons rfl (Keep.cons rfl (Keep.cons rfl (Keep.cons rfl (Keep.app rfl (Keep.rm rfl Keep.base)))))))))))))))))⟩, by omega⟩
   ·have hG2 := hg2; try simp only [gS] at hG2
    refine sy_exit ?_
    refine then_e ?_
    refine then_e ?_
    refine blk_e ?_
    refine then_n ?_
    refine sy_sq ?_
    refine o_v hf hh (yv_assign rfl) ?_; clear hf a; intro a hf
    refine o_end ?_
    refine sy_ret ?_
    refine ret_r hf rfl rfl ?_
    first
      | (have ei : i = nn := by omega
         exact ⟨congrArg Value.bool (samQ_iff.2 fun p q hp hq => hd p q (by omega) (by omega)).symm, hh.ext⟩)
      | (have hne : x i k ≠ y i k := fun e => by clear hf hh gx1 gy1 gx0 gy0; simp_all
         exact ⟨congrArg Value.bool (samQ_no (by omega) (by omega) hne).symm, hh.ext⟩)
end Go.Proofs.Ytccjnjhlnpgocaa
namespace Go.Proofs.Ytccjnjhlnpgocaa
open Go Go.Sy Go.ChaM
set_option maxRecDepth 100000 in
set_option maxHeartbeats 4000000 in
theorem p20 (c : ChD) (sa : Option Addr) (cp : Nat) (u : World) (hA : ChAt u c sa) : Calls Try.prog 20 #[.agg (chC c sa cp)] u (Ret fun v w' => ∃ so co, v = .tuple #[.slice so (drwL c).length co, .int .i64 (drwE c)] ∧ TAt 2 spC w' so (drwL c) ∧ Ext [] u w') := by
  refine calls_of Try.func20 rfl rfl (fun a hf => ?_)
  have hh := Hp.init u []
  have hl9 := hA.len
  refine sy_sq ?_
  refine o_box hf hh ?_; clear hf hh a; intro B1 a w hf hh
  refine o_v hf hh (yv_assign rfl) ?_; clear hf a; intro a hf
  refine o_v hf hh (yv_assign rfl) ?_; clear hf a; intro a hf
  refine o_end ?_
  refine sy_seq ?_
  refine sy_sq ?_
  refine o_v hf hh (y_lds Try.ag_24 rfl) ?_; clear hf a; intro a hf
  refine o_call hf Try.en_31 rfl rfl rfl (p31 c sa cp _ (hA.ext hh.ext)) ?_; clear hf a; intro v a w hR hf
  obtain ⟨rfl, hx⟩ := hR; replace hh := hh.more hx; clear hx
  refine o_v hf hh (yv_not rfl) ?_; clear hf a; intro a hf
  refine o_end ?_
  refine sy_cond hf rfl (fun hg2 => ?_) (fun hg2 => ?_)
  ·have hG2 := hg2; try simp only [gS] at hG2
   refine sy_sq ?_
   refine o_v hf hh (yv_assign rfl) ?_; clear hf a; intro a hf
   refine o_v hf hh (yv_assign rfl) ?_; clear hf a; intro a hf
   refine o_end ?_
   refine sy_ret ?_
   refine then_r ?_
   refine ret_r hf rfl rfl ?_
   have ev := drwE1 (c := c) (by assumption)
   exact ⟨none, 0, by rw [ev, drwL_no ev (by decide)]; rfl, (fun i s hi => by rw [drwL_no ev (by decide)] at hi; simp at hi), hh.ext⟩
  ·have hG2 := hg2; try simp only [gS] at hG2
   refine sy_skip ?_
   refine then_n ?_
   refine sy_seq ?_
   have hcb : chB c = true := by assumption
   have hO := chB_iff.1 hcb
   have hn1 := hO.n1; have hn2 := hO.n2
   refine sy_ops ?_
   refine o_v hf hh (yv_assign rfl) ?_; clear hf a; intro a hf
   refine o_end ?_
   refine sy_seq ?_
   refine sy_sq ?_
   refine o_v hf hh (yv_assign rfl) ?_; clear hf a; intro a hf
   refine o_end ?_
   refine sy_block ?_
   refine sy_loopH (σ := Nat × Value × List (Nat × Obj)) [2, 3, 4, 5, 6, 7, 8, 12, 13, 14, 15, 16, 17, 18, 19, 20, 21, 22, 23, 24, 25, 26, 27, 28, 29, 30, 31, 32, 33, 34, 35] (fun q => [(5, .int .i64 (q.1 : Nat)), (4, q.2.1)]) (fun q => fun w' => q.1 ≤ c.n.toNat ∧ drwG c q.1 = 0 ∧ OwnSl 39 2 q.2.1 q.1 (((List.range q.1).map (drwP c)).flatMap spC) q.2.2 ∧ Hp u [] ([(B1, .cells (chC c sa cp) 24)] ++ q.2.2) w') (fun q => c.n.toNat - q.1) ((0, .slice none 0 0, [])) hf ?_ ?_ ?_
   · repeat' (first | exact True.intro | refine And.intro rfl ?_)
   · exact ⟨Nat.zero_le _, rfl, OwnSl.nil 39 2, hh⟩
   ·rintro q a w ⟨hi, hG0, hOw, hh⟩ hf
    obtain ⟨i, v4, X⟩ := q; simp only at hi hG0 hOw hh hf ⊢
    refine sy_seq ?_
    refine sy_sq ?_
    refine o_v hf hh (yv_move rfl) ?_; clear hf a; intro a hf
    refine o_v hf hh (yv_fieldAddr Try.fo_24_0 rfl) ?_; clear hf a; intro a hf
    refine o_v hf hh (y_ld Try.sc_3 rfl) ?_; clear hf a; intro a hf
    refine o_v hf hh (yv_bin rfl rfl rfl) ?_; clear hf a; intro a hf
    refine o_end ?_
    refine sy_cond hf rfl (fun hg4 => ?_) (fun hg4 => ?_)
    ·have hG4 := hg4; try simp only [gS] at hG4
     refine sy_skip ?_
     refine then_n ?_
     refine sy_seq ?_
     refine sy_block ?_
     refine sy_sq ?_
     refine o_v hf hh (y_lds Try.ag_24 rfl) ?_; clear hf a; intro a hf
     refine o_v hf hh (yv_move rfl) ?_; clear hf a; intro a hf
     refine o_call hf Try.en_16 rfl rfl rfl (p16 c sa cp (i : Nat) _ (hA.ext hh.ext)) ?_; clear hf a; intro v a w hR hf
     obtain ⟨rfl, hx⟩ := hR; replace hh := hh.more hx; clear hx
     refine o_v hf hh (yv_move rfl) ?_; clear hf a; intro a hf
     refine o_v hf hh (yv_extract rfl rfl) ?_; clear hf a; intro a hf
     refine o_v hf hh (yv_extract rfl rfl) ?_; clear hf a; intro a hf
     refine o_v hf hh (yv_extract rfl rfl) ?_; clear hf a; intro a hf
     refine o_alloc hf hh Try.ze_28 ?_; clear hf hh a; intro B6 a w hf hh
     refine o_alloc hf hh Try.ze_28 ?_; clear hf hh a; intro B7 a w hf hh
     refine o_store hf hh Try.sz_28 fun w hh => ?_
     refine o_store hf hh Try.sz_28 fun w hh => ?_
     refine o_v hf hh (yv_assign rfl) ?_; clear hf a; intro a hf
     refine o_end ?_
     refine sy_seq ?_
     refine sy_seq ?_
     replace hh : Hp u [] ([(B7, .cells (spC (betV c true 0 (i : Nat))).toArray 28), (B6, .cells (spC (betV c false 0 (i : Nat))).toArray 28), (B1, .cells (chC c sa cp) 24)] ++ X) w := hh
     refine sy_ops ?_
     refine o_v hf hh (yv_move rfl) ?_; clear hf a; intro a hf
     refine o_v hf hh (yv_bin rfl rfl rfl) ?_; clear hf a; intro a hf
     refine o_end ?_
     refine sy_cond hf rfl (fun hg10 => ?_) (fun hg10 => ?_)
     ·have hG10 := hg10; try simp only [gS] at hG10
      refine sy_sq ?_
      refine o_v hf hh (yv_move rfl) ?_; clear hf a; intro a hf
      refine o_v hf hh (yv_assign rfl) ?_; clear hf a; intro a hf
      refine o_v hf hh (yv_assign rfl) ?_; clear hf a; intro a hf
      refine o_end ?_
      refine sy_ret ?_
      refine then_r ?_
      refine blk_r ?_
      refine then_r ?_
      refine then_r ?_
      refine blk_r ?_
      refine then_r ?_
      refine ret_r hf rfl rfl ?_
      have hne : betE c 0 (i : Int) ≠ 0 := by assumption
      have ev := drwE_at hcb (show i < c.n.toNat by omega) hG0 rfl hne
      exact ⟨none, 0, by rw [ev, drwL_no ev hne]; rfl, (fun i s hi => by rw [drwL_no ev hne] at hi; simp at hi), hh.ext⟩
     ·have hG10 := hg10; try simp only [gS] at hG10
      refine sy_skip ?_
      refine then_n ?_
      refine sy_ops ?_
      refine o_v hf hh (yv_move rfl) ?_; clear hf a; intro a hf
      refine o_v hf hh (yv_fieldAddr Try.fo_28_0 rfl) ?_; clear hf a; intro a hf
      refine o_v hf hh (y_ld Try.sc_3 rfl) ?_; clear hf a; intro a hf
      refine o_v hf hh (yv_fieldAddr Try.fo_28_0 rfl) ?_; clear hf a; intro a hf
      refine o_v hf hh (y_ld Try.sc_3 rfl) ?_; clear hf a; intro a hf
      refine o_v hf hh (yv_buildS Try.bs_39 rfl rfl) ?_; clear hf a; intro a hf
      refine ops_buildSl hf hh Try.bl_33_1 rfl rfl (.inl rfl) rfl ?_; clear hf hh; clear a; intro B34 a w hf hh
      refine ops_append (e := 39) (size := 2) (xs := ((List.range i).map (drwP c)).flatMap spC) (X := X) (Z := [(B7, Obj.cells (spC (betV c true 0 (i : Nat))).toArray 28), (B6, Obj.cells (spC (betV c false 0 (i : Nat))).toArray 28), (B1, Obj.cells (chC c sa cp) 24)]) (m := i) (q := 1) hf (hh.perm (.cons _ (List.perm_append_comm (l₁ := [(B7, Obj.cells (spC (betV c true 0 (i : Nat))).toArray 28), (B6, Obj.cells (spC (betV c false 0 (i : Nat))).toArray 28), (B1, Obj.cells (chC c sa cp) 24)]) (l₂ := X)))) Try.eb_33 rfl rfl hOw rfl rfl rfl (by simp only [maxLen]; omega) (by omega) (.inl rfl) rfl ?_; clear hf hh a; intro v7 X7 a w hO7 hf hh
      replace hh : Hp u [] ([(B7, Obj.cells (spC (betV c true 0 (i : Nat))).toArray 28), (B6, Obj.cells (spC (betV c false 0 (i : Nat))).toArray 28), (B1, Obj.cells (chC c sa cp) 24)] ++ X7) w := hh.perm List.perm_append_comm
      replace hO7 : OwnSl 39 2 v7 (i + 1) (((List.range i).map (drwP c)).flatMap spC ++ spC (drwP c i)) X7 := hO7
      obtain ⟨oa7, cp7, rfl⟩ := own_val hO7
      refine o_v hf hh (yv_assign rfl) ?_; clear hf a; intro a hf
      refine ops_end ?_
      refine blk_n ?_
      refine then_n ?_
      refine sy_ops ?_
      refine o_v hf hh (yv_move rfl) ?_; clear hf a; intro a hf
      refine o_v hf hh (y_add rfl rfl) ?_; clear hf a; intro a hf
      refine o_v hf hh (yv_assign rfl) ?_; clear hf a; intro a hf
      refine ops_end ?_
      refine then_n ?_
      have ev : betE c 0 (i : Int) = 0 := by assumption
      exact ⟨(i + 1, _, X7), ⟨⟨by simp only; omega, by simp only; rw [drwG, if_pos hG0]; exact ev, by simp only; rw [List.range_succ, List.map_append, List.flatMap_append, List.map_cons, List.map_nil]; simpa using hO7, hh.less (.cons _ (.cons _ (.refl _)))⟩, (hf.head (by repeat' (first | exact True.intro | refine And.intro rfl ?_)) (Keep.cons rfl (Keep.cons rfl (Keep.cons rfl (Keep.cons rfl (Keep.cons rfl (Keep.cons rfl (Keep.cons rfl (Keep.cons rfl (Keep.cons rfl (Keep.cons rfl (Keep.cons rfl (Keep.cons rfl (Keep.cons rfl (Keep.cons rfl (Keep.cons rfl (Keep.cons rfl (Keep.cons rfl (Keep.cons rfl (Keep.cons rfl (Keep.cons rfl (Keep.cons rfl (Keep.cons rfl (Keep.cons rfl (Keep.cons rfl (Keep.cons rfl (Keep.cons rfl (Keep.cons rfl (Keep.cons rfl (Keep.app rfl (Keep.rm rfl Keep.base)))))))))))))))))))))))))))))))⟩, by simp only; omega⟩
    ·have hG4 := hg4; try simp only [gS] at hG4
     refine sy_exit ?_
     refine then_e ?_
     refine then_e ?_
     refine blk_e ?_
     refine then_n ?_
     refine sy_sq ?_
     refine o_v hf hh (yv_move rfl) ?_; clear hf a; intro a hf
     refine o_v hf hh (yv_assign rfl) ?_; clear hf a; intro a hf
     refine o_v hf hh (yv_assign rfl) ?_; clear hf a; intro a hf
     refine o_end ?_
     refine sy_ret ?_
     refine ret_r hf rfl rfl ?_
     obtain rfl : i = c.n.toNat := by omega
     have ev := drwE0 hcb hG0
     have eL := drwL_ok ev
     have el : (drwL c).length = c.n.toNat := by rw [eL]; simp
     obtain ⟨oa6, cp6, rfl⟩ := own_val hOw
     exact ⟨oa6, cp6, by rw [el, ev]; rfl, by rw [eL]; exact own_tat spC_len hOw (by simp) (fun q hq => hh.get q (by simp [hq])), hh.ext⟩
end Go.Proofs.Ytccjnjhlnpgocaa
namespace Go.Proofs.Ytccjnjhlnpgocaa
open Go Go.Sy Go.ChaM
set_option maxRecDepth 100000 in
set_option maxHeartbeats 8000000 in
theorem p22 (c : ChD) (sa : Option Addr) (cp : Nat) (u : World) (hA : ChAt u c sa) : Calls Try.prog 22 #[.agg (chC c sa cp)] u (Ret fun v w' => v = .tuple #[.int .i64 (idlV c : Nat), .int .i64 (idlE c)] ∧ Ext [] u w') := by
  refine calls_of Try.func22 rfl rfl (fun a hf => ?_)
  have hh := Hp.init u []
  have hl9 := hA.len
  refine sy_sq ?_
  refine o_box hf hh ?_; clear hf hh a; intro B1 a w hf hh
  refine o_v hf hh (yv_assign rfl) ?_; clear hf a; intro a hf
  refine o_v hf hh (yv_assign rfl) ?_; clear hf a; intro a hf
  refine o_end ?_
  refine sy_seq ?_
  refine sy_sq ?_
  refine o_v hf hh (y_lds Try.ag_24 rfl) ?_; clear hf a; intro a hf
  refine o_call hf Try.en_31 rfl rfl rfl (p31 c sa cp _ (hA.ext hh.ext)) ?_; clear hf a; intro v a w hR hf
  obtain ⟨rfl, hx⟩ := hR; replace hh := hh.more hx; clear hx
  refine o_v hf hh (yv_not rfl) ?_; clear hf a; intro a hf
  refine o_end ?_
  refine sy_cond hf rfl (fun hg2 => ?_) (fun hg2 => ?_)
  ·have hG2 := hg2; try simp only [gS] at hG2
   refine sy_sq ?_
   refine o_v hf hh (yv_assign rfl) ?_; clear hf a; intro a hf
   refine o_v hf hh (yv_assign rfl) ?_; clear hf a; intro a hf
   refine o_end ?_
   refine sy_ret ?_
   refine then_r ?_
   refine ret_r hf rfl rfl ?_
   have ev := idlE1 (c := c) (by assumption)
   exact ⟨by rw [ev, idlV_no ev (by decide)]; rfl, hh.ext⟩
  ·have hG2 := hg2; try simp only [gS] at hG2
   refine sy_skip ?_
   refine then_n ?_
   refine sy_seq ?_
   refine sy_seq ?_
   replace hh : Hp u [] [(B1, .cells (chC c sa cp) 24)] w := hh
   have hcb : chB c = true := by assumption
   have hO := chB_iff.1 hcb
   have hl10 := hO.l; have hn1 := hO.n1; have hn2 := hO.n2
   have hp2 : 2 ^ c.si.length ≤ 2 ^ 10 := Nat.pow_le_pow_right (by omega) hl10
   have hp1 := Nat.one_le_two_pow (n := c.si.length)
   refine sy_treeC (.q 0 0 (.q 0 1 (.e1 2 (.e1 3 (.p 4 (.fin)))))) [[]] [(AtE u [] [(B1, .cells (chC c sa cp) 24)], [])] Try.follows (by kernel_rfl) rfl hh (fun w hh => ?_)
   refine mc_q rfl rfl (AtE.of hh (by intro p hp; rw [List.mem_singleton.1 hp]; simp)) hf (y_lds Try.ag_24 rfl) (.inl rfl) rfl rfl ?_; clear hf a; intro a hf
   refine mc_q rfl rfl (AtE.of hh (by intro p hp; rw [List.mem_singleton.1 hp]; simp)) hf (y_lds Try.ag_24 rfl) (.inl rfl) rfl rfl ?_; clear hf a; intro a hf
   refine mc_e rfl fun Q1 => ?_
   refine o_call hf Try.en_48 rfl rfl rfl (p48 c sa cp (by omega) _) ?_; clear hf a; intro v a w hR hf
   obtain ⟨rfl, hx⟩ := hR; replace hh := hh.more hx; clear hx
   refine ops_end ?_
   refine then_n ⟨⟨fun _ _ => (AtE.of hh (by intro p hp; rw [List.mem_singleton.1 hp]; simp)), trivial⟩, ?_⟩
   refine mc_e rfl fun Q1 => ?_
   refine o_call hf Try.en_47 rfl rfl rfl (p47 c sa cp (2 ^ c.si.length - 1 : Nat) _ (hA.ext hh.ext) hO (by omega)) ?_; clear hf a; intro v a w hR hf
   obtain ⟨rfl, hx⟩ := hR; replace hh := hh.more hx; clear hx
   refine ops_end ?_
   refine then_n ⟨⟨fun _ _ => (AtE.of hh (by intro p hp; rw [List.mem_singleton.1 hp]; simp)), trivial⟩, ?_⟩
   refine mc_p rfl   hf (yv_not rfl) (.inl rfl) rfl rfl ?_; clear hf a; intro a hf
   refine mc_end ?_
   refine then_n ?_
   refine sy_cond hf rfl (fun hg5 => ?_) (fun hg5 => ?_)
   ·have hG5 := hg5; try simp only [gS] at hG5
    refine sy_sq ?_
    refine o_v hf hh (yv_assign rfl) ?_; clear hf a; intro a hf
    refine o_v hf hh (yv_assign rfl) ?_; clear hf a; intro a hf
    refine o_end ?_
    refine sy_ret ?_
    refine then_r ?_
    refine ret_r hf rfl rfl ?_
    have ev := idlE4 hcb ((canE hO).1 (by assumption))
    exact ⟨by rw [ev, idlV_no ev (by decide)]; rfl, hh.ext⟩
   ·have hG5 := hg5; try simp only [gS] at hG5
    refine sy_skip ?_
    refine then_n ?_
    refine sy_cut (σ := Nat) [4, 5, 22, 23, 24, 25, 26, 27, 28] (fun q => [(4, ptr q 0)]) (fun q => fun w' => Hp u [] ((q, .cells (bC (tig c false (2 ^ c.si.length - 1 : Nat).testBit)) 81) :: [(B1, .cells (chC c sa cp) 24)]) w') hf ?_ ?_
    ·have hwr : wrL c = [] := Decidable.of_not_not fun h => by
       have h1 := (canE hO).2 h
       have h2 : canT c (2 ^ c.si.length - 1 : Nat).testBit = true := by assumption
       rw [h1] at h2; cases h2
     refine sy_treeC (.q 0 0 (.q 0 1 (.e2 2 (.e2 3 (.p 4 (.p 5 (.p 6 (.e1 7 (.e1 8 (.p 9 (.fin))))))) 7 (.e1 3 (.p 4 (.p 5 (.p 6 (.e1 8 (.p 9 (.fin)))))))) 7 (.e1 2 (.e1 3 (.p 4 (.p 5 (.p 6 (.e1 8 (.p 9 (.fin))))))))))) [[]] [(AtE u [] [(B1, .cells (chC c sa cp) 24)], [])] Try.follows (by kernel_rfl) rfl hh (fun w hh => ?_)
     refine mc_q rfl rfl (AtE.of hh (by intro p hp; rw [List.mem_singleton.1 hp]; simp)) hf (y_lds Try.ag_24 rfl) (.inl rfl) rfl rfl ?_; clear hf a; intro a hf
     refine mc_q rfl rfl (AtE.of hh (by intro p hp; rw [List.mem_singleton.1 hp]; simp)) hf (y_lds Try.ag_24 rfl) (.inl rfl) rfl rfl ?_; clear hf a; intro a hf
     refine ⟨?_, ?_⟩
     ·refine mc_e rfl fun Q1 => ?_
      refine o_call hf Try.en_48 rfl rfl rfl (p48 c sa cp (by omega) _) ?_; clear hf a; intro v a w hR hf
      obtain ⟨rfl, hx⟩ := hR; replace hh := hh.more hx; clear hx
      refine ops_end ?_
      refine then_n ⟨⟨fun _ _ => (AtE.of hh (by intro p hp; rw [List.mem_singleton.1 hp]; simp)), trivial⟩, ?_⟩
      refine ⟨?_, ?_⟩
      ·refine mc_e rfl fun Q1 => ?_
       refine o_call hf Try.en_49 rfl rfl rfl (p49 c sa cp (2 ^ c.si.length - 1 : Nat) false _ (hA.ext hh.ext) hO (by omega)) ?_; clear hf a; intro v a w hR hf
       obtain ⟨b1, rfl, hb1, hx⟩ := hR; replace hh := hh.more hx; clear hx
       obtain rfl := hb1 (tigB_every hO hwr false); clear hb1
       refine ops_end ?_
       refine then_n ⟨⟨fun _ _ => (AtE.of hh (by intro p hp; rw [List.mem_singleton.1 hp]; simp)), trivial⟩, ?_⟩
       refine mc_p rfl   hf (yv_move rfl) (.inl rfl) rfl rfl ?_; clear hf a; intro a hf
       refine mc_p rfl   hf (yv_extract rfl rfl) (.inl rfl) rfl rfl ?_; clear hf a; intro a hf
       refine mc_p rfl   hf (yv_extract rfl rfl) (.inl rfl) rfl rfl ?_; clear hf a; intro a hf
       refine mc_e rfl fun Q1 => ?_
       refine o_alloc hf hh Try.ze_81 ?_; clear hf hh a; intro B4 a w hf hh
       refine ops_end ?_
       refine then_n ⟨⟨fun _ _ => (AtE.of hh (by intro p hp; rw [List.mem_singleton.1 hp]; simp)), trivial⟩, ?_⟩
       refine mc_e rfl fun Q1 => ?_
       refine o_store hf hh Try.sz_81 fun w hh => ?_
       refine ops_end ?_
       refine then_n ⟨⟨fun _ _ => (AtE.of hh (by intro p hp; rw [List.mem_singleton.1 hp]; simp)), trivial⟩, ?_⟩
       refine mc_p rfl   hf (yv_assign rfl) (.inl rfl) rfl rfl ?_; clear hf a; intro a hf
       refine mc_end ?_
       refine then_n ?_
       rw [z81] at hh
       replace hh : Hp u [] ((B4, .cells (spl (bC fun _ _ => none) 0 (bC (tig c false (2 ^ c.si.length - 1 : Nat).testBit)).toList) 81) :: [(B1, .cells (chC c sa cp) 24)]) w := hh
       rw [show spl (bC fun _ _ => none) 0 (bC (tig c false (2 ^ c.si.length - 1 : Nat).testBit)).toList = bC (tig c false (2 ^ c.si.length - 1 : Nat).testBit) from spl_all (by simp only [bC_size])] at hh
       exact ⟨B4, hh, hf.head ⟨rfl, True.intro⟩ (Keep.cons rfl (Keep.cons rfl (Keep.cons rfl (Keep.cons rfl (Keep.cons rfl (Keep.cons rfl (Keep.cons rfl (Keep.cons rfl (Keep.cons rfl (Keep.base))))))))))⟩
      ·refine mc_e rfl fun Q1 => ?_
       refine o_alloc hf hh Try.ze_81 ?_; clear hf hh a; intro B4 a w hf hh
       refine ops_end ?_
       refine then_n ⟨⟨fun _ _ => (AtE.of hh (by intro p hp; rw [List.mem_singleton.1 hp]; simp)), trivial⟩, ?_⟩
       refine mc_e rfl fun Q1 => ?_
       refine o_call hf Try.en_49 rfl rfl rfl (p49 c sa cp (2 ^ c.si.length - 1 : Nat) false _ (hA.ext hh.ext) hO (by omega)) ?_; clear hf a; intro v a w hR hf
       obtain ⟨b1, rfl, hb1, hx⟩ := hR; replace hh := hh.more hx; clear hx
       obtain rfl := hb1 (tigB_every hO hwr false); clear hb1
       refine ops_end ?_
       refine then_n ⟨⟨fun _ _ => (AtE.of hh (by intro p hp; rw [List.mem_singleton.1 hp]; simp)), trivial⟩, ?_⟩
       refine mc_p rfl   hf (yv_move rfl) (.inl rfl) rfl rfl ?_; clear hf a; intro a hf
       refine mc_p rfl   hf (yv_extract rfl rfl) (.inl rfl) rfl rfl ?_; clear hf a; intro a hf
       refine mc_p rfl   hf (yv_extract rfl rfl) (.inl rfl) rfl rfl ?_; clear hf a; intro a hf
       refine mc_e rfl fun Q1 => ?_
       refine o_store hf hh Try.sz_81 fun w hh => ?_
       refine ops_end ?_
       refine then_n ⟨⟨fun _ _ => (AtE.of hh (by intro p hp; rw [List.mem_singleton.1 hp]; simp)), trivial⟩, ?_⟩
       refine mc_p rfl   hf (yv_assign rfl) (.inl rfl) rfl rfl ?_; clear hf a; intro a hf
       refine mc_end ?_
       refine then_n ?_
       rw [z81] at hh
       replace hh : Hp u [] ((B4, .cells (spl (bC fun _ _ => none) 0 (bC (tig c false (2 ^ c.si.length - 1 : Nat).testBit)).toList) 81) :: [(B1, .cells (chC c sa cp) 24)]) w := hh
       rw [show spl (bC fun _ _ => none) 0 (bC (tig c false (2 ^ c.si.length - 1 : Nat).testBit)).toList = bC (tig c false (2 ^ c.si.length - 1 : Nat).testBit) from spl_all (by simp only [bC_size])] at hh
       exact ⟨B4, hh, hf.head ⟨rfl, True.intro⟩ (Keep.cons rfl (Keep.cons rfl (Keep.cons rfl (Keep.cons rfl (Keep.cons rfl (Keep.cons rfl (Keep.cons rfl (Keep.cons rfl (Keep.cons rfl (Keep.base))))))))))⟩
     ·refine mc_e rfl fun Q1 => ?_
      refine o_alloc hf hh Try.ze_81 ?_; clear hf hh a; intro B4 a w hf hh
      refine ops_end ?_
      refine then_n ⟨⟨fun _ _ => (AtE.of hh (by intro p hp; rw [List.mem_singleton.1 hp]; simp)), trivial⟩, ?_⟩
      refine mc_e rfl fun Q1 => ?_
      refine o_call hf Try.en_48 rfl rfl rfl (p48 c sa cp (by omega) _) ?_; clear hf a; intro v a w hR hf
      obtain ⟨rfl, hx⟩ := hR; replace hh := hh.more hx; clear hx
      refine ops_end ?_
      refine then_n ⟨⟨fun _ _ => (AtE.of hh (by intro p hp; rw [List.mem_singleton.1 hp]; simp)), trivial⟩, ?_⟩
      refine mc_e rfl fun Q1 => ?_
      refine o_call hf Try.en_49 rfl rfl rfl (p49 c sa cp (2 ^ c.si.length - 1 : Nat) false _ (hA.ext hh.ext) hO (by omega)) ?_; clear hf a; intro v a w hR hf
      obtain ⟨b1, rfl, hb1, hx⟩ := hR; replace hh := hh.more hx; clear hx
      obtain rfl := hb1 (tigB_every hO hwr false); clear hb1
      refine ops_end ?_
      refine then_n ⟨⟨fun _ _ => (AtE.of hh (by intro p hp; rw [List.mem_singleton.1 hp]; simp)), trivial⟩, ?_⟩
      refine mc_p rfl   hf (yv_move rfl) (.inl rfl) rfl rfl ?_; clear hf a; intro a hf
      refine mc_p rfl   hf (yv_extract rfl rfl) (.inl rfl) rfl rfl ?_; clear hf a; intro a hf
      refine mc_p rfl   hf (yv_extract rfl rfl) (.inl rfl) rfl rfl ?_; clear hf a; intro a hf
      refine mc_e rfl fun Q1 => ?_
      refine o_store hf hh Try.sz_81 fun w hh => ?_
      refine ops_end ?_
      refine then_n ⟨⟨fun _ _ => (AtE.of hh (by intro p hp; rw [List.mem_singleton.1 hp]; simp)), trivial⟩, ?_⟩
      refine mc_p rfl   hf (yv_assign rfl) (.inl rfl) rfl rfl ?_; clear hf a; intro a hf
      refine mc_end ?_
      refine then_n ?_
      rw [z81] at hh
      replace hh : Hp u [] ((B4, .cells (spl (bC fun _ _ => none) 0 (bC (tig c false (2 ^ c.si.length - 1 : Nat).testBit)).toList) 81) :: [(B1, .cells (chC c sa cp) 24)]) w := hh
      rw [show spl (bC fun _ _ => none) 0 (bC (tig c false (2 ^ c.si.length - 1 : Nat).testBit)).toList = bC (tig c false (2 ^ c.si.length - 1 : Nat).testBit) from spl_all (by simp only [bC_size])] at hh
      exact ⟨B4, hh, hf.head ⟨rfl, True.intro⟩ (Keep.cons rfl (Keep.cons rfl (Keep.cons rfl (Keep.cons rfl (Keep.cons rfl (Keep.cons rfl (Keep.cons rfl (Keep.cons rfl (Keep.cons rfl (Keep.base))))))))))⟩
    ·rintro q a w hh hf
     obtain ⟨B4, e9⟩ : ∃ z, z = q := ⟨_, rfl⟩
     rw [← e9] at hh hf; clear e9 q
     refine sy_cut (σ := Nat) [6, 7, 29, 30, 31, 32, 33, 34, 35] (fun q => [(6, ptr q 0)]) (fun q => fun w' => Hp u [] ((q, .cells (bC (tig c true (2 ^ c.si.length - 1 : Nat).testBit)) 81) :: ((B4, .cells (bC (tig c false (2 ^ c.si.length - 1 : Nat).testBit)) 81) :: [(B1, .cells (chC c sa cp) 24)])) w') hf ?_ ?_
     ·have hwr : wrL c = [] := Decidable.of_not_not fun h => by
        have h1 := (canE hO).2 h
        have h2 : canT c (2 ^ c.si.length - 1 : Nat).testBit = true := by assumption
        rw [h1] at h2; cases h2
      refine sy_treeC (.q 0 0 (.q 0 1 (.e2 2 (.e2 3 (.p 4 (.p 5 (.p 6 (.e1 7 (.e1 8 (.p 9 (.fin))))))) 7 (.e1 3 (.p 4 (.p 5 (.p 6 (.e1 8 (.p 9 (.fin)))))))) 7 (.e1 2 (.e1 3 (.p 4 (.p 5 (.p 6 (.e1 8 (.p 9 (.fin))))))))))) [[]] [(AtE u [] [(B1, .cells (chC c sa cp) 24)], [])] Try.follows (by kernel_rfl) rfl hh (fun w hh => ?_)
      refine mc_q rfl rfl (AtE.of hh (by intro p hp; rw [List.mem_singleton.1 hp]; simp)) hf (y_lds Try.ag_24 rfl) (.inl rfl) rfl rfl ?_; clear hf a; intro a hf
      refine mc_q rfl rfl (AtE.of hh (by intro p hp; rw [List.mem_singleton.1 hp]; simp)) hf (y_lds Try.ag_24 rfl) (.inl rfl) rfl rfl ?_; clear hf a; intro a hf
      refine ⟨?_, ?_⟩
      ·refine mc_e rfl fun Q1 => ?_
       refine o_call hf Try.en_48 rfl rfl rfl (p48 c sa cp (by omega) _) ?_; clear hf a; intro v a w hR hf
       obtain ⟨rfl, hx⟩ := hR; replace hh := hh.more hx; clear hx
       refine ops_end ?_
       refine then_n ⟨⟨fun _ _ => (AtE.of hh (by intro p hp; rw [List.mem_singleton.1 hp]; simp)), trivial⟩, ?_⟩
       refine ⟨?_, ?_⟩
       ·refine mc_e rfl fun Q1 => ?_
        refine o_call hf Try.en_49 rfl rfl rfl (p49 c sa cp (2 ^ c.si.length - 1 : Nat) true _ (hA.ext hh.ext) hO (by omega)) ?_; clear hf a; intro v a w hR hf
        obtain ⟨b1, rfl, hb1, hx⟩ := hR; replace hh := hh.more hx; clear hx
        obtain rfl := hb1 (tigB_every hO hwr true); clear hb1
        refine ops_end ?_
        refine then_n ⟨⟨fun _ _ => (AtE.of hh (by intro p hp; rw [List.mem_singleton.1 hp]; simp)), trivial⟩, ?_⟩
        refine mc_p rfl   hf (yv_move rfl) (.inl rfl) rfl rfl ?_; clear hf a; intro a hf
        refine mc_p rfl   hf (yv_extract rfl rfl) (.inl rfl) rfl rfl ?_; clear hf a; intro a hf
        refine mc_p rfl   hf (yv_extract rfl rfl) (.inl rfl) rfl rfl ?_; clear hf a; intro a hf
        refine mc_e rfl fun Q1 => ?_
        refine o_alloc hf hh Try.ze_81 ?_; clear hf hh a; intro B6 a w hf hh
        refine ops_end ?_
        refine then_n ⟨⟨fun _ _ => (AtE.of hh (by intro p hp; rw [List.mem_singleton.1 hp]; simp)), trivial⟩, ?_⟩
        refine mc_e rfl fun Q1 => ?_
        refine o_store hf hh Try.sz_81 fun w hh => ?_
        refine ops_end ?_
        refine then_n ⟨⟨fun _ _ => (AtE.of hh (by intro p hp; rw [List.mem_singleton.1 hp]; simp)), trivial⟩, ?_⟩
        refine mc_p rfl   hf (yv_assign rfl) (.inl rfl) rfl rfl ?_; clear hf a; intro a hf
        refine mc_end ?_
        refine then_n ?_
        rw [z81] at hh
        replace hh : Hp u [] ((B6, .cells (spl (bC fun _ _ => none) 0 (bC (tig c true (2 ^ c.si.length - 1 : Nat).testBit)).toList) 81) :: ((B4, .cells (bC (tig c false (2 ^ c.si.length - 1 : Nat).testBit)) 81) :: [(B1, .cells (chC c sa cp) 24)])) w := hh
        rw [show spl (bC fun _ _ => none) 0 (bC (tig c true (2 ^ c.si.length - 1 : Nat).testBit)).toList = bC (tig c true (2 ^ c.si.length - 1 : Nat).testBit) from spl_all (by simp only [bC_size])] at hh
        exact ⟨B6, hh, hf.head ⟨rfl, True.intro⟩ (Keep.cons rfl (Keep.cons rfl (Keep.cons rfl (Keep.cons rfl (Keep.cons rfl (Keep.cons rfl (Keep.cons rfl (Keep.cons rfl (Keep.cons rfl (Keep.base))))))))))⟩
       ·refine mc_e rfl fun Q1 => ?_
        refine o_alloc hf hh Try.ze_81 ?_; clear hf hh a; intro B6 a w hf hh
        refine ops_end ?_
        refine then_n ⟨⟨fun _ _ => (AtE.of hh (by intro p hp; rw [List.mem_singleton.1 hp]; simp)), trivial⟩, ?_⟩
        refine mc_e rfl fun Q1 => ?_
        refine o_call hf Try.en_49 rfl rfl rfl (p49 c sa cp (2 ^ c.si.length - 1 : Nat) true _ (hA.ext hh.ext) hO (by omega)) ?_; clear hf a; intro v a w hR hf
        obtain ⟨b1, rfl, hb1, hx⟩ := hR; replace hh := hh.more hx; clear hx
        obtain rfl := hb1 (tigB_every hO hwr true); clear hb1
        refine ops_end ?_
        refine then_n ⟨⟨fun _ _ => (AtE.of hh (by intro p hp; rw [List.mem_singleton.1 hp]; simp)), trivial⟩, ?_⟩
        refine mc_p rfl   hf (yv_move rfl) (.inl rfl) rfl rfl ?_; clear hf a; intro a hf
        refine mc_p rfl   hf (yv_extract rfl rfl) (.inl rfl) rfl rfl ?_; clear hf a; intro a hf
        refine mc_p rfl   hf (yv_extract rfl rfl) (.inl rfl) rfl rfl ?_; clear hf a; intro a hf
        refine mc_e rfl fun Q1 => ?_
        refine o_store hf hh Try.sz_81 fun w hh => ?_
        refine ops_end ?_
        refine then_n ⟨⟨fun _ _ => (AtE.of hh (by intro p hp; rw [List.mem_singleton.1 hp]; simp)), trivial⟩, ?_⟩
        refine mc_p rfl   hf (yv_assign rfl) (.inl rfl) rfl rfl ?_; clear hf a; intro a hf
        refine mc_end ?_
        refine then_n ?_
        rw [z81] at hh
        replace hh : Hp u [] ((B6, .cells (spl (bC fun _ _ => none) 0 (bC (tig c true (2 ^ c.si.length - 1 : Nat).testBit)).toList) 81) :: ((B4, .cells (bC (tig c false (2 ^ c.si.length - 1 : Nat).testBit)) 81) :: [(B1, .cells (chC c sa cp) 24)])) w := hh
        rw [show spl (bC fun _ _ => none) 0 (bC (tig c true (2 ^ c.si.length - 1 : Nat).testBit)).toList = bC (tig c true (2 ^ c.si.length - 1 : Nat).testBit) from spl_all (by simp only [bC_size])] at hh
        exact ⟨B6, hh, hf.head ⟨rfl, True.intro⟩ (Keep.cons rfl (Keep.cons rfl (Keep.cons rfl (Keep.cons rfl (Keep.cons rfl (Keep.cons rfl (Keep.cons rfl (Keep.cons rfl (Keep.cons rfl (Keep.base))))))))))⟩
      ·refine mc_e rfl fun Q1 => ?_
       refine o_alloc hf hh Try.ze_81 ?_; clear hf hh a; intro B6 a w hf hh
       refine ops_end ?_
       refine then_n ⟨⟨fun _ _ => (AtE.of hh (by intro p hp; rw [List.mem_singleton.1 hp]; simp)), trivial⟩, ?_⟩
       refine mc_e rfl fun Q1 => ?_
       refine o_call hf Try.en_48 rfl rfl rfl (p48 c sa cp (by omega) _) ?_; clear hf a; intro v a w hR hf
       obtain ⟨rfl, hx⟩ := hR; replace hh := hh.more hx; clear hx
       refine ops_end ?_
       refine then_n ⟨⟨fun _ _ => (AtE.of hh (by intro p hp; rw [List.mem_singleton.1 hp]; simp)), trivial⟩, ?_⟩
       refine mc_e rfl fun Q1 => ?_
       refine o_call hf Try.en_49 rfl rfl rfl (p49 c sa cp (2 ^ c.si.length - 1 : Nat) true _ (hA.ext hh.ext) hO (by omega)) ?_; clear hf a; intro v a w hR hf
       obtain ⟨b1, rfl, hb1, hx⟩ := hR; replace hh := hh.more hx; clear hx
       obtain rfl := hb1 (tigB_every hO hwr true); clear hb1
       refine ops_end ?_
       refine then_n ⟨⟨fun _ _ => (AtE.of hh (by intro p hp; rw [List.mem_singleton.1 hp]; simp)), trivial⟩, ?_⟩
       refine mc_p rfl   hf (yv_move rfl) (.inl rfl) rfl rfl ?_; clear hf a; intro a hf
       refine mc_p rfl   hf (yv_extract rfl rfl) (.inl rfl) rfl rfl ?_; clear hf a; intro a hf
       refine mc_p rfl   hf (yv_extract rfl rfl) (.inl rfl) rfl rfl ?_; clear hf a; intro a hf
       refine mc_e rfl fun Q1 => ?_
       refine o_store hf hh Try.sz_81 fun w hh => ?_
       refine ops_end ?_
       refine then_n ⟨⟨fun _ _ => (AtE.of hh (by intro p hp; rw [List.mem_singleton.1 hp]; simp)), trivial⟩, ?_⟩
       refine mc_p rfl   hf (yv_assign rfl) (.inl rfl) rfl rfl ?_; clear hf a; intro a hf
       refine mc_end ?_
       refine then_n ?_
       rw [z81] at hh
       replace hh : Hp u [] ((B6, .cells (spl (bC fun _ _ => none) 0 (bC (tig c true (2 ^ c.si.length - 1 : Nat).testBit)).toList) 81) :: ((B4, .cells (bC (tig c false (2 ^ c.si.length - 1 : Nat).testBit)) 81) :: [(B1, .cells (chC c sa cp) 24)])) w := hh
       rw [show spl (bC fun _ _ => none) 0 (bC (tig c true (2 ^ c.si.length - 1 : Nat).testBit)).toList = bC (tig c true (2 ^ c.si.length - 1 : Nat).testBit) from spl_all (by simp only [bC_size])] at hh
       exact ⟨B6, hh, hf.head ⟨rfl, True.intro⟩ (Keep.cons rfl (Keep.cons rfl (Keep.cons rfl (Keep.cons rfl (Keep.cons rfl (Keep.cons rfl (Keep.cons rfl (Keep.cons rfl (Keep.cons rfl (Keep.base))))))))))⟩
     ·rintro q a w hh hf
      obtain ⟨B6, e9⟩ : ∃ z, z = q := ⟨_, rfl⟩
      rw [← e9] at hh hf; clear e9 q
      refine sy_seq ?_
      have hwr : wrL c = [] := Decidable.of_not_not fun h => by
        have h1 := (canE hO).2 h
        have h2 : canT c (2 ^ c.si.length - 1 : Nat).testBit = true := by assumption
        rw [h1] at h2; cases h2
      refine sy_ops ?_
      refine o_v hf hh (yv_assign rfl) ?_; clear hf a; intro a hf
      refine o_end ?_
      refine sy_seq ?_
      refine sy_sq ?_
      refine o_v hf hh (yv_assign rfl) ?_; clear hf a; intro a hf
      refine o_end ?_
      refine sy_block ?_
      refine sy_loopH (σ := Nat) [8, 9, 10, 11, 12, 13, 36, 37, 38, 39, 40, 41, 42, 43, 44, 45, 46, 47, 48, 49, 50, 51, 52, 53, 54, 55, 56, 57, 58, 59, 60, 61, 62, 63, 64, 65, 66, 67, 68, 69, 70, 71, 72, 73, 74, 75, 76] (fun i => [(9, .int .i64 (i : Nat)), (8, .int .i64 (bitN (idlB c) i : Nat))]) (fun i => fun w' => i ≤ c.si.length ∧ Hp u [] ((B6, .cells (bC (tig c true (2 ^ c.si.length - 1 : Nat).testBit)) 81) :: ((B4, .cells (bC (tig c false (2 ^ c.si.length - 1 : Nat).testBit)) 81) :: [(B1, .cells (chC c sa cp) 24)])) w') (fun i => c.si.length - i) (0) hf ?_ ?_ ?_
      · repeat' (first | exact True.intro | refine And.intro rfl ?_)
      · exact ⟨Nat.zero_le _, hh⟩
      ·rintro i a w ⟨hi, hh⟩ hf
       refine sy_seq ?_
       refine sy_sq ?_
       refine o_v hf hh (yv_move rfl) ?_; clear hf a; intro a hf
       refine o_v hf hh (yv_fieldAddr Try.fo_24_1 rfl) ?_; clear hf a; intro a hf
       refine o_v hf hh (y_ld Try.sc_22 rfl) ?_; clear hf a; intro a hf
       refine o_v hf hh (yv_len Try.se_22 rfl) ?_; clear hf a; intro a hf
       refine o_v hf hh (yv_bin rfl rfl rfl) ?_; clear hf a; intro a hf
       refine o_end ?_
       refine sy_cond hf rfl (fun hg29 => ?_) (fun hg29 => ?_)
       ·have hG29 := hg29; try simp only [gS] at hG29
        refine sy_skip ?_
        refine then_n ?_
        refine sy_seq ?_
        refine sy_block ?_
        refine sy_cut (σ := Nat) [10, 11, 43, 44, 45, 46, 47, 48, 49, 50, 51, 52] (fun q => [(10, ptr q 0)]) (fun q => fun w' => Hp u [] ((q, .cells (bC (tig c false (2 ^ c.si.length - 1 - 2 ^ i : Nat).testBit)) 81) :: ((B6, .cells (bC (tig c true (2 ^ c.si.length - 1 : Nat).testBit)) 81) :: ((B4, .cells (bC (tig c false (2 ^ c.si.length - 1 : Nat).testBit)) 81) :: [(B1, .cells (chC c sa cp) 24)]))) w') hf ?_ ?_
        ·obtain ⟨s, hs⟩ := ex_of (l := c.si) (i := i) (by omega)
         have hil := len_of hs
         have hp0 := Nat.one_le_two_pow (n := i)
         have hpi : 2 ^ i ≤ 2 ^ c.si.length - 1 := by have := Nat.pow_lt_pow_right (a := 2) (by omega) hil; omega
         have hbl := bitN_lt (idlB c) i
         have hnx : bitN (idlB c) (i + 1) = bitN (idlB c) i ||| if idlB c i then 2 ^ i else 0 := rfl
         have hsam := idl_sam hO hwr hs hil
         refine sy_treeC (.q 0 0 (.q 0 1 (.p 3 (.e2 2 (.e2 4 (.p 5 (.e2 6 (.p 7 (.p 8 (.p 9 (.e1 10 (.e1 11 (.p 12 (.fin))))))) 10 (.e1 6 (.p 7 (.p 8 (.p 9 (.e1 11 (.p 12 (.fin))))))))) 10 (.e1 4 (.p 5 (.e1 6 (.p 7 (.p 8 (.p 9 (.e1 11 (.p 12 (.fin)))))))))) 10 (.e1 2 (.e1 4 (.p 5 (.e1 6 (.p 7 (.p 8 (.p 9 (.e1 11 (.p 12 (.fin)))))))))))))) [[]] [(AtE u [] [(B1, .cells (chC c sa cp) 24)], [])] Try.follows (by kernel_rfl) rfl hh (fun w hh => ?_)
         refine mc_q rfl rfl (AtE.of hh (by intro p hp; rw [List.mem_singleton.1 hp]; simp)) hf (y_lds Try.ag_24 rfl) (.inl rfl) rfl rfl ?_; clear hf a; intro a hf
         refine mc_q rfl rfl (AtE.of hh (by intro p hp; rw [List.mem_singleton.1 hp]; simp)) hf (y_lds Try.ag_24 rfl) (.inl rfl) rfl rfl ?_; clear hf a; intro a hf
         refine mc_p rfl   hf (yv_move rfl) (.inl rfl) rfl rfl ?_; clear hf a; intro a hf
         refine ⟨?_, ?_⟩
         ·refine mc_e rfl fun Q1 => ?_
          refine o_call hf Try.en_48 rfl rfl rfl (p48 c sa cp (by omega) _) ?_; clear hf a; intro v a w hR hf
          obtain ⟨rfl, hx⟩ := hR; replace hh := hh.more hx; clear hx
          refine ops_end ?_
          refine then_n ⟨⟨fun _ _ => (AtE.of hh (by intro p hp; rw [List.mem_singleton.1 hp]; simp)), trivial⟩, ?_⟩
          refine ⟨?_, ?_⟩
          ·refine mc_e rfl fun Q1 => ?_
           refine o_call hf Try.en_51 rfl rfl rfl (p51 i (by omega) _) ?_; clear hf a; intro v a w hR hf
           obtain ⟨rfl, hx⟩ := hR; replace hh := hh.more hx; clear hx
           refine ops_end ?_
           refine then_n ⟨⟨fun _ _ => (AtE.of hh (by intro p hp; rw [List.mem_singleton.1 hp]; simp)), trivial⟩, ?_⟩
           refine mc_p rfl   hf (yv_cast (yv_sub rfl rfl (by omega) (by omega)) (intv (b := (((2 ^ c.si.length - 1 - 2 ^ i : Nat) : Nat) : Int)) (by omega))) (.inl rfl) rfl rfl ?_; clear hf a; intro a hf
           refine ⟨?_, ?_⟩
           ·refine mc_e rfl fun Q1 => ?_
            refine o_call hf Try.en_49 rfl rfl rfl (p49 c sa cp (2 ^ c.si.length - 1 - 2 ^ i : Nat) false _ (hA.ext hh.ext) hO (by omega)) ?_; clear hf a; intro v a w hR hf
            obtain ⟨b1, rfl, hb1, hx⟩ := hR; replace hh := hh.more hx; clear hx
            obtain rfl := hb1 (tigB_less hO hwr false _); clear hb1
            refine ops_end ?_
            refine then_n ⟨⟨fun _ _ => (AtE.of hh (by intro p hp; rw [List.mem_singleton.1 hp]; simp)), trivial⟩, ?_⟩
            refine mc_p rfl   hf (yv_move rfl) (.inl rfl) rfl rfl ?_; clear hf a; intro a hf
            refine mc_p rfl   hf (yv_extract rfl rfl) (.inl rfl) rfl rfl ?_; clear hf a; intro a hf
            refine mc_p rfl   hf (yv_extract rfl rfl) (.inl rfl) rfl rfl ?_; clear hf a; intro a hf
            refine mc_e rfl fun Q1 => ?_
            refine o_alloc hf hh Try.ze_81 ?_; clear hf hh a; intro B10 a w hf hh
            refine ops_end ?_
            refine then_n ⟨⟨fun _ _ => (AtE.of hh (by intro p hp; rw [List.mem_singleton.1 hp]; simp)), trivial⟩, ?_⟩
            refine mc_e rfl fun Q1 => ?_
            refine o_store hf hh Try.sz_81 fun w hh => ?_
            refine ops_end ?_
            refine then_n ⟨⟨fun _ _ => (AtE.of hh (by intro p hp; rw [List.mem_singleton.1 hp]; simp)), trivial⟩, ?_⟩
            refine mc_p rfl   hf (yv_assign rfl) (.inl rfl) rfl rfl ?_; clear hf a; intro a hf
            refine mc_end ?_
            refine then_n ?_
            rw [z81] at hh
            replace hh : Hp u [] ((B10, .cells (spl (bC fun _ _ => none) 0 (bC (tig c false (2 ^ c.si.length - 1 - 2 ^ i : Nat).testBit)).toList) 81) :: ((B6, .cells (bC (tig c true (2 ^ c.si.length - 1 : Nat).testBit)) 81) :: ((B4, .cells (bC (tig c false (2 ^ c.si.length - 1 : Nat).testBit)) 81) :: [(B1, .cells (chC c sa cp) 24)]))) w := hh
            rw [show spl (bC fun _ _ => none) 0 (bC (tig c false (2 ^ c.si.length - 1 - 2 ^ i : Nat).testBit)).toList = bC (tig c false (2 ^ c.si.length - 1 - 2 ^ i : Nat).testBit) from spl_all (by simp only [bC_size])] at hh
            exact ⟨B10, hh, hf.head ⟨rfl, True.intro⟩ (Keep.cons rfl (Keep.cons rfl (Keep.cons rfl (Keep.cons rfl (Keep.cons rfl (Keep.cons rfl (Keep.cons rfl (Keep.cons rfl (Keep.cons rfl (Keep.cons rfl (Keep.cons rfl (Keep.cons rfl (Keep.base)))))))))))))⟩
           ·refine mc_e rfl fun Q1 => ?_
            refine o_alloc hf hh Try.ze_81 ?_; clear hf hh a; intro B10 a w hf hh
            refine ops_end ?_
            refine then_n ⟨⟨fun _ _ => (AtE.of hh (by intro p hp; rw [List.mem_singleton.1 hp]; simp)), trivial⟩, ?_⟩
            refine mc_e rfl fun Q1 => ?_
            refine o_call hf Try.en_49 rfl rfl rfl (p49 c sa cp (2 ^ c.si.length - 1 - 2 ^ i : Nat) false _ (hA.ext hh.ext) hO (by omega)) ?_; clear hf a; intro v a w hR hf
            obtain ⟨b1, rfl, hb1, hx⟩ := hR; replace hh := hh.more hx; clear hx
            obtain rfl := hb1 (tigB_less hO hwr false _); clear hb1
            refine ops_end ?_
            refine then_n ⟨⟨fun _ _ => (AtE.of hh (by intro p hp; rw [List.mem_singleton.1 hp]; simp)), trivial⟩, ?_⟩
            refine mc_p rfl   hf (yv_move rfl) (.inl rfl) rfl rfl ?_; clear hf a; intro a hf
            refine mc_p rfl   hf (yv_extract rfl rfl) (.inl rfl) rfl rfl ?_; clear hf a; intro a hf
            refine mc_p rfl   hf (yv_extract rfl rfl) (.inl rfl) rfl rfl ?_; clear hf a; intro a hf
            refine mc_e rfl fun Q1 => ?_
            refine o_store hf hh Try.sz_81 fun w hh => ?_
            refine ops_end ?_
            refine then_n ⟨⟨fun _ _ => (AtE.of hh (by intro p hp; rw [List.mem_singleton.1 hp]; simp)), trivial⟩, ?_⟩
            refine mc_p rfl   hf (yv_assign rfl) (.inl rfl) rfl rfl ?_; clear hf a; intro a hf
            refine mc_end ?_
            refine then_n ?_
            rw [z81] at hh
            replace hh : Hp u [] ((B10, .cells (spl (bC fun _ _ => none) 0 (bC (tig c false (2 ^ c.si.length - 1 - 2 ^ i : Nat).testBit)).toList) 81) :: ((B6, .cells (bC (tig c true (2 ^ c.si.length - 1 : Nat).testBit)) 81) :: ((B4, .cells (bC (tig c false (2 ^ c.si.length - 1 : Nat).testBit)) 81) :: [(B1, .cells (chC c sa cp) 24)]))) w := hh
            rw [show spl (bC fun _ _ => none) 0 (bC (tig c false (2 ^ c.si.length - 1 - 2 ^ i : Nat).testBit)).toList = bC (tig c false (2 ^ c.si.length - 1 - 2 ^ i : Nat).testBit) from spl_all (by simp only [bC_size])] at hh
            exact ⟨B10, hh, hf.head ⟨rfl, True.intro⟩ (Keep.cons rfl (Keep.cons rfl (Keep.cons rfl (Keep.cons rfl (Keep.cons rfl (Keep.cons rfl (Keep.cons rfl (Keep.cons rfl (Keep.cons rfl (Keep.cons rfl (Keep.cons rfl (Keep.cons rfl (Keep.base)))))))))))))⟩
          ·refine mc_e rfl fun Q1 => ?_
           refine o_alloc hf hh Try.ze_81 ?_; clear hf hh a; intro B10 a w hf hh
           refine ops_end ?_
           refine then_n ⟨⟨fun _ _ => (AtE.of hh (by intro p hp; rw [List.mem_singleton.1 hp]; simp)), trivial⟩, ?_⟩
           refine mc_e rfl fun Q1 => ?_
           refine o_call hf Try.en_51 rfl rfl rfl (p51 i (by omega) _) ?_; clear hf a; intro v a w hR hf
           obtain ⟨rfl, hx⟩ := hR; replace hh := hh.more hx; clear hx
           refine ops_end ?_
           refine then_n ⟨⟨fun _ _ => (AtE.of hh (by intro p hp; rw [List.mem_singleton.1 hp]; simp)), trivial⟩, ?_⟩
           refine mc_p rfl   hf (yv_cast (yv_sub rfl rfl (by omega) (by omega)) (intv (b := (((2 ^ c.si.length - 1 - 2 ^ i : Nat) : Nat) : Int)) (by omega))) (.inl rfl) rfl rfl ?_; clear hf a; intro a hf
           refine mc_e rfl fun Q1 => ?_
           refine o_call hf Try.en_49 rfl rfl rfl (p49 c sa cp (2 ^ c.si.length - 1 - 2 ^ i : Nat) false _ (hA.ext hh.ext) hO (by omega)) ?_; clear hf a; intro v a w hR hf
           obtain ⟨b1, rfl, hb1, hx⟩ := hR; replace hh := hh.more hx; clear hx
           obtain rfl := hb1 (tigB_less hO hwr false _); clear hb1
           refine ops_end ?_
           refine then_n ⟨⟨fun _ _ => (AtE.of hh (by intro p hp; rw [List.mem_singleton.1 hp]; simp)), trivial⟩, ?_⟩
           refine mc_p rfl   hf (yv_move rfl) (.inl rfl) rfl rfl ?_; clear hf a; intro a hf
           refine mc_p rfl   hf (yv_extract rfl rfl) (.inl rfl) rfl rfl ?_; clear hf a; intro a hf
           refine mc_p rfl   hf (yv_extract rfl rfl) (.inl rfl) rfl rfl ?_; clear hf a; intro a hf
           refine mc_e rfl fun Q1 => ?_
           refine o_store hf hh Try.sz_81 fun w hh => ?_
           refine ops_end ?_
           refine then_n ⟨⟨fun _ _ => (AtE.of hh (by intro p hp; rw [List.mem_singleton.1 hp]; simp)), trivial⟩, ?_⟩
           refine mc_p rfl   hf (yv_assign rfl) (.inl rfl) rfl rfl ?_; clear hf a; intro a hf
           refine mc_end ?_
           refine then_n ?_
           rw [z81] at hh
           replace hh : Hp u [] ((B10, .cells (spl (bC fun _ _ => none) 0 (bC (tig c false (2 ^ c.si.length - 1 - 2 ^ i : Nat).testBit)).toList) 81) :: ((B6, .cells (bC (tig c true (2 ^ c.si.length - 1 : Nat).testBit)) 81) :: ((B4, .cells (bC (tig c false (2 ^ c.si.length - 1 : Nat).testBit)) 81) :: [(B1, .cells (chC c sa cp) 24)]))) w := hh
           rw [show spl (bC fun _ _ => none) 0 (bC (tig c false (2 ^ c.si.length - 1 - 2 ^ i : Nat).testBit)).toList = bC (tig c false (2 ^ c.si.length - 1 - 2 ^ i : Nat).testBit) from spl_all (by simp only [bC_size])] at hh
           exact ⟨B10, hh, hf.head ⟨rfl, True.intro⟩ (Keep.cons rfl (Keep.cons rfl (Keep.cons rfl (Keep.cons rfl (Keep.cons rfl (Keep.cons rfl (Keep.cons rfl (Keep.cons rfl (Keep.cons rfl (Keep.cons rfl (Keep.cons rfl (Keep.cons rfl (Keep.base)))))))))))))⟩
         ·refine mc_e rfl fun Q1 => ?_
          refine o_alloc hf hh Try.ze_81 ?_; clear hf hh a; intro B10 a w hf hh
          refine ops_end ?_
          refine then_n ⟨⟨fun _ _ => (AtE.of hh (by intro p hp; rw [List.mem_singleton.1 hp]; simp)), trivial⟩, ?_⟩
          refine mc_e rfl fun Q1 => ?_
          refine o_call hf Try.en_48 rfl rfl rfl (p48 c sa cp (by omega) _) ?_; clear hf a; intro v a w hR hf
          obtain ⟨rfl, hx⟩ := hR; replace hh := hh.more hx; clear hx
          refine ops_end ?_
          refine then_n ⟨⟨fun _ _ => (AtE.of hh (by intro p hp; rw [List.mem_singleton.1 hp]; simp)), trivial⟩, ?_⟩
          refine mc_e rfl fun Q1 => ?_
          refine o_call hf Try.en_51 rfl rfl rfl (p51 i (by omega) _) ?_; clear hf a; intro v a w hR hf
          obtain ⟨rfl, hx⟩ := hR; replace hh := hh.more hx; clear hx
          refine ops_end ?_
          refine then_n ⟨⟨fun _ _ => (AtE.of hh (by intro p hp; rw [List.mem_singleton.1 hp]; simp)), trivial⟩, ?_⟩
          refine mc_p rfl   hf (yv_cast (yv_sub rfl rfl (by omega) (by omega)) (intv (b := (((2 ^ c.si.length - 1 - 2 ^ i : Nat) : Nat) : Int)) (by omega))) (.inl rfl) rfl rfl ?_; clear hf a; intro a hf
          refine mc_e rfl fun Q1 => ?_
          refine o_call hf Try.en_49 rfl rfl rfl (p49 c sa cp (2 ^ c.si.length - 1 - 2 ^ i : Nat) false _ (hA.ext hh.ext) hO (by omega)) ?_; clear hf a; intro v a w hR hf
          obtain ⟨b1, rfl, hb1, hx⟩ := hR; replace hh := hh.more hx; clear hx
          obtain rfl := hb1 (tigB_less hO hwr false _); clear hb1
          refine ops_end ?_
          refine then_n ⟨⟨fun _ _ => (AtE.of hh (by intro p hp; rw [List.mem_singleton.1 hp]; simp)), trivial⟩, ?_⟩
          refine mc_p rfl   hf (yv_move rfl) (.inl rfl) rfl rfl ?_; clear hf a; intro a hf
          refine mc_p rfl   hf (yv_extract rfl rfl) (.inl rfl) rfl rfl ?_; clear hf a; intro a hf
          refine mc_p rfl   hf (yv_extract rfl rfl) (.inl rfl) rfl rfl ?_; clear hf a; intro a hf
          refine mc_e rfl fun Q1 => ?_
          refine o_store hf hh Try.sz_81 fun w hh => ?_
          refine ops_end ?_
          refine then_n ⟨⟨fun _ _ => (AtE.of hh (by intro p hp; rw [List.mem_singleton.1 hp]; simp)), trivial⟩, ?_⟩
          refine mc_p rfl   hf (yv_assign rfl) (.inl rfl) rfl rfl ?_; clear hf a; intro a hf
          refine mc_end ?_
          refine then_n ?_
          rw [z81] at hh
          replace hh : Hp u [] ((B10, .cells (spl (bC fun _ _ => none) 0 (bC (tig c false (2 ^ c.si.length - 1 - 2 ^ i : Nat).testBit)).toList) 81) :: ((B6, .cells (bC (tig c true (2 ^ c.si.length - 1 : Nat).testBit)) 81) :: ((B4, .cells (bC (tig c false (2 ^ c.si.length - 1 : Nat).testBit)) 81) :: [(B1, .cells (chC c sa cp) 24)]))) w := hh
          rw [show spl (bC fun _ _ => none) 0 (bC (tig c false (2 ^ c.si.length - 1 - 2 ^ i : Nat).testBit)).toList = bC (tig c false (2 ^ c.si.length - 1 - 2 ^ i : Nat).testBit) from spl_all (by simp only [bC_size])] at hh
          exact ⟨B10, hh, hf.head ⟨rfl, True.intro⟩ (Keep.cons rfl (Keep.cons rfl (Keep.cons rfl (Keep.cons rfl (Keep.cons rfl (Keep.cons rfl (Keep.cons rfl (Keep.cons rfl (Keep.cons rfl (Keep.cons rfl (Keep.cons rfl (Keep.cons rfl (Keep.base)))))))))))))⟩
        ·rintro q a w hh hf
         obtain ⟨B10, e9⟩ : ∃ z, z = q := ⟨_, rfl⟩
         rw [← e9] at hh hf; clear e9 q
         refine sy_cut (σ := Nat) [12, 13, 53, 54, 55, 56, 57, 58, 59, 60, 61, 62] (fun q => [(12, ptr q 0)]) (fun q => fun w' => Hp u [] ((q, .cells (bC (tig c true (2 ^ c.si.length - 1 - 2 ^ i : Nat).testBit)) 81) :: ((B10, .cells (bC (tig c false (2 ^ c.si.length - 1 - 2 ^ i : Nat).testBit)) 81) :: ((B6, .cells (bC (tig c true (2 ^ c.si.length - 1 : Nat).testBit)) 81) :: ((B4, .cells (bC (tig c false (2 ^ c.si.length - 1 : Nat).testBit)) 81) :: [(B1, .cells (chC c sa cp) 24)])))) w') hf ?_ ?_
         ·have hp0 := Nat.one_le_two_pow (n := i)
          have hpi : 2 ^ i ≤ 2 ^ c.si.length - 1 := by have := Nat.pow_lt_pow_right (a := 2) (by omega) (show i < c.si.length by omega); omega
          refine sy_treeC (.q 0 0 (.q 0 1 (.p 3 (.e2 2 (.e2 4 (.p 5 (.e2 6 (.p 7 (.p 8 (.p 9 (.e1 10 (.e1 11 (.p 12 (.fin))))))) 10 (.e1 6 (.p 7 (.p 8 (.p 9 (.e1 11 (.p 12 (.fin))))))))) 10 (.e1 4 (.p 5 (.e1 6 (.p 7 (.p 8 (.p 9 (.e1 11 (.p 12 (.fin)))))))))) 10 (.e1 2 (.e1 4 (.p 5 (.e1 6 (.p 7 (.p 8 (.p 9 (.e1 11 (.p 12 (.fin)))))))))))))) [[]] [(AtE u [] [(B1, .cells (chC c sa cp) 24)], [])] Try.follows (by kernel_rfl) rfl hh (fun w hh => ?_)
          refine mc_q rfl rfl (AtE.of hh (by intro p hp; rw [List.mem_singleton.1 hp]; simp)) hf (y_lds Try.ag_24 rfl) (.inl rfl) rfl rfl ?_; clear hf a; intro a hf
          refine mc_q rfl rfl (AtE.of hh (by intro p hp; rw [List.mem_singleton.1 hp]; simp)) hf (y_lds Try.ag_24 rfl) (.inl rfl) rfl rfl ?_; clear hf a; intro a hf
          refine mc_p rfl   hf (yv_move rfl) (.inl rfl) rfl rfl ?_; clear hf a; intro a hf
          refine ⟨?_, ?_⟩
          ·refine mc_e rfl fun Q1 => ?_
           refine o_call hf Try.en_48 rfl rfl rfl (p48 c sa cp (by omega) _) ?_; clear hf a; intro v a w hR hf
           obtain ⟨rfl, hx⟩ := hR; replace hh := hh.more hx; clear hx
           refine ops_end ?_
           refine then_n ⟨⟨fun _ _ => (AtE.of hh (by intro p hp; rw [List.mem_singleton.1 hp]; simp)), trivial⟩, ?_⟩
           refine ⟨?_, ?_⟩
           ·refine mc_e rfl fun Q1 => ?_
            refine o_call hf Try.en_51 rfl rfl rfl (p51 i (by omega) _) ?_; clear hf a; intro v a w hR hf
            obtain ⟨rfl, hx⟩ := hR; replace hh := hh.more hx; clear hx
            refine ops_end ?_
            refine then_n ⟨⟨fun _ _ => (AtE.of hh (by intro p hp; rw [List.mem_singleton.1 hp]; simp)), trivial⟩, ?_⟩
            refine mc_p rfl   hf (yv_cast (yv_sub rfl rfl (by omega) (by omega)) (intv (b := (((2 ^ c.si.length - 1 - 2 ^ i : Nat) : Nat) : Int)) (by omega))) (.inl rfl) rfl rfl ?_; clear hf a; intro a hf
            refine ⟨?_, ?_⟩
            ·refine mc_e rfl fun Q1 => ?_
             refine o_call hf Try.en_49 rfl rfl rfl (p49 c sa cp (2 ^ c.si.length - 1 - 2 ^ i : Nat) true _ (hA.ext hh.ext) hO (by omega)) ?_; clear hf a; intro v a w hR hf
             obtain ⟨b1, rfl, hb1, hx⟩ := hR; replace hh := hh.more hx; clear hx
             obtain rfl := hb1 (tigB_less hO hwr true _); clear hb1
             refine ops_end ?_
             refine then_n ⟨⟨fun _ _ => (AtE.of hh (by intro p hp; rw [List.mem_singleton.1 hp]; simp)), trivial⟩, ?_⟩
             refine mc_p rfl   hf (yv_move rfl) (.inl rfl) rfl rfl ?_; clear hf a; intro a hf
             refine mc_p rfl   hf (yv_extract rfl rfl) (.inl rfl) rfl rfl ?_; clear hf a; intro a hf
             refine mc_p rfl   hf (yv_extract rfl rfl) (.inl rfl) rfl rfl ?_; clear hf a; intro a hf
             refine mc_e rfl fun Q1 => ?_
             refine o_alloc hf hh Try.ze_81 ?_; clear hf hh a; intro B12 a w hf hh
             refine ops_end ?_
             refine then_n ⟨⟨fun _ _ => (AtE.of hh (by intro p hp; rw [List.mem_singleton.1 hp]; simp)), trivial⟩, ?_⟩
             refine mc_e rfl fun Q1 => ?_
             refine o_store hf hh Try.sz_81 fun w hh => ?_
             refine ops_end ?_
             refine then_n ⟨⟨fun _ _ => (AtE.of hh (by intro p hp; rw [List.mem_singleton.1 hp]; simp)), trivial⟩, ?_⟩
             refine mc_p rfl   hf (yv_assign rfl) (.inl rfl) rfl rfl ?_; clear hf a; intro a hf
             refine mc_end ?_
             refine then_n ?_
             rw [z81] at hh
             replace hh : Hp u [] ((B12, .cells (spl (bC fun _ _ => none) 0 (bC (tig c true (2 ^ c.si.length - 1 - 2 ^ i : Nat).testBit)).toList) 81) :: ((B10, .cells (bC (tig c false (2 ^ c.si.length - 1 - 2 ^ i : Nat).testBit)) 81) :: ((B6, .cells (bC (tig c true (2 ^ c.si.length - 1 : Nat).testBit)) 81) :: ((B4, .cells (bC (tig c false (2 ^ c.si.length - 1 : Nat).testBit)) 81) :: [(B1, .cells (chC c sa cp) 24)])))) w := hh
             rw [show spl (bC fun _ _ => none) 0 (bC (tig c true (2 ^ c.si.length - 1 - 2 ^ i : Nat).testBit)).toList = bC (tig c true (2 ^ c.si.length - 1 - 2 ^ i : Nat).testBit) from spl_all (by simp only [bC_size])] at hh
             exact ⟨B12, hh, hf.head ⟨rfl, True.intro⟩ (Keep.cons rfl (Keep.cons rfl (Keep.cons rfl (Keep.cons rfl (Keep.cons rfl (Keep.cons rfl (Keep.cons rfl (Keep.cons rfl (Keep.cons rfl (Keep.cons rfl (Keep.cons rfl (Keep.cons rfl (Keep.base)))))))))))))⟩
            ·refine mc_e rfl fun Q1 => ?_
             refine o_alloc hf hh Try.ze_81 ?_; clear hf hh a; intro B12 a w hf hh
             refine ops_end ?_
             refine then_n ⟨⟨fun _ _ => (AtE.of hh (by intro p hp; rw [List.mem_singleton.1 hp]; simp)), trivial⟩, ?_⟩
             refine mc_e rfl fun Q1 => ?_
             refine o_call hf Try.en_49 rfl rfl rfl (p49 c sa cp (2 ^ c.si.length - 1 - 2 ^ i : Nat) true _ (hA.ext hh.ext) hO (by omega)) ?_; clear hf a; intro v a w hR hf
             obtain ⟨b1, rfl, hb1, hx⟩ := hR; replace hh := hh.more hx; clear hx
             obtain rfl := hb1 (tigB_less hO hwr true _); clear hb1
             refine ops_end ?_
             refine then_n ⟨⟨fun _ _ => (AtE.of hh (by intro p hp; rw [List.mem_singleton.1 hp]; simp)), trivial⟩, ?_⟩
             refine mc_p rfl   hf (yv_move rfl) (.inl rfl) rfl rfl ?_; clear hf a; intro a hf
             refine mc_p rfl   hf (yv_extract rfl rfl) (.inl rfl) rfl rfl ?_; clear hf a; intro a hf
             refine mc_p rfl   hf (yv_extract rfl rfl) (.inl rfl) rfl rfl ?_; clear hf a; intro a hf
             refine mc_e rfl fun Q1 => ?_
             refine o_store hf hh Try.sz_81 fun w hh => ?_
             refine ops_end ?_
             refine then_n ⟨⟨fun _ _ => (AtE.of hh (by intro p hp; rw [List.mem_singleton.1 hp]; simp)), trivial⟩, ?_⟩
             refine mc_p rfl   hf (yv_assign rfl) (.inl rfl) rfl rfl ?_; clear hf a; intro a hf
             refine mc_end ?_
             refine then_n ?_
             rw [z81] at hh
             replace hh : Hp u [] ((B12, .cells (spl (bC fun _ _ => none) 0 (bC (tig c true (2 ^ c.si.length - 1 - 2 ^ i : Nat).testBit)).toList) 81) :: ((B10, .cells (bC (tig c false (2 ^ c.si.length - 1 - 2 ^ i : Nat).testBit)) 81) :: ((B6, .cells (bC (tig c true (2 ^ c.si.length - 1 : Nat).testBit)) 81) :: ((B4, .cells (bC (tig c false (2 ^ c.si.length - 1 : Nat).testBit)) 81) :: [(B1, .cells (chC c sa cp) 24)])))) w := hh
             rw [show spl (bC fun _ _ => none) 0 (bC (tig c true (2 ^ c.si.length - 1 - 2 ^ i : Nat).testBit)).toList = bC (tig c true (2 ^ c.si.length - 1 - 2 ^ i : Nat).testBit) from spl_all (by simp only [bC_size])] at hh
             exact ⟨B12, hh, hf.head ⟨rfl, True.intro⟩ (Keep.cons rfl (Keep.cons rfl (Keep.cons rfl (Keep.cons rfl (Keep.cons rfl (Keep.cons rfl (Keep.cons rfl (Keep.cons rfl (Keep.cons rfl (Keep.cons rfl (Keep.cons rfl (Keep.cons rfl (Keep.base)))))))))))))⟩
           ·refine mc_e rfl fun Q1 => ?_
            refine o_alloc hf hh Try.ze_81 ?_; clear hf hh a; intro B12 a w hf hh
            refine ops_end ?_
            refine then_n ⟨⟨fun _ _ => (AtE.of hh (by intro p hp; rw [List.mem_singleton.1 hp]; simp)), trivial⟩, ?_⟩
            refine mc_e rfl fun Q1 => ?_
            refine o_call hf Try.en_51 rfl rfl rfl (p51 i (by omega) _) ?_; clear hf a; intro v a w hR hf
            obtain ⟨rfl, hx⟩ := hR; replace hh := hh.more hx; clear hx
            refine ops_end ?_
            refine then_n ⟨⟨fun _ _ => (AtE.of hh (by intro p hp; rw [List.mem_singleton.1 hp]; simp)), trivial⟩, ?_⟩
            refine mc_p rfl   hf (yv_cast (yv_sub rfl rfl (by omega) (by omega)) (intv (b := (((2 ^ c.si.length - 1 - 2 ^ i : Nat) : Nat) : Int)) (by omega))) (.inl rfl) rfl rfl ?_; clear hf a; intro a hf
            refine mc_e rfl fun Q1 => ?_
            refine o_call hf Try.en_49 rfl rfl rfl (p49 c sa cp (2 ^ c.si.length - 1 - 2 ^ i : Nat) true _ (hA.ext hh.ext) hO (by omega)) ?_; clear hf a; intro v a w hR hf
            obtain ⟨b1, rfl, hb1, hx⟩ := hR; replace hh := hh.more hx; clear hx
            obtain rfl := hb1 (tigB_less hO hwr true _); clear hb1
            refine ops_end ?_
            refine then_n ⟨⟨fun _ _ => (AtE.of hh (by intro p hp; rw [List.mem_singleton.1 hp]; simp)), trivial⟩, ?_⟩
            refine mc_p rfl   hf (yv_move rfl) (.inl rfl) rfl rfl ?_; clear hf a; intro a hf
            refine mc_p rfl   hf (yv_extract rfl rfl) (.inl rfl) rfl rfl ?_; clear hf a; intro a hf
            refine mc_p rfl   hf (yv_extract rfl rfl) (.inl rfl) rfl rfl ?_; clear hf a; intro a hf
            refine mc_e rfl fun Q1 => ?_
            refine o_store hf hh Try.sz_81 fun w hh => ?_
            refine ops_end ?_
            refine then_n ⟨⟨fun _ _ => (AtE.of hh (by intro p hp; rw [List.mem_singleton.1 hp]; simp)), trivial⟩, ?_⟩
            refine mc_p rfl   hf (yv_assign rfl) (.inl rfl) rfl rfl ?_; clear hf a; intro a hf
            refine mc_end ?_
            refine then_n ?_
            rw [z81] at hh
            replace hh : Hp u [] ((B12, .cells (spl (bC fun _ _ => none) 0 (bC (tig c true (2 ^ c.si.length - 1 - 2 ^ i : Nat).testBit)).toList) 81) :: ((B10, .cells (bC (tig c false (2 ^ c.si.length - 1 - 2 ^ i : Nat).testBit)) 81) :: ((B6, .cells (bC (tig c true (2 ^ c.si.length - 1 : Nat).testBit)) 81) :: ((B4, .cells (bC (tig c false (2 ^ c.si.length - 1 : Nat).testBit)) 81) :: [(B1, .cells (chC c sa cp) 24)])))) w := hh
            rw [show spl (bC fun _ _ => none) 0 (bC (tig c true (2 ^ c.si.length - 1 - 2 ^ i : Nat).testBit)).toList = bC (tig c true (2 ^ c.si.length - 1 - 2 ^ i : Nat).testBit) from spl_all (by simp only [bC_size])] at hh
            exact ⟨B12, hh, hf.head ⟨rfl, True.intro⟩ (Keep.cons rfl (Keep.cons rfl (Keep.cons rfl (Keep.cons rfl (Keep.cons rfl (Keep.cons rfl (Keep.cons rfl (Keep.cons rfl (Keep.cons rfl (Keep.cons rfl (Keep.cons rfl (Keep.cons rfl (Keep.base)))))))))))))⟩
          ·refine mc_e rfl fun Q1 => ?_
           refine o_alloc hf hh Try.ze_81 ?_; clear hf hh a; intro B12 a w hf hh
           refine ops_end ?_
           refine then_n ⟨⟨fun _ _ => (AtE.of hh (by intro p hp; rw [List.mem_singleton.1 hp]; simp)), trivial⟩, ?_⟩
           refine mc_e rfl fun Q1 => ?_
           refine o_call hf Try.en_48 rfl rfl rfl (p48 c sa cp (by omega) _) ?_; clear hf a; intro v a w hR hf
           obtain ⟨rfl, hx⟩ := hR; replace hh := hh.more hx; clear hx
           refine ops_end ?_
           refine then_n ⟨⟨fun _ _ => (AtE.of hh (by intro p hp; rw [List.mem_singleton.1 hp]; simp)), trivial⟩, ?_⟩
           refine mc_e rfl fun Q1 => ?_
           refine o_call hf Try.en_51 rfl rfl rfl (p51 i (by omega) _) ?_; clear hf a; intro v a w hR hf
           obtain ⟨rfl, hx⟩ := hR; replace hh := hh.more hx; clear hx
           refine ops_end ?_
           refine then_n ⟨⟨fun _ _ => (AtE.of hh (by intro p hp; rw [List.mem_singleton.1 hp]; simp)), trivial⟩, ?_⟩
           refine mc_p rfl   hf (yv_cast (yv_sub rfl rfl (by omega) (by omega)) (intv (b := (((2 ^ c.si.length - 1 - 2 ^ i : Nat) : Nat) : Int)) (by omega))) (.inl rfl) rfl rfl ?_; clear hf a; intro a hf
           refine mc_e rfl fun Q1 => ?_
           refine o_call hf Try.en_49 rfl rfl rfl (p49 c sa cp (2 ^ c.si.length - 1 - 2 ^ i : Nat) true _ (hA.ext hh.ext) hO (by omega)) ?_; clear hf a; intro v a w hR hf
           obtain ⟨b1, rfl, hb1, hx⟩ := hR; replace hh := hh.more hx; clear hx
           obtain rfl := hb1 (tigB_less hO hwr true _); clear hb1
           refine ops_end ?_
           refine then_n ⟨⟨fun _ _ => (AtE.of hh (by intro p hp; rw [List.mem_singleton.1 hp]; simp)), trivial⟩, ?_⟩
           refine mc_p rfl   hf (yv_move rfl) (.inl rfl) rfl rfl ?_; clear hf a; intro a hf
           refine mc_p rfl   hf (yv_extract rfl rfl) (.inl rfl) rfl rfl ?_; clear hf a; intro a hf
           refine mc_p rfl   hf (yv_extract rfl rfl) (.inl rfl) rfl rfl ?_; clear hf a; intro a hf
           refine mc_e rfl fun Q1 => ?_
           refine o_store hf hh Try.sz_81 fun w hh => ?_
           refine ops_end ?_
           refine then_n ⟨⟨fun _ _ => (AtE.of hh (by intro p hp; rw [List.mem_singleton.1 hp]; simp)), trivial⟩, ?_⟩
           refine mc_p rfl   hf (yv_assign rfl) (.inl rfl) rfl rfl ?_; clear hf a; intro a hf
           refine mc_end ?_
           refine then_n ?_
           rw [z81] at hh
           replace hh : Hp u [] ((B12, .cells (spl (bC fun _ _ => none) 0 (bC (tig c true (2 ^ c.si.length - 1 - 2 ^ i : Nat).testBit)).toList) 81) :: ((B10, .cells (bC (tig c false (2 ^ c.si.length - 1 - 2 ^ i : Nat).testBit)) 81) :: ((B6, .cells (bC (tig c true (2 ^ c.si.length - 1 : Nat).testBit)) 81) :: ((B4, .cells (bC (tig c false (2 ^ c.si.length - 1 : Nat).testBit)) 81) :: [(B1, .cells (chC c sa cp) 24)])))) w := hh
           rw [show spl (bC fun _ _ => none) 0 (bC (tig c true (2 ^ c.si.length - 1 - 2 ^ i : Nat).testBit)).toList = bC (tig c true (2 ^ c.si.length - 1 - 2 ^ i : Nat).testBit) from spl_all (by simp only [bC_size])] at hh
           exact ⟨B12, hh, hf.head ⟨rfl, True.intro⟩ (Keep.cons rfl (Keep.cons rfl (Keep.cons rfl (Keep.cons rfl (Keep.cons rfl (Keep.cons rfl (Keep.cons rfl (Keep.cons rfl (Keep.cons rfl (Keep.cons rfl (Keep.cons rfl (Keep.cons rfl (Keep.base)))))))))))))⟩
         ·rintro q a w hh hf
          obtain ⟨B12, e9⟩ : ∃ z, z = q := ⟨_, rfl⟩
          rw [← e9] at hh hf; clear e9 q
          refine sy_sq ?_
          refine o_v hf hh (y_lds Try.ag_24 rfl) ?_; clear hf a; intro a hf
          refine o_v hf hh (yv_cast (y_lds Try.ag_81 rfl (hv := cells81 (bC (tig c false (2 ^ c.si.length - 1 : Nat).testBit)) (bC_size _))) (show Value.agg (bC (tig c false (2 ^ c.si.length - 1 : Nat).testBit)).toList.toArray = Value.agg (bC (tig c false (2 ^ c.si.length - 1 : Nat).testBit)) by rw [Array.toArray_toList])) ?_; clear hf a; intro a hf
          refine o_v hf hh (yv_cast (y_lds Try.ag_81 rfl (hv := cells81 (bC (tig c false (2 ^ c.si.length - 1 - 2 ^ i : Nat).testBit)) (bC_size _))) (show Value.agg (bC (tig c false (2 ^ c.si.length - 1 - 2 ^ i : Nat).testBit)).toList.toArray = Value.agg (bC (tig c false (2 ^ c.si.length - 1 - 2 ^ i : Nat).testBit)) by rw [Array.toArray_toList])) ?_; clear hf a; intro a hf
          refine o_call hf Try.en_52 rfl rfl rfl (p52 c sa cp (tig c false (2 ^ c.si.length - 1 : Nat).testBit) (tig c false (2 ^ c.si.length - 1 - 2 ^ i : Nat).testBit) _ ⟨hn1, hn2⟩) ?_; clear hf a; intro v a w hR hf
          obtain ⟨rfl, hx⟩ := hR; replace hh := hh.more hx; clear hx
          refine o_v hf hh (yv_move rfl) ?_; clear hf a; intro a hf
          refine guard_split hf (t := 67) rfl (fun hg73 => ?_) (fun hg73 => ?_)
          ·have hG73 := hg73; try simp only [gS] at hG73
           refine o_v hf hh (y_lds Try.ag_24 rfl) ?_; clear hf a; intro a hf
           refine o_v hf hh (yv_cast (y_lds Try.ag_81 rfl (hv := cells81 (bC (tig c true (2 ^ c.si.length - 1 : Nat).testBit)) (bC_size _))) (show Value.agg (bC (tig c true (2 ^ c.si.length - 1 : Nat).testBit)).toList.toArray = Value.agg (bC (tig c true (2 ^ c.si.length - 1 : Nat).testBit)) by rw [Array.toArray_toList])) ?_; clear hf a; intro a hf
           refine o_v hf hh (yv_cast (y_lds Try.ag_81 rfl (hv := cells81 (bC (tig c true (2 ^ c.si.length - 1 - 2 ^ i : Nat).testBit)) (bC_size _))) (show Value.agg (bC (tig c true (2 ^ c.si.length - 1 - 2 ^ i : Nat).testBit)).toList.toArray = Value.agg (bC (tig c true (2 ^ c.si.length - 1 - 2 ^ i : Nat).testBit)) by rw [Array.toArray_toList])) ?_; clear hf a; intro a hf
           refine o_call hf Try.en_52 rfl rfl rfl (p52 c sa cp (tig c true (2 ^ c.si.length - 1 : Nat).testBit) (tig c true (2 ^ c.si.length - 1 - 2 ^ i : Nat).testBit) _ ⟨hn1, hn2⟩) ?_; clear hf a; intro v a w hR hf
           obtain ⟨rfl, hx⟩ := hR; replace hh := hh.more hx; clear hx
           refine o_v hf hh (y_pt rfl rfl) ?_; clear hf a; intro a hf
           refine o_end ?_
           refine sy_cond hf rfl (fun hg77 => ?_) (fun hg77 => ?_)
           ·have hG77 := hg77; try simp only [gS] at hG77
            have hp0 := Nat.one_le_two_pow (n := i)
            have hpi : 2 ^ i ≤ 2 ^ c.si.length - 1 := by have := Nat.pow_lt_pow_right (a := 2) (by omega) (show i < c.si.length by omega); omega
            have hbl := bitN_lt (idlB c) i
            refine sy_ops ?_
            refine o_v hf hh (yv_move rfl) ?_; clear hf a; intro a hf
            refine o_v hf hh (yv_move rfl) ?_; clear hf a; intro a hf
            refine o_call hf Try.en_51 rfl rfl rfl (p51 i (by omega) _) ?_; clear hf a; intro v a w hR hf
            obtain ⟨rfl, hx⟩ := hR; replace hh := hh.more hx; clear hx
            refine o_v hf hh (y_add rfl rfl) ?_; clear hf a; intro a hf
            refine o_v hf hh (yv_assign rfl) ?_; clear hf a; intro a hf
            refine ops_end ?_
            refine blk_n ?_
            refine then_n ?_
            refine sy_ops ?_
            refine o_v hf hh (yv_move rfl) ?_; clear hf a; intro a hf
            refine o_v hf hh (y_add rfl rfl) ?_; clear hf a; intro a hf
            refine o_v hf hh (yv_assign rfl) ?_; clear hf a; intro a hf
            refine ops_end ?_
            refine then_n ?_
            obtain ⟨s, hs⟩ := ex_of (l := c.si) (i := i) (by omega)
            have hil := len_of hs
            have hbl := bitN_lt (idlB c) i
            have hnx : bitN (idlB c) (i + 1) = bitN (idlB c) i ||| if idlB c i then 2 ^ i else 0 := rfl
            have hsam := idl_sam hO hwr hs hil
            replace hh : Hp u [] ((B6, .cells (bC (tig c true (2 ^ c.si.length - 1 : Nat).testBit)) 81) :: ((B4, .cells (bC (tig c false (2 ^ c.si.length - 1 : Nat).testBit)) 81) :: [(B1, .cells (chC c sa cp) 24)])) w := hh.less (.cons _ (.cons _ (.refl _)))
            first
              | (have hy : idlB c i = true := by
                   rw [← hsam, Bool.and_eq_true]; exact ⟨by assumption, by assumption⟩
                 exact ⟨i + 1, ⟨⟨by omega, hh⟩, hf.head ⟨rfl, congrArg (fun z => some (Value.int IntKind.i64 z)) (by rw [hnx, if_pos hy, or_add hbl]; omega), True.intro⟩ (Keep.cons rfl (Keep.cons rfl (Keep.cons rfl (Keep.cons rfl (Keep.cons rfl (Keep.cons rfl (Keep.cons rfl (Keep.cons rfl (Keep.cons rfl (Keep.cons rfl (Keep.cons rfl (Keep.cons rfl (Keep.cons rfl (Keep.cons rfl (Keep.cons rfl (Keep.cons rfl (Keep.cons rfl (Keep.cons rfl (Keep.app rfl (Keep.rm rfl (Keep.app rfl (Keep.rm rfl (Keep.cons rfl (Keep.cons rfl (Keep.cons rfl (Keep.cons rfl (Keep.cons rfl (Keep.app rfl (Keep.rm rfl Keep.base)))))))))))))))))))))))))))))⟩, by omega⟩)
              | (have hy : idlB c i = false := by
                   rw [← hsam, Bool.and_eq_false_iff]
                   first | exact .inl (by assumption) | exact .inr (by assumption)
                 exact ⟨i + 1, ⟨⟨by omega, hh⟩, hf.head ⟨rfl, congrArg (fun z => some (Value.int IntKind.i64 ((z : Nat) : Int))) (by rw [hnx, hy]; simp), True.intro⟩ (Keep.cons rfl (Keep.cons rfl (Keep.cons rfl (Keep.cons rfl (Keep.cons rfl (Keep.cons rfl (Keep.cons rfl (Keep.cons rfl (Keep.cons rfl (Keep.cons rfl (Keep.cons rfl (Keep.cons rfl (Keep.cons rfl (Keep.cons rfl (Keep.cons rfl (Keep.cons rfl (Keep.cons rfl (Keep.cons rfl (Keep.app rfl (Keep.rm rfl (Keep.app rfl (Keep.rm rfl (Keep.cons rfl (Keep.cons rfl (Keep.cons rfl (Keep.cons rfl (Keep.cons rfl (Keep.app rfl (Keep.rm rfl Keep.base)))))))))))))))))))))))))))))⟩, by omega⟩)
           ·have hG77 := hg77; try simp only [gS] at hG77
            refine sy_skip ?_
            refine blk_n ?_
            refine then_n ?_
            refine sy_ops ?_
            refine o_v hf hh (yv_move rfl) ?_; clear hf a; intro a hf
            refine o_v hf hh (y_add rfl rfl) ?_; clear hf a; intro a hf
            refine o_v hf hh (yv_assign rfl) ?_; clear hf a; intro a hf
            refine ops_end ?_
            refine then_n ?_
            obtain ⟨s, hs⟩ := ex_of (l := c.si) (i := i) (by omega)
            have hil := len_of hs
            have hbl := bitN_lt (idlB c) i
            have hnx : bitN (idlB c) (i + 1) = bitN (idlB c) i ||| if idlB c i then 2 ^ i else 0 := rfl
            have hsam := idl_sam hO hwr hs hil
            replace hh : Hp u [] ((B6, .cells (bC (tig c true (2 ^ c.si.length - 1 : Nat).testBit)) 81) :: ((B4, .cells (bC (tig c false (2 ^ c.si.length - 1 : Nat).testBit)) 81) :: [(B1, .cells (chC c sa cp) 24)])) w := hh.less (.cons _ (.cons _ (.refl _)))
            first
              | (have hy : idlB c i = true := by
                   rw [← hsam, Bool.and_eq_true]; exact ⟨by assumption, by assumption⟩
                 exact ⟨i + 1, ⟨⟨by omega, hh⟩, hf.head ⟨rfl, congrArg (fun z => some (Value.int IntKind.i64 z)) (by rw [hnx, if_pos hy, or_add hbl]; omega), True.intro⟩ (Keep.cons rfl (Keep.cons rfl (Keep.cons rfl (Keep.cons rfl (Keep.cons rfl (Keep.cons rfl (Keep.cons rfl (Keep.cons rfl (Keep.cons rfl (Keep.cons rfl (Keep.cons rfl (Keep.cons rfl (Keep.cons rfl (Keep.app rfl (Keep.rm rfl (Keep.app rfl (Keep.rm rfl (Keep.cons rfl (Keep.cons rfl (Keep.cons rfl (Keep.cons rfl (Keep.cons rfl (Keep.app rfl (Keep.rm rfl Keep.base))))))))))))))))))))))))⟩, by omega⟩)
              | (have hy : idlB c i = false := by
                   rw [← hsam, Bool.and_eq_false_iff]
                   first | exact .inl (by assumption) | exact .inr (by assumption)
                 exact ⟨i + 1, ⟨⟨by omega, hh⟩, hf.head ⟨rfl, congrArg (fun z => some (Value.int IntKind.i64 ((z : Nat) : Int))) (by rw [hnx, hy]; simp), True.intro⟩ (Keep.cons rfl (Keep.cons rfl (Keep.cons rfl (Keep.cons rfl (Keep.cons rfl (Keep.cons rfl (Keep.cons rfl (Keep.cons rfl (Keep.cons rfl (Keep.cons rfl (Keep.cons rfl (Keep.cons rfl (Keep.cons rfl (Keep.app rfl (Keep.rm rfl (Keep.app rfl (Keep.rm rfl (Keep.cons rfl (Keep.cons rfl (Keep.cons rfl (Keep.cons rfl (Keep.cons rfl (Keep.app rfl (Keep.rm rfl Keep.base))))))))))))))))))))))))⟩, by omega⟩)
          ·have hG73 := hg73; try simp only [gS] at hG73
           refine o_off hf ?_; clear hf a; intro a hf
           refine o_off hf ?_; clear hf a; intro a hf
           refine o_off hf ?_; clear hf a; intro a hf
           refine o_off hf ?_; clear hf a; intro a hf
           refine o_v hf hh (y_pf rfl rfl) ?_; clear hf a; intro a hf
           refine o_end ?_
           refine c_f hf ?_
           refine sy_skip ?_
           refine blk_n ?_
           refine then_n ?_
           refine sy_ops ?_
           refine o_v hf hh (yv_move rfl) ?_; clear hf a; intro a hf
           refine o_v hf hh (y_add rfl rfl) ?_; clear hf a; intro a hf
           refine o_v hf hh (yv_assign rfl) ?_; clear hf a; intro a hf
           refine ops_end ?_
           refine then_n ?_
           obtain ⟨s, hs⟩ := ex_of (l := c.si) (i := i) (by omega)
           have hil := len_of hs
           have hbl := bitN_lt (idlB c) i
           have hnx : bitN (idlB c) (i + 1) = bitN (idlB c) i ||| if idlB c i then 2 ^ i else 0 := rfl
           have hsam := idl_sam hO hwr hs hil
           replace hh : Hp u [] ((B6, .cells (bC (tig c true (2 ^ c.si.length - 1 : Nat).testBit)) 81) :: ((B4, .cells (bC (tig c false (2 ^ c.si.length - 1 : Nat).testBit)) 81) :: [(B1, .cells (chC c sa cp) 24)])) w := hh.less (.cons _ (.cons _ (.refl _)))
           first
             | (have hy : idlB c i = true := by
                  rw [← hsam, Bool.and_eq_true]; exact ⟨by assumption, by assumption⟩
                exact ⟨i + 1, ⟨⟨by omega, hh⟩, hf.head ⟨rfl, congrArg (fun z => some (Value.int IntKind.i64 z)) (by rw [hnx, if_pos hy, or_add hbl]; omega), True.intro⟩ (Keep.cons rfl (Keep.cons rfl (Keep.cons rfl (Keep.cons rfl (Keep.cons rfl (Keep.cons rfl (Keep.cons rfl (Keep.cons rfl (Keep.cons rfl (Keep.cons rfl (Keep.cons rfl (Keep.cons rfl (Keep.cons rfl (Keep.app rfl (Keep.rm rfl (Keep.app rfl (Keep.rm rfl (Keep.cons rfl (Keep.cons rfl (Keep.cons rfl (Keep.cons rfl (Keep.cons rfl (Keep.app rfl (Keep.rm rfl Keep.base))))))))))))))))))))))))⟩, by omega⟩)
             | (have hy : idlB c i = false := by
                  rw [← hsam, Bool.and_eq_false_iff]
                  first | exact .inl (by assumption) | exact .inr (by assumption)
                exact ⟨i + 1, ⟨⟨by omega, hh⟩, hf.head ⟨rfl, congrArg (fun z => some (Value.int IntKind.i64 ((z : Nat) : Int))) (by rw [hnx, hy]; simp), True.intro⟩ (Keep.cons rfl (Keep.cons rfl (Keep.cons rfl (Keep.cons rfl (Keep.cons rfl (Keep.cons rfl (Keep.cons rfl (Keep.cons rfl (Keep.cons rfl (Keep.cons rfl (Keep.cons rfl (Keep.cons rfl (Keep.cons rfl (Keep.app rfl (Keep.rm rfl (Keep.app rfl (Keep.rm rfl (Keep.cons rfl (Keep.cons rfl (Keep.cons rfl (Keep.cons rfl (Keep.cons rfl (Keep.app rfl (Keep.rm rfl Keep.base))))))))))))))))))))))))⟩, by omega⟩)
       ·have hG29 := hg29; try simp only [gS] at hG29
        refine sy_exit ?_
        refine then_e ?_
        refine then_e ?_
        refine blk_e ?_
        refine then_n ?_
        refine sy_sq ?_
        refine o_v hf hh (yv_move rfl) ?_; clear hf a; intro a hf
        refine o_v hf hh (yv_assign rfl) ?_; clear hf a; intro a hf
        refine o_v hf hh (yv_assign rfl) ?_; clear hf a; intro a hf
        refine o_end ?_
        refine sy_ret ?_
        refine ret_r hf rfl rfl ?_
        obtain rfl : i = c.si.length := by omega
        have ev := idlE0 hcb hwr
        exact ⟨by rw [ev, idlV_ok ev]; rfl, hh.ext⟩
end Go.Proofs.Ytccjnjhlnpgocaa
namespace Go.Proofs.Ytccjnjhlnpgocaa
open Go Go.Sy Go.ChaM
set_option maxRecDepth 100000 in
set_option maxHeartbeats 4000000 in
theorem p3 (c : ChD) (sa : Option Addr) (cp : Nat) (x y : Int) (u : World) (hC : ChIn u c sa) : Calls Try.prog 3 #[.agg (chC c sa cp), .int .i64 x, .int .i64 y] u (Ret fun v w' => v = .bool true ∧ Ext [] u w') := by
  refine calls_of Try.func3 rfl rfl (fun a hf => ?_)
  have hh := Hp.init u []
  refine sy_sq ?_
  refine o_box hf hh ?_; clear hf hh a; intro B3 a w hf hh
  refine o_v hf hh (yv_assign rfl) ?_; clear hf a; intro a hf
  refine o_end ?_
  refine sy_seq ?_
  refine sy_sq ?_
  refine o_v hf hh (y_lds Try.ag_24 rfl) ?_; clear hf a; intro a hf
  refine o_call hf Try.en_13 rfl rfl rfl (p13 c sa cp _) ?_; clear hf a; intro v a w hR hf
  obtain ⟨rfl, hx⟩ := hR; replace hh := hh.more hx; clear hx
  refine o_end ?_
  refine sy_cond hf rfl (fun hg2 => ?_) (fun hg2 => ?_)
  ·have hG2 := hg2; try simp only [gS] at hG2
   refine sy_sq ?_
   refine o_call hf Try.en_14 rfl rfl rfl (p14 _) ?_; clear hf a; intro v a w hR hf
   obtain ⟨rfl, hx⟩ := hR; replace hh := hh.more hx; clear hx
   refine o_v hf hh (yv_assign rfl) ?_; clear hf a; intro a hf
   refine o_end ?_
   refine sy_ret ?_
   refine then_r ?_
   refine ret_r hf rfl rfl ?_
   exact ⟨rfl, hh.ext⟩
  ·have hG2 := hg2; try simp only [gS] at hG2
   refine sy_skip ?_
   refine then_n ?_
   refine sy_seq ?_
   have hA := hC.at (by assumption)
   refine sy_ops ?_
   refine o_v hf hh (y_lds Try.ag_24 rfl) ?_; clear hf a; intro a hf
   refine o_v hf hh (yv_move rfl) ?_; clear hf a; intro a hf
   refine o_call hf Try.en_15 rfl rfl rfl (p15 c sa cp x _ (hA.ext hh.ext)) ?_; clear hf a; intro v a w hR hf
   obtain ⟨rfl, hx⟩ := hR; replace hh := hh.more hx; clear hx
   refine o_v hf hh (yv_move rfl) ?_; clear hf a; intro a hf
   refine o_v hf hh (yv_extract rfl rfl) ?_; clear hf a; intro a hf
   refine o_v hf hh (yv_extract rfl rfl) ?_; clear hf a; intro a hf
   refine o_v hf hh (yv_extract rfl rfl) ?_; clear hf a; intro a hf
   refine o_alloc hf hh Try.ze_28 ?_; clear hf hh a; intro B7 a w hf hh
   refine o_alloc hf hh Try.ze_28 ?_; clear hf hh a; intro B8 a w hf hh
   refine o_store hf hh Try.sz_28 fun w hh => ?_
   refine o_store hf hh Try.sz_28 fun w hh => ?_
   refine o_v hf hh (yv_assign rfl) ?_; clear hf a; intro a hf
   refine o_end ?_
   refine sy_sq ?_
   refine o_v hf hh (y_lds Try.ag_24 rfl) ?_; clear hf a; intro a hf
   refine o_v hf hh (yv_move rfl) ?_; clear hf a; intro a hf
   refine o_call hf Try.en_16 rfl rfl rfl (p16 c sa cp x _ (hA.ext hh.ext)) ?_; clear hf a; intro v a w hR hf
   obtain ⟨rfl, hx⟩ := hR; replace hh := hh.more hx; clear hx
   refine o_v hf hh (yv_move rfl) ?_; clear hf a; intro a hf
   refine o_v hf hh (yv_extract rfl rfl) ?_; clear hf a; intro a hf
   refine o_v hf hh (yv_extract rfl rfl) ?_; clear hf a; intro a hf
   refine o_v hf hh (yv_extract rfl rfl) ?_; clear hf a; intro a hf
   refine o_alloc hf hh Try.ze_28 ?_; clear hf hh a; intro B10 a w hf hh
   refine o_alloc hf hh Try.ze_28 ?_; clear hf hh a; intro B11 a w hf hh
   refine o_store hf hh Try.sz_28 fun w hh => ?_
   refine o_store hf hh Try.sz_28 fun w hh => ?_
   refine o_v hf hh (yv_assign rfl) ?_; clear hf a; intro a hf
   refine o_end ?_
   refine sy_sq ?_
   refine o_v hf hh (y_lds Try.ag_24 rfl) ?_; clear hf a; intro a hf
   refine o_v hf hh (yv_move rfl) ?_; clear hf a; intro a hf
   refine o_v hf hh (yv_move rfl) ?_; clear hf a; intro a hf
   refine o_call hf Try.en_17 rfl rfl rfl (p17 c sa cp x y _ (hA.ext hh.ext)) ?_; clear hf a; intro v a w hR hf
   obtain ⟨rfl, hx⟩ := hR; replace hh := hh.more hx; clear hx
   refine o_v hf hh (yv_move rfl) ?_; clear hf a; intro a hf
   refine o_v hf hh (yv_extract rfl rfl) ?_; clear hf a; intro a hf
   refine o_v hf hh (yv_extract rfl rfl) ?_; clear hf a; intro a hf
   refine o_v hf hh (yv_extract rfl rfl) ?_; clear hf a; intro a hf
   refine o_alloc hf hh Try.ze_28 ?_; clear hf hh a; intro B13 a w hf hh
   refine o_alloc hf hh Try.ze_28 ?_; clear hf hh a; intro B14 a w hf hh
   refine o_store hf hh Try.sz_28 fun w hh => ?_
   refine o_store hf hh Try.sz_28 fun w hh => ?_
   refine o_v hf hh (yv_assign rfl) ?_; clear hf a; intro a hf
   refine o_end ?_
   refine sy_sq ?_
   refine o_v hf hh (y_lds Try.ag_24 rfl) ?_; clear hf a; intro a hf
   refine o_v hf hh (yv_move rfl) ?_; clear hf a; intro a hf
   refine o_v hf hh (yv_move rfl) ?_; clear hf a; intro a hf
   refine o_call hf Try.en_18 rfl rfl rfl (p18 c sa cp x y _ (hA.ext hh.ext)) ?_; clear hf a; intro v a w hR hf
   obtain ⟨rfl, hx⟩ := hR; replace hh := hh.more hx; clear hx
   refine o_v hf hh (yv_move rfl) ?_; clear hf a; intro a hf
   refine o_v hf hh (yv_extract rfl rfl) ?_; clear hf a; intro a hf
   refine o_v hf hh (yv_extract rfl rfl) ?_; clear hf a; intro a hf
   refine o_v hf hh (yv_extract rfl rfl) ?_; clear hf a; intro a hf
   refine o_alloc hf hh Try.ze_28 ?_; clear hf hh a; intro B16 a w hf hh
   refine o_alloc hf hh Try.ze_28 ?_; clear hf hh a; intro B17 a w hf hh
   refine o_store hf hh Try.sz_28 fun w hh => ?_
   refine o_store hf hh Try.sz_28 fun w hh => ?_
   refine o_v hf hh (yv_assign rfl) ?_; clear hf a; intro a hf
   refine o_end ?_
   refine sy_sq ?_
   refine o_v hf hh (y_lds Try.ag_24 rfl) ?_; clear hf a; intro a hf
   refine o_call hf Try.en_19 rfl rfl rfl (p19 c sa cp _ (hA.ext hh.ext)) ?_; clear hf a; intro v a w hR hf
   obtain ⟨so, co, rfl, hT, hx⟩ := hR; replace hh := hh.more hx; clear hx
   refine o_v hf hh (yv_move rfl) ?_; clear hf a; intro a hf
   refine o_v hf hh (yv_extract rfl rfl) ?_; clear hf a; intro a hf
   refine o_v hf hh (yv_extract rfl rfl) ?_; clear hf a; intro a hf
   refine o_v hf hh (yv_assign rfl) ?_; clear hf a; intro a hf
   refine o_v hf hh (yv_assign rfl) ?_; clear hf a; intro a hf
   refine o_end ?_
   refine sy_sq ?_
   refine o_v hf hh (y_lds Try.ag_24 rfl) ?_; clear hf a; intro a hf
   refine o_call hf Try.en_20 rfl rfl rfl (p20 c sa cp _ (hA.ext hh.ext)) ?_; clear hf a; intro v a w hR hf
   obtain ⟨so2, co2, rfl, hT2, hx⟩ := hR; replace hT := hT.ext hx; replace hh := hh.more hx; clear hx
   refine o_v hf hh (yv_move rfl) ?_; clear hf a; intro a hf
   refine o_v hf hh (yv_extract rfl rfl) ?_; clear hf a; intro a hf
   refine o_v hf hh (yv_extract rfl rfl) ?_; clear hf a; intro a hf
   refine o_v hf hh (yv_assign rfl) ?_; clear hf a; intro a hf
   refine o_v hf hh (yv_assign rfl) ?_; clear hf a; intro a hf
   refine o_end ?_
   refine sy_sq ?_
   refine o_v hf hh (y_lds Try.ag_24 rfl) ?_; clear hf a; intro a hf
   refine o_call hf Try.en_21 rfl rfl rfl (p21 c sa cp _ (hA.ext hh.ext)) ?_; clear hf a; intro v a w hR hf
   obtain ⟨rfl, hx⟩ := hR; replace hT := hT.ext hx; replace hT2 := hT2.ext hx; replace hh := hh.more hx; clear hx
   refine o_v hf hh (yv_move rfl) ?_; clear hf a; intro a hf
   refine o_v hf hh (yv_extract rfl rfl) ?_; clear hf a; intro a hf
   refine o_v hf hh (yv_extract rfl rfl) ?_; clear hf a; intro a hf
   refine o_v hf hh (yv_assign rfl) ?_; clear hf a; intro a hf
   refine o_v hf hh (yv_assign rfl) ?_; clear hf a; intro a hf
   refine o_end ?_
   refine sy_sq ?_
   refine o_v hf hh (y_lds Try.ag_24 rfl) ?_; clear hf a; intro a hf
   refine o_call hf Try.en_22 rfl rfl rfl (p22 c sa cp _ (hA.ext hh.ext)) ?_; clear hf a; intro v a w hR hf
   obtain ⟨rfl, hx⟩ := hR; replace hT := hT.ext hx; replace hT2 := hT2.ext hx; replace hh := hh.more hx; clear hx
   refine o_v hf hh (yv_move rfl) ?_; clear hf a; intro a hf
   refine o_v hf hh (yv_extract rfl rfl) ?_; clear hf a; intro a hf
   refine o_v hf hh (yv_extract rfl rfl) ?_; clear hf a; intro a hf
   refine o_v hf hh (yv_assign rfl) ?_; clear hf a; intro a hf
   refine o_v hf hh (yv_assign rfl) ?_; clear hf a; intro a hf
   refine o_end ?_
   refine sy_seq ?_
   refine sy_seq ?_
   replace hh : Hp u [] [(B17, .cells (spV (betV c true x y)).cells 28), (B16, .cells (spV (betV c false x y)).cells 28), (B14, .cells (spV (betV c true x y)).cells 28), (B13, .cells (spV (betV c false x y)).cells 28), (B11, .cells (spV (betV c true 0 x)).cells 28), (B10, .cells (spV (betV c false 0 x)).cells 28), (B8, .cells (spV (betV c true 0 x)).cells 28), (B7, .cells (spV (betV c false 0 x)).cells 28), (B3, .cells (chC c sa cp) 24)] w := hh
   have q1 := hh.at (i := 0) rfl
   have q2 := hh.at (i := 1) rfl
   have q3 := hh.at (i := 2) rfl
   have q4 := hh.at (i := 3) rfl
   have q5 := hh.at (i := 4) rfl
   have q6 := hh.at (i := 5) rfl
   have q7 := hh.at (i := 6) rfl
   have q8 := hh.at (i := 7) rfl
   have e3 := hh.ext
   obtain ⟨u3, rfl⟩ : ∃ z, z = w := ⟨_, rfl⟩
   replace hh := Hp.init u3 []
   have hl8 : (drwL c).length ≤ 8 := by
     by_cases h : drwE c = 0
     · obtain ⟨_, _, g3, _, _, g6, _⟩ := drw_good h
       have := g3.n2; rw [g6]; omega
     · rw [(drw_bad h).1]; omega
   refine sy_ops ?_
   refine o_v hf hh (yv_move rfl) ?_; clear hf a; intro a hf
   refine o_v hf hh (yv_len Try.se_33 rfl) ?_; clear hf a; intro a hf
   refine o_v hf hh (yv_move rfl) ?_; clear hf a; intro a hf
   refine o_v hf hh (yv_len Try.se_33 rfl) ?_; clear hf a; intro a hf
   refine o_v hf hh (yv_bin rfl rfl rfl) ?_; clear hf a; intro a hf
   refine o_end ?_
   refine c_f hf ?_
   refine sy_skip ?_
   refine then_n ?_
   refine sy_seq ?_
   refine sy_sq ?_
   refine o_v hf hh (yv_assign rfl) ?_; clear hf a; intro a hf
   refine o_end ?_
   refine sy_block ?_
   refine sy_loopF (σ := Nat) [6, 27, 86, 87, 88, 89, 90, 91, 92, 93, 94, 95, 96, 97, 98, 99, 100] (fun i => [(27, .int .i64 (i : Nat))]) (fun i => i ≤ (drwL c).length) (fun i => (drwL c).length - i) (0) hf hh ?_ ?_ ?_
   · repeat' (first | exact True.intro | refine And.intro rfl ?_)
   · exact Nat.zero_le _
   ·rintro i a w hi hf hh
    refine sy_seq ?_
    refine sy_sq ?_
    refine o_v hf hh (yv_move rfl) ?_; clear hf a; intro a hf
    refine o_v hf hh (yv_move rfl) ?_; clear hf a; intro a hf
    refine o_v hf hh (yv_len Try.se_33 rfl) ?_; clear hf a; intro a hf
    refine o_v hf hh (yv_bin rfl rfl rfl) ?_; clear hf a; intro a hf
    refine o_end ?_
    refine sy_cond hf rfl (fun hg34 => ?_) (fun hg34 => ?_)
    ·have hG34 := hg34; try simp only [gS] at hG34
     refine sy_skip ?_
     refine then_n ?_
     refine sy_seq ?_
     refine sy_block ?_
     refine sy_seq ?_
     obtain ⟨s, hs⟩ := ex_of (l := drwL c) (i := i) (by omega)
     obtain ⟨blk1, off1, cc1, T1, f1, e1, hb1, hc1⟩ := hT i s hs
     obtain ⟨blk2, off2, cc2, T2, f2, e2, hb2, hc2⟩ := hT2 i s hs
     refine sy_quiet (C := Hp _ _ _) Try.follows (by kernel_rfl) (hh.drawn _) ?_
     refine oq_v hf (yv_move rfl) ?_; clear hf a; intro a hf
     refine oq_v hf (yv_move rfl) ?_; clear hf a; intro a hf
     refine oq_v hf (y_ix Try.se_33 (congrArg (fun z => some (Value.slice z (drwL c).length co)) e1) rfl) ?_; clear hf a; intro a hf
     refine oq_v hf (y_lds Try.ag_39 rfl) ?_; clear hf a; intro a hf
     refine oq_v hf (yv_move rfl) ?_; clear hf a; intro a hf
     refine oq_v hf (yv_move rfl) ?_; clear hf a; intro a hf
     refine oq_v hf (y_ix Try.se_33 (congrArg (fun z => some (Value.slice z (drwL c).length co2)) e2) rfl) ?_; clear hf a; intro a hf
     refine oq_v hf (y_lds Try.ag_39 rfl) ?_; clear hf a; intro a hf
     refine oq_v hf (yv_cast (yv_neF [s.1, s.2] [s.1, s.2] fl39 rfl rfl) (congrArg Value.bool (show _ = false by simp))) ?_; clear hf a; intro a hf
     refine q_end fun w hh => ?_
     refine then_n ?_
     refine c_f hf ?_
     refine sy_skip ?_
     refine blk_n ?_
     refine then_n ?_
     refine sy_ops ?_
     refine o_v hf hh (yv_move rfl) ?_; clear hf a; intro a hf
     refine o_v hf hh (y_add rfl rfl) ?_; clear hf a; intro a hf
     refine o_v hf hh (yv_assign rfl) ?_; clear hf a; intro a hf
     refine ops_end ?_
     refine then_n ?_
     exact ⟨i + 1, ⟨by omega, (hf.head (by repeat' (first | exact True.intro | refine And.intro rfl ?_)) (Keep.cons rfl (Keep.cons rfl (Keep.cons rfl (Keep.cons rfl (Keep.cons rfl (Keep.cons rfl (Keep.cons rfl (Keep.cons rfl (Keep.cons rfl (Keep.cons rfl (Keep.cons rfl (Keep.cons rfl (Keep.cons rfl (Keep.cons rfl (Keep.cons rfl (Keep.cons rfl (Keep.app rfl (Keep.rm rfl Keep.base))))))))))))))))))), hh⟩, by omega⟩
    ·have hG34 := hg34; try simp only [gS] at hG34
     refine sy_exit ?_
     refine then_e ?_
     refine then_e ?_
     refine blk_e ?_
     refine then_n ?_
     refine sy_sq ?_
     refine o_v hf hh (y_lds Try.ag_28 rfl) ?_; clear hf a; intro a hf
     refine o_v hf hh (y_lds Try.ag_28 rfl) ?_; clear hf a; intro a hf
     refine o_v hf hh (yv_cast (yv_eqF [(betV c false 0 x).1, (betV c false 0 x).2] [(betV c false 0 x).1, (betV c false 0 x).2] fl28 rfl rfl) (congrArg Value.bool (pair_dec (betV c false 0 x) (betV c false 0 x)))) ?_; clear hf a; intro a hf
     refine o_v hf hh (yv_move rfl) ?_; clear hf a; intro a hf
     refine o_v hf hh (y_lds Try.ag_28 rfl) ?_; clear hf a; intro a hf
     refine o_v hf hh (y_lds Try.ag_28 rfl) ?_; clear hf a; intro a hf
     refine o_v hf hh (yv_cast (yv_eqF [(betV c true 0 x).1, (betV c true 0 x).2] [(betV c true 0 x).1, (betV c true 0 x).2] fl28 rfl rfl) (congrArg Value.bool (pair_dec (betV c true 0 x) (betV c true 0 x)))) ?_; clear hf a; intro a hf
     refine o_v hf hh (y_pt rfl rfl) ?_; clear hf a; intro a hf
     refine o_v hf hh (yv_move rfl) ?_; clear hf a; intro a hf
     refine o_v hf hh (yv_move rfl) ?_; clear hf a; intro a hf
     refine o_v hf hh (yv_move rfl) ?_; clear hf a; intro a hf
     refine o_v hf hh (yv_bin rfl rfl rfl) ?_; clear hf a; intro a hf
     refine o_v hf hh (y_pt rfl rfl) ?_; clear hf a; intro a hf
     refine o_v hf hh (yv_move rfl) ?_; clear hf a; intro a hf
     refine o_v hf hh (y_lds Try.ag_28 rfl) ?_; clear hf a; intro a hf
     refine o_v hf hh (y_lds Try.ag_28 rfl) ?_; clear hf a; intro a hf
     refine o_v hf hh (yv_cast (yv_eqF [(betV c false x y).1, (betV c false x y).2] [(betV c false x y).1, (betV c false x y).2] fl28 rfl rfl) (congrArg Value.bool (pair_dec (betV c false x y) (betV c false x y)))) ?_; clear hf a; intro a hf
     refine o_v hf hh (y_pt rfl rfl) ?_; clear hf a; intro a hf
     refine o_v hf hh (yv_move rfl) ?_; clear hf a; intro a hf
     refine o_v hf hh (y_lds Try.ag_28 rfl) ?_; clear hf a; intro a hf
     refine o_v hf hh (y_lds Try.ag_28 rfl) ?_; clear hf a; intro a hf
     refine o_v hf hh (yv_cast (yv_eqF [(betV c true x y).1, (betV c true x y).2] [(betV c true x y).1, (betV c true x y).2] fl28 rfl rfl) (congrArg Value.bool (pair_dec (betV c true x y) (betV c true x y)))) ?_; clear hf a; intro a hf
     refine o_v hf hh (y_pt rfl rfl) ?_; clear hf a; intro a hf
     refine o_v hf hh (yv_move rfl) ?_; clear hf a; intro a hf
     refine o_v hf hh (yv_move rfl) ?_; clear hf a; intro a hf
     refine o_v hf hh (yv_move rfl) ?_; clear hf a; intro a hf
     refine o_v hf hh (yv_bin rfl rfl rfl) ?_; clear hf a; intro a hf
     refine o_v hf hh (y_pt rfl rfl) ?_; clear hf a; intro a hf
     refine o_v hf hh (yv_move rfl) ?_; clear hf a; intro a hf
     refine o_v hf hh (yv_move rfl) ?_; clear hf a; intro a hf
     refine o_v hf hh (yv_move rfl) ?_; clear hf a; intro a hf
     refine o_v hf hh (yv_bin rfl rfl rfl) ?_; clear hf a; intro a hf
     refine o_v hf hh (y_pt rfl rfl) ?_; clear hf a; intro a hf
     refine o_v hf hh (yv_move rfl) ?_; clear hf a; intro a hf
     refine o_v hf hh (yv_move rfl) ?_; clear hf a; intro a hf
     refine o_v hf hh (yv_move rfl) ?_; clear hf a; intro a hf
     refine o_v hf hh (yv_bin rfl rfl rfl) ?_; clear hf a; intro a hf
     refine o_v hf hh (y_pt rfl rfl) ?_; clear hf a; intro a hf
     refine o_v hf hh (yv_move rfl) ?_; clear hf a; intro a hf
     refine o_v hf hh (yv_move rfl) ?_; clear hf a; intro a hf
     refine o_v hf hh (yv_move rfl) ?_; clear hf a; intro a hf
     refine o_v hf hh (yv_bin rfl rfl rfl) ?_; clear hf a; intro a hf
     refine o_v hf hh (y_pt rfl rfl) ?_; clear hf a; intro a hf
     refine o_v hf hh (yv_move rfl) ?_; clear hf a; intro a hf
     refine o_call hf Try.en_14 rfl rfl rfl (p14 _) ?_; clear hf a; intro v a w hR hf
     obtain ⟨rfl, hx⟩ := hR; replace hh := hh.more hx; clear hx
     refine o_v hf hh (y_pt rfl rfl) ?_; clear hf a; intro a hf
     refine o_v hf hh (yv_assign rfl) ?_; clear hf a; intro a hf
     refine o_end ?_
     refine sy_ret ?_
     refine ret_r hf rfl rfl ?_
     exact ⟨rfl, e3.trans hh.ext⟩
end Go.Proofs.Ytccjnjhlnpgocaa
namespace Go.Proofs.Ytccjnjhlnpgocaa
open Go Go.Sy Go.ChaM Go.ChangeShapes Go.WideShapes Go.Deep Go.RowKit
theorem hs24 : Try.prog.underlying 24 = some (.struct (Try.prog.fieldsOf 24)) := by kernel_rfl
theorem fs24 : (Try.prog.fieldsOf 24).map (fun f => (f.offset, f.type)) = #[(0, 3), (1, 22)] := by kernel_rfl
theorem co24 : Try.prog.cellsOf 24 = 2 := by kernel_rfl
theorem co22 : Try.prog.cellsOf 22 = 1 := by kernel_rfl
theorem co3 : Try.prog.cellsOf 3 = 1 := by kernel_rfl
theorem un22 : Try.prog.underlying 22 = some (.slice 46) := by kernel_rfl
theorem un42 : Try.prog.underlying 42 = some (.slice 56) := by kernel_rfl
theorem un56 : Try.prog.underlying 56 = some (.int .u16) := by kernel_rfl
theorem un5 : Try.prog.underlying 5 = some (.int .u8) := by kernel_rfl
theorem hs46 : Try.prog.underlying 46 = some (.struct (Try.prog.fieldsOf 46)) := by kernel_rfl
theorem co46 : Try.prog.cellsOf 46 = 6 := by kernel_rfl
theorem fk46 : flK Try.prog .i64 9 46 = some 6 := by kernel_rfl
theorem fk56 : flK Try.prog .u16 9 56 = some 1 := by kernel_rfl
theorem un4 : Try.prog.underlying 4 = some .bool := by kernel_rfl
theorem own : ownKnob Try.prog.godebug = none := by kernel_rfl
def toSi (p : List Int) : SiD := match p with
  | [a, b, c, d, e, f] => ⟨a, b, c, d, e, f⟩
  | _ => ⟨0, 0, 0, 0, 0, 0⟩
theorem toSi_enc {p : List Int} (h : p.length = 6) : siC (toSi p) = p.map (Value.int .i64) := by
  match p, h with
  | [a, b, c, d, e, f], _ => rfl
theorem toSi_bd {p : List Int} (h : p.length = 6) (hb : ∀ z ∈ p, I64 z) : SiI (toSi p) := by
  match p, h with
  | [a, b, c, d, e, f], _ => exact ⟨hb a (by simp), hb b (by simp), hb c (by simp), hb d (by simp), hb e (by simp), hb f (by simp)⟩
theorem tAt_flat {α : Type} {W : World} {sa : Option Addr} {l : List (List Int)} {n : Nat} {enc : α → List Value} {f : List Int → α} (hf : ∀ p ∈ l, enc (f p) = p.map (Value.int .i64)) (h : FlatAt W .i64 sa n l) : TAt n enc W sa (l.map f) := fun i s hi => by
  rw [List.getElem?_map] at hi
  cases hp : l[i]? with
  | none => rw [hp] at hi; cases hi
  | some p =>
    rw [hp] at hi
    cases hi
    obtain ⟨blk, off, c, T, fr, h1, h2, h3⟩ := h i p hp
    exact ⟨blk, off, c, T, fr, h1, h2, by rw [hf p (List.mem_of_getElem? hp)]; exact h3⟩
theorem len2 {l : List Value} (h : l.length = 2) : ∃ a b, l = [a, b] := by
  match l, h with
  | [a, b], _ => exact ⟨a, b, rfl⟩
section
variable {H : Type} {enc : TypeId × Value → H} {W : World} {base : Nat} {spare : Nat → Bool} {held : Bool}
set_option maxRecDepth 100000 in
theorem openCha {r : Reach} {b0 : Nat} {v : Value} {d : DataW H} {p : List MemPlace} (hv : Value.okWide Try.prog W r b0 24 v) (h : DataW.Trod enc Try.prog W base spare held 24 v d p) : ∃ (c : ChD) (sa : Option Addr) (cp : Nat), v = .agg (chC c sa cp) ∧ ChIn W c sa ∧ c.si.length ≤ cp := by
  obtain ⟨cs, rfl, hsz⟩ := okWide_struct hs24 hv
  obtain ⟨fuel, h⟩ := h
  obtain ⟨_, hf⟩ := trod_field hs24 h
  rw [fs24] at hf
  rw [co24] at hsz
  obtain ⟨l, rfl⟩ : ∃ l : List Value, cs = l.toArray := ⟨cs.toList, by simp⟩
  obtain ⟨c0, c1, rfl⟩ := len2 (by simpa using hsz)
  replace hf : ∀ (i o : Nat) (u : TypeId) (c : Nat), (#[(0, 3), (1, 22)] : Array (Nat × TypeId))[i]? = some (o, u) → Try.prog.cellsOf u = c → ∃ n y, DataW.trod enc Try.prog W base spare held n u (([c0, c1].drop o).take c) = some y := hf
  obtain ⟨_, y0, g0⟩ := hf 0 0 3 1 rfl co3
  obtain ⟨_, _, g1⟩ := hf 1 1 22 1 rfl co22
  obtain ⟨n, e1, _, hn⟩ := DataW.trod_int Try.un_3 g0
  obtain ⟨l1, s1, a1, e2, m1, b1, f1⟩ := trod_slices un22 fk46 (by omega) g1
  have hc1 := trod_cap un22 e2 g1
  simp at e1 e2
  subst e1; subst e2
  refine ⟨⟨n, l1.map toSi⟩, s1, a1, by simp, ⟨tAt_flat (fun p hp => toSi_enc (b1 p hp).1) f1, wf64 hn, fun s hs => ?_⟩, by simpa using hc1⟩
  obtain ⟨p, hp, rfl⟩ := List.mem_map.1 hs
  exact toSi_bd (b1 p hp).1 (fun z hz => wf64 ((b1 p hp).2 z hz))
set_option maxRecDepth 100000 in
theorem openSi {r : Reach} {b0 : Nat} {v : Value} {d : DataW H} {p : List MemPlace} (hv : Value.okWide Try.prog W r b0 46 v) (h : DataW.Trod enc Try.prog W base spare held 46 v d p) : ∃ t : SiD, v = siV t ∧ SiI t := by
  obtain ⟨cs, rfl, hsz⟩ := okWide_struct hs46 hv
  obtain ⟨fuel, h⟩ := h
  obtain ⟨p, h1, h2, h3⟩ := trod_fl fk46 h
  refine ⟨toSi p, ?_, toSi_bd h1 (fun z hz => wf64 (h3 z hz))⟩
  match p, h1 with
  | [x1, x2, x3, x4, x5, x6], _ =>
    have e : cs = #[.int .i64 x1, .int .i64 x2, .int .i64 x3, .int .i64 x4, .int .i64 x5, .int .i64 x6] := by
      apply Array.ext'
      have h4 : cs.toList = [x1, x2, x3, x4, x5, x6].map (Value.int .i64) := h2
      rw [h4]; rfl
    subst e
    rfl
end
end Go.Proofs.Ytccjnjhlnpgocaa
