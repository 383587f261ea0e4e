/- Lemmas, in order: ChartTurned. What a law is handed, opened: charts, sights, numbers.. -/
import Derived.Test.YtccjnjhlnpgocaaQ15
import Derived.Test.YtccjnjhlnpgocaaRows
import Derived.Test.YtccjnjhlnpgocaaChecked
import Derived.JoinedOf
import Derived.LaidLaws
import Derived.RowKit
import Derived.RowKitTokens
import Derived.LaidHandle
import Derived.Stop.Joined
import Derived.Lay
import Derived.SizedLaws
import Derived.SevenTiedAt
namespace Go.Proofs.Ytccjnjhlnpgocaa
open Go Go.Sy Go.ChaM
theorem p38 (x : Int) (s n B7 B9 : Nat) (u : World) (q7 : u.heap[B7]? = some (.cells #[.int .u8 (s : Nat)] 5 (0, 0))) (q9 : u.heap[B9]? = some (.cells #[.int .i64 (n : Nat)] 3 (0, 0))) (hx : 0 ≤ x ∧ x ≤ 1000) (hs : s ≤ 255) (hn : 1 ≤ n ∧ n ≤ 1000) : Calls Try.prog 38 #[.int .i64 x, ptr B7 0, ptr B9 0] u (Ret fun v w' => v = .int .i64 (rot n s x.toNat : Nat) ∧ Ext [] u w') := by
  refine calls_of Try.func38 rfl rfl (fun a hf => ?_)
  have hh := Hp.init u []
  refine sy_sq ?_
  refine o_v hf hh (yv_assign rfl) ?_; clear hf a; intro a hf
  refine o_end ?_
  refine sy_seq ?_
  obtain ⟨y, rfl⟩ : ∃ y : Nat, x = y := ⟨x.toNat, by omega⟩
  refine sy_ops ?_
  refine o_v hf hh (yv_move rfl) ?_; clear hf a; intro a hf
  refine o_v hf hh (y_ld Try.sc_5 rfl) ?_; clear hf a; intro a hf
  first | refine o_v hf hh (yv_convx (.inl rfl) (by kernel_rfl) Try.un_3 rfl (by omega) (by simp only [IntKind.top]; omega)) ?_; clear hf a; intro a hf | refine o_v hf hh (yv_conv (by kernel_rfl) Try.un_3 rfl) ?_; clear hf a; intro a hf
  refine o_v hf hh (y_add rfl rfl) ?_; clear hf a; intro a hf
  refine o_v hf hh (y_ld Try.sc_3 rfl) ?_; clear hf a; intro a hf
  refine ops_v hf hh (yv_cast (yv_rem rfl rfl (by omega) (by omega)) (intv (b := ((rot n s y : Nat) : Int)) (by unfold rot; rw [Int.natCast_emod, Int.natCast_add]))) (.inl rfl) rfl rfl rfl ?_; clear hf a; intro a hf
  refine o_v hf hh (yv_assign rfl) ?_; clear hf a; intro a hf
  refine o_end ?_
  refine sy_ret ?_
  refine ret_r hf rfl rfl ?_
  exact ⟨by rw [Int.toNat_natCast]; rfl, hh.ext⟩
theorem p39 (s n B10 : Nat) (u : World) (q10 : u.heap[B10]? = some (.cells #[.int .i64 (n : Nat)] 3 (0, 0))) (hs : s ≤ 1024) (hn : n ≤ 10) : Calls Try.prog 39 #[.int .i64 (s : Nat), ptr B10 0] u (Ret fun v w' => v = .int .i64 (revN n s : Nat) ∧ Ext [] u w') := by
  refine calls_of Try.func39 rfl rfl (fun a hf => ?_)
  have hh := Hp.init u []
  refine sy_sq ?_
  refine o_v hf hh (yv_assign rfl) ?_; clear hf a; intro a hf
  refine o_end ?_
  refine sy_seq ?_
  refine sy_sq ?_
  refine o_v hf hh (y_ld Try.sc_3 rfl) ?_; clear hf a; intro a hf
  refine o_v hf hh (yv_move rfl) ?_; clear hf a; intro a hf
  refine o_end ?_
  refine sy_block ?_
  refine sy_loopF (σ := Nat) [3, 4, 6, 7, 8, 9, 10, 11, 12, 13, 14, 15, 16, 17, 18, 19, 20] (fun i => [(3, .int .i64 (revP n s i : Nat)), (6, .int .i64 (i : Nat))]) (fun i => i ≤ n) (fun i => n - i) (0) hf hh ?_ ?_ ?_
  · repeat' (first | exact True.intro | refine And.intro rfl ?_)
  · exact Nat.zero_le _
  ·rintro i a w hi hf hh
   refine sy_sq ?_
   refine o_v hf hh (yv_bin rfl rfl rfl) ?_; clear hf a; intro a hf
   refine o_end ?_
   refine sy_seq ?_
   refine sy_cond hf rfl (fun hg2 => ?_) (fun hg2 => ?_)
   ·have hG2 := hg2; try simp only [gS] at hG2
    refine sy_skip ?_
    refine then_n ?_
    refine sy_seq ?_
    refine sy_block ?_
    refine sy_sq ?_
    refine o_v hf hh (yv_move rfl) ?_; clear hf a; intro a hf
    refine o_v hf hh (yv_assign rfl) ?_; clear hf a; intro a hf
    refine o_end ?_
    obtain ⟨sh, hsh⟩ : ∃ sh, sh = (s >>> i &&& 1) <<< (n - 1 - i) := ⟨_, rfl⟩
    have hsl : sh < 2 ^ 10 := by rw [hsh]; exact revP_step (by omega) hn
    have hrl : revP n s i < 2 ^ n := revP_lt hi
    have hp2 : 2 ^ n ≤ 2 ^ 10 := Nat.pow_le_pow_right (by omega) hn
    refine sy_tree1 (.p 0 (.p 1 (.p 2 (.p 3 (.p 4 (.q 0 5 (.p 6 (.p 7 (.p 8 (.p 9 (.p 10 (.p 11 (.fin))))))))))))) [] Try.follows (by kernel_rfl) hh (fun w hh => ?_)
    refine mc_p rfl   hf (yv_move rfl) (.inl rfl) rfl rfl ?_; clear hf a; intro a hf
    refine mc_p rfl   hf (yv_move rfl) (.inl rfl) rfl rfl ?_; clear hf a; intro a hf
    refine mc_p rfl   hf (yv_move rfl) (.inl rfl) rfl rfl ?_; clear hf a; intro a hf
    refine mc_p rfl   hf (yv_shrN rfl rfl) (.inl rfl) rfl rfl ?_; clear hf a; intro a hf
    refine mc_p rfl   hf (yv_and1 rfl rfl (by omega)) (.inl rfl) rfl rfl ?_; clear hf a; intro a hf
    refine mc_q rfl rfl hh hf (y_ld Try.sc_3 rfl) (.inl rfl) rfl rfl ?_; clear hf a; intro a hf
    refine mc_p rfl   hf (y_sub rfl rfl) (.inl rfl) rfl rfl ?_; clear hf a; intro a hf
    refine mc_p rfl   hf (yv_move rfl) (.inl rfl) rfl rfl ?_; clear hf a; intro a hf
    refine mc_p rfl   hf (yv_cast (yv_sub rfl rfl (by omega) (by omega)) (intv (b := ((n - 1 - i : Nat) : Int)) (by omega))) (.inl rfl) rfl rfl ?_; clear hf a; intro a hf
    refine mc_p rfl   hf (yv_cast (yv_shl rfl rfl (by omega) (by simp only [IntKind.bits]; omega)) (intv (b := ((sh : Nat) : Int)) (by rw [Int.toNat_natCast, hsh, Nat.shiftLeft_eq]; rw [Nat.shiftLeft_eq] at hsh; rw [show (((s >>> i &&& 1 : Nat) : Int) * 2 ^ (n - 1 - i)) = (((s >>> i &&& 1) * 2 ^ (n - 1 - i) : Nat) : Int) by push_cast; rfl, ← hsh]; exact wrap_i64 (by omega) (by omega)))) (.inl rfl) rfl rfl ?_; clear hf a; intro a hf
    refine mc_p rfl   hf (yv_orI rfl rfl (by omega) (by omega)) (.inl rfl) rfl rfl ?_; clear hf a; intro a hf
    refine mc_p rfl   hf (yv_assign rfl) (.inl rfl) rfl rfl ?_; clear hf a; intro a hf
    refine mc_end ?_
    refine blk_n ?_
    refine then_n ?_
    refine sy_ops ?_
    refine o_v hf hh (y_add rfl rfl) ?_; clear hf a; intro a hf
    refine o_v hf hh (yv_move rfl) ?_; clear hf a; intro a hf
    refine ops_end ?_
    refine then_n ?_
    exact ⟨i + 1, ⟨by omega, hf.head ⟨congrArg (fun z => some (Value.int IntKind.i64 ((z : Nat) : Int))) (by rw [revP, hsh]), rfl, True.intro⟩ (Keep.cons rfl (Keep.cons rfl (Keep.cons rfl (Keep.cons rfl (Keep.cons rfl (Keep.cons rfl (Keep.cons rfl (Keep.cons rfl (Keep.cons rfl (Keep.cons rfl (Keep.cons rfl (Keep.cons rfl (Keep.cons rfl (Keep.cons rfl (Keep.cons rfl (Keep.cons rfl (Keep.cons rfl (Keep.app rfl (Keep.rm rfl Keep.base))))))))))))))))))), hh⟩, by omega⟩
   ·have hG2 := hg2; try simp only [gS] at hG2
    refine sy_exit ?_
    refine then_e ?_
    refine then_e ?_
    refine blk_e ?_
    refine then_n ?_
    refine sy_sq ?_
    refine o_v hf hh (yv_move rfl) ?_; clear hf a; intro a hf
    refine o_v hf hh (yv_assign rfl) ?_; clear hf a; intro a hf
    refine o_end ?_
    refine sy_ret ?_
    refine ret_r hf rfl rfl ?_
    obtain rfl : i = n := by omega
    exact ⟨(by rw [revP_all]; rfl), hh.ext⟩
set_option maxRecDepth 100000 in
set_option maxHeartbeats 8000000 in
theorem p12 (c : ChD) (sa : Option Addr) (cp : Nat) (x y z : Int) (u : World) (hC : ChIn u c sa) (hz : 0 ≤ z ∧ z ≤ 255) : Calls Try.prog 12 #[.agg (chC c sa cp), .int .i64 x, .int .i64 y, .int .u8 z] u (Ret fun v w' => v = .bool true ∧ Ext [] u w') := by
  refine calls_of Try.func12 rfl rfl (fun a hf => ?_)
  have hh := Hp.init u []
  obtain ⟨zn, rfl⟩ : ∃ k : Nat, z = k := ⟨z.toNat, by omega⟩
  refine sy_sq ?_
  refine o_box hf hh ?_; clear hf hh a; intro B4 a w hf hh
  refine o_box hf hh ?_; clear hf hh a; intro B7 a w hf hh
  refine o_v hf hh (yv_assign rfl) ?_; clear hf a; intro a hf
  refine o_end ?_
  refine sy_seq ?_
  refine sy_sq ?_
  refine o_v hf hh (y_lds Try.ag_24 rfl) ?_; clear hf a; intro a hf
  refine o_call hf Try.en_13 rfl rfl rfl (p13 c sa cp _) ?_; clear hf a; intro v a w hR hf
  obtain ⟨rfl, hx⟩ := hR; replace hh := hh.more hx; clear hx
  refine o_v hf hh (yv_move rfl) ?_; clear hf a; intro a hf
  refine guard_split hf (t := 47) rfl (fun hg2 => ?_) (fun hg2 => ?_)
  ·have hG2 := hg2; try simp only [gS] at hG2
   refine o_off hf ?_; clear hf a; intro a hf
   refine o_off hf ?_; clear hf a; intro a hf
   refine o_off hf ?_; clear hf a; intro a hf
   refine o_v hf hh (y_pt rfl rfl) ?_; clear hf a; intro a hf
   refine o_end ?_
   refine c_t hf ?_
   refine sy_sq ?_
   refine o_call hf Try.en_14 rfl rfl rfl (p14 _) ?_; clear hf a; intro v a w hR hf
   obtain ⟨rfl, hx⟩ := hR; replace hh := hh.more hx; clear hx
   refine o_v hf hh (yv_assign rfl) ?_; clear hf a; intro a hf
   refine o_end ?_
   refine sy_ret ?_
   refine then_r ?_
   refine ret_r hf rfl rfl ?_
   first
     | exact ⟨rfl, hh.ext⟩
     | (exfalso
        (repeat (rename Fr _ _ _ _ => z9; clear z9))
        (repeat (rename Hp _ _ _ _ => z9; clear z9))
        (try clear hcn); (try clear hat); (try clear hbe)
        first
          | (rcases hK with ⟨h1, h2, h3⟩ | ⟨h1, h2, h3⟩ | ⟨h1, h2, h3⟩ <;> first | (omega; done) | (simp_all; done))
          | (omega; done)
          | (simp_all; done)
          | (simp_all <;> omega))
  ·have hG2 := hg2; try simp only [gS] at hG2
   refine o_v hf hh (y_lds Try.ag_24 rfl) ?_; clear hf a; intro a hf
   have hA := hC.at (by assumption)
   refine o_call hf Try.en_31 rfl rfl rfl (p31 c sa cp _ (hA.ext hh.ext)) ?_; clear hf a; intro v a w hR hf
   obtain ⟨rfl, hx⟩ := hR; replace hh := hh.more hx; clear hx
   refine o_v hf hh (yv_not rfl) ?_; clear hf a; intro a hf
   refine o_v hf hh (y_pf rfl rfl) ?_; clear hf a; intro a hf
   refine o_end ?_
   refine sy_cond hf rfl (fun hg5 => ?_) (fun hg5 => ?_)
   ·have hG5 := hg5; try simp only [gS] at hG5
    refine sy_sq ?_
    refine o_call hf Try.en_14 rfl rfl rfl (p14 _) ?_; clear hf a; intro v a w hR hf
    obtain ⟨rfl, hx⟩ := hR; replace hh := hh.more hx; clear hx
    refine o_v hf hh (yv_assign rfl) ?_; clear hf a; intro a hf
    refine o_end ?_
    refine sy_ret ?_
    refine then_r ?_
    refine ret_r hf rfl rfl ?_
    first
      | exact ⟨rfl, hh.ext⟩
      | (exfalso
         (repeat (rename Fr _ _ _ _ => z9; clear z9))
         (repeat (rename Hp _ _ _ _ => z9; clear z9))
         (try clear hcn); (try clear hat); (try clear hbe)
         first
           | (rcases hK with ⟨h1, h2, h3⟩ | ⟨h1, h2, h3⟩ | ⟨h1, h2, h3⟩ <;> first | (omega; done) | (simp_all; done))
           | (omega; done)
           | (simp_all; done)
           | (simp_all <;> omega))
   ·have hG5 := hg5; try simp only [gS] at hG5
    refine sy_skip ?_
    refine then_n ?_
    refine sy_cut (σ := Nat × Nat) [9, 10, 53, 54, 55, 56, 57] (fun q => [(9, ptr q.1 0), (10, ptr q.2 0)]) (fun q => fun w' => Hp u [] [(q.2, .cells #[.int .i64 (c.si.length : Nat)] 3), (q.1, .cells #[.int .i64 c.n] 3), (B7, .cells #[.int .u8 (zn : Nat)] 5), (B4, .cells (chC c sa cp) 24)] w') hf ?_ ?_
    ·replace hh : Hp u [] [(B7, .cells #[.int .u8 (zn : Nat)] 5), (B4, .cells (chC c sa cp) 24)] w := hh
     refine sy_treeC (.p 0 (.q 0 1 (.p 2 (.q 0 3 (.p 4 (.e2 5 (.e1 6 (.e1 7 (.e1 8 (.fin)))) 6 (.e1 5 (.e1 7 (.e1 8 (.fin)))))))))) [[8]] [(AtE u [] [(B4, .cells (chC c sa cp) 24)], [8])] Try.follows (by kernel_rfl) rfl hh (fun w hh => ?_)
     refine mc_p rfl   hf (yv_fieldAddr Try.fo_24_0 rfl) (.inl rfl) rfl rfl ?_; clear hf a; intro a hf
     refine mc_q rfl rfl (AtE.of hh (by intro p hp; rw [List.mem_singleton.1 hp]; simp)) hf (y_ld Try.sc_3 rfl) (.inl rfl) rfl rfl ?_; clear hf a; intro a hf
     refine mc_p rfl   hf (yv_fieldAddr Try.fo_24_1 rfl) (.inl rfl) rfl rfl ?_; clear hf a; intro a hf
     refine mc_q rfl rfl (AtE.of hh (by intro p hp; rw [List.mem_singleton.1 hp]; simp)) hf (y_ld Try.sc_22 rfl) (.inl rfl) rfl rfl ?_; clear hf a; intro a hf
     refine mc_p rfl   hf (yv_len Try.se_22 rfl) (.inl rfl) rfl rfl ?_; clear hf a; intro a hf
     refine ⟨?_, ?_⟩
     ·refine mc_e rfl fun Q1 => ?_
      refine o_alloc hf hh Try.ze_3 ?_; clear hf hh a; intro B9 a w hf hh
      refine ops_end ?_
      refine then_n ⟨⟨fun _ _ => (AtE.of hh (by intro p hp; rw [List.mem_singleton.1 hp]; simp)), trivial⟩, ?_⟩
      refine mc_e rfl fun Q1 => ?_
      refine o_alloc hf hh Try.ze_3 ?_; clear hf hh a; intro B10 a w hf hh
      refine ops_end ?_
      refine then_n ⟨⟨fun _ _ => (AtE.of hh (by intro p hp; rw [List.mem_singleton.1 hp]; simp)), trivial⟩, ?_⟩
      refine mc_e rfl fun Q1 => ?_
      refine o_store hf hh Try.sz_3 fun w hh => ?_
      refine ops_end ?_
      refine then_n ⟨⟨fun _ _ => (AtE.of hh (by intro p hp; rw [List.mem_singleton.1 hp]; simp)), trivial⟩, ?_⟩
      refine mc_e rfl fun Q1 => ?_
      refine o_store hf hh Try.sz_3 fun w hh => ?_
      refine ops_end ?_
      refine then_n ⟨⟨fun h => Bool.noConfusion (show true = false from h), trivial⟩, ?_⟩
      refine mc_end ?_
      refine then_n ?_
      exact ⟨(B9, B10), by first | exact hh.pick [0, 1, 2, 3] | exact hh.pick [1, 0, 2, 3], hf.head ⟨rfl, rfl, True.intro⟩ (Keep.cons rfl (Keep.cons rfl (Keep.cons rfl (Keep.cons rfl (Keep.cons rfl (Keep.cons rfl (Keep.cons rfl (Keep.base))))))))⟩
     ·refine mc_e rfl fun Q1 => ?_
      refine o_alloc hf hh Try.ze_3 ?_; clear hf hh a; intro B10 a w hf hh
      refine ops_end ?_
      refine then_n ⟨⟨fun _ _ => (AtE.of hh (by intro p hp; rw [List.mem_singleton.1 hp]; simp)), trivial⟩, ?_⟩
      refine mc_e rfl fun Q1 => ?_
      refine o_alloc hf hh Try.ze_3 ?_; clear hf hh a; intro B9 a w hf hh
      refine ops_end ?_
      refine then_n ⟨⟨fun _ _ => (AtE.of hh (by intro p hp; rw [List.mem_singleton.1 hp]; simp)), trivial⟩, ?_⟩
      refine mc_e rfl fun Q1 => ?_
      refine o_store hf hh Try.sz_3 fun w hh => ?_
      refine ops_end ?_
      refine then_n ⟨⟨fun _ _ => (AtE.of hh (by intro p hp; rw [List.mem_singleton.1 hp]; simp)), trivial⟩, ?_⟩
      refine mc_e rfl fun Q1 => ?_
      refine o_store hf hh Try.sz_3 fun w hh => ?_
      refine ops_end ?_
      refine then_n ⟨⟨fun h => Bool.noConfusion (show true = false from h), trivial⟩, ?_⟩
      refine mc_end ?_
      refine then_n ?_
      exact ⟨(B9, B10), by first | exact hh.pick [0, 1, 2, 3] | exact hh.pick [1, 0, 2, 3], hf.head ⟨rfl, rfl, True.intro⟩ (Keep.cons rfl (Keep.cons rfl (Keep.cons rfl (Keep.cons rfl (Keep.cons rfl (Keep.cons rfl (Keep.cons rfl (Keep.base))))))))⟩
    ·rintro q a w hh hf
     obtain ⟨B9, B10⟩ := q; dsimp only at hh hf
     have hA := hC.at (by assumption)
     have hcb : chB c = true := by assumption
     have hO := chB_iff.1 hcb
     have hl10 := hO.l
     have hpl := pow_ten hl10
     have hn1 := hO.n1; have hn2 := hO.n2
     obtain ⟨nn, hnn⟩ : ∃ nn : Nat, c.n = nn := ⟨c.n.toNat, by omega⟩
     obtain ⟨σ, hσ⟩ : ∃ σ, σ = rot nn zn := ⟨_, rfl⟩
     obtain ⟨τ, hτ⟩ : ∃ τ, τ = rotB nn zn := ⟨_, rfl⟩
     have hcn : c.n.toNat = nn := by omega
     have hs9 : ∀ i, i < c.n.toNat → σ i < c.n.toNat ∧ τ (σ i) = i := fun i hi => by rw [hcn] at hi ⊢; rw [hσ, hτ]; exact rot_ok hi
     have ht9 : ∀ i, i < c.n.toNat → τ i < c.n.toNat ∧ σ (τ i) = i := fun i hi => by rw [hcn] at hi ⊢; rw [hσ, hτ]; exact rotB_ok hi
     have hrl : c.si.reverse.length = c.si.length := List.length_reverse
     rw [hnn] at hh
     refine sy_sq ?_
     refine o_v hf hh (yv_makeFunc rfl rfl) ?_; clear hf a; intro a hf
     refine o_v hf hh (yv_assign rfl) ?_; clear hf a; intro a hf
     refine o_end ?_
     refine sy_cut (σ := Nat × Nat) [12, 13, 59, 60] (fun q => [(12, ptr q.1 0), (13, ptr q.2 0)]) (fun q => fun w' => Hp u [] [(q.2, .cells (chC c sa cp) 24), (q.1, .cells (chC c sa cp) 24), (B10, .cells #[.int .i64 (c.si.length : Nat)] 3), (B9, .cells #[.int .i64 (nn : Nat)] 3), (B7, .cells #[.int .u8 (zn : Nat)] 5), (B4, .cells (chC c sa cp) 24)] w') hf ?_ ?_
     ·refine sy_treeC (.q 0 0 (.q 0 1 (.e2 2 (.e1 3 (.e1 4 (.e1 5 (.fin)))) 3 (.e1 2 (.e1 4 (.e1 5 (.fin))))))) [[5]] [(AtE u [] [(B4, .cells (chC c sa cp) 24)], [5])] Try.follows (by kernel_rfl) rfl hh (fun w hh => ?_)
      refine mc_q rfl rfl (AtE.of hh (by intro p hp; rw [List.mem_singleton.1 hp]; simp)) hf (y_lds Try.ag_24 rfl) (.inl rfl) rfl rfl ?_; clear hf a; intro a hf
      refine mc_q rfl rfl (AtE.of hh (by intro p hp; rw [List.mem_singleton.1 hp]; simp)) hf (y_lds Try.ag_24 rfl) (.inl rfl) rfl rfl ?_; clear hf a; intro a hf
      refine ⟨?_, ?_⟩
      ·refine mc_e rfl fun Q1 => ?_
       refine o_alloc hf hh Try.ze_24 ?_; clear hf hh a; intro B12 a w hf hh
       refine ops_end ?_
       refine then_n ⟨⟨fun _ _ => (AtE.of hh (by intro p hp; rw [List.mem_singleton.1 hp]; simp)), trivial⟩, ?_⟩
       refine mc_e rfl fun Q1 => ?_
       refine o_alloc hf hh Try.ze_24 ?_; clear hf hh a; intro B13 a w hf hh
       refine ops_end ?_
       refine then_n ⟨⟨fun _ _ => (AtE.of hh (by intro p hp; rw [List.mem_singleton.1 hp]; simp)), trivial⟩, ?_⟩
       refine mc_e rfl fun Q1 => ?_
       refine o_store hf hh Try.sz_24 fun w hh => ?_
       refine ops_end ?_
       refine then_n ⟨⟨fun _ _ => (AtE.of hh (by intro p hp; rw [List.mem_singleton.1 hp]; simp)), trivial⟩, ?_⟩
       refine mc_e rfl fun Q1 => ?_
       refine o_store hf hh Try.sz_24 fun w hh => ?_
       refine ops_end ?_
       refine then_n ⟨⟨fun h => Bool.noConfusion (show true = false from h), trivial⟩, ?_⟩
       refine mc_end ?_
       refine then_n ?_
       exact ⟨(B12, B13), by first | exact hh.pick [0, 1, 2, 3, 4, 5] | exact hh.pick [1, 0, 2, 3, 4, 5], hf.head ⟨rfl, rfl, True.intro⟩ (Keep.cons rfl (Keep.cons rfl (Keep.cons rfl (Keep.cons rfl (Keep.base)))))⟩
      ·refine mc_e rfl fun Q1 => ?_
       refine o_alloc hf hh Try.ze_24 ?_; clear hf hh a; intro B13 a w hf hh
       refine ops_end ?_
       refine then_n ⟨⟨fun _ _ => (AtE.of hh (by intro p hp; rw [List.mem_singleton.1 hp]; simp)), trivial⟩, ?_⟩
       refine mc_e rfl fun Q1 => ?_
       refine o_alloc hf hh Try.ze_24 ?_; clear hf hh a; intro B12 a w hf hh
       refine ops_end ?_
       refine then_n ⟨⟨fun _ _ => (AtE.of hh (by intro p hp; rw [List.mem_singleton.1 hp]; simp)), trivial⟩, ?_⟩
       refine mc_e rfl fun Q1 => ?_
       refine o_store hf hh Try.sz_24 fun w hh => ?_
       refine ops_end ?_
       refine then_n ⟨⟨fun _ _ => (AtE.of hh (by intro p hp; rw [List.mem_singleton.1 hp]; simp)), trivial⟩, ?_⟩
       refine mc_e rfl fun Q1 => ?_
       refine o_store hf hh Try.sz_24 fun w hh => ?_
       refine ops_end ?_
       refine then_n ⟨⟨fun h => Bool.noConfusion (show true = false from h), trivial⟩, ?_⟩
       refine mc_end ?_
       refine then_n ?_
       exact ⟨(B12, B13), by first | exact hh.pick [0, 1, 2, 3, 4, 5] | exact hh.pick [1, 0, 2, 3, 4, 5], hf.head ⟨rfl, rfl, True.intro⟩ (Keep.cons rfl (Keep.cons rfl (Keep.cons rfl (Keep.cons rfl (Keep.base)))))⟩
     ·rintro q a w hh hf
      obtain ⟨B12, B13⟩ := q; dsimp only at hh hf
      refine sy_sq ?_
      refine o_v hf hh (yv_fieldAddr Try.fo_24_1 rfl) ?_; clear hf a; intro a hf
      refine o_store hf hh Try.sz_22 fun w hh => ?_
      refine o_v hf hh (yv_fieldAddr Try.fo_24_1 rfl) ?_; clear hf a; intro a hf
      refine o_store hf hh Try.sz_22 fun w hh => ?_
      refine o_end ?_
      refine sy_seq ?_
      refine sy_seq ?_
      replace hh : Hp u [] ([(B13, .cells #[.int .i64 c.n, .slice none 0 0] 24), (B12, .cells #[.int .i64 c.n, .slice none 0 0] 24), (B10, .cells #[.int .i64 (c.si.length : Nat)] 3), (B9, .cells #[.int .i64 (nn : Nat)] 3), (B7, .cells #[.int .u8 (zn : Nat)] 5), (B4, .cells (chC c sa cp) 24)] ++ [] ++ []) w := hh
      refine sy_ops ?_
      refine o_v hf hh (yv_fieldAddr Try.fo_24_1 rfl) ?_; clear hf a; intro a hf
      refine o_v hf hh (y_ld Try.sc_22 rfl) ?_; clear hf a; intro a hf
      refine o_v hf hh (yv_len Try.se_22 rfl) ?_; clear hf a; intro a hf
      refine o_v hf hh (yv_move rfl) ?_; clear hf a; intro a hf
      refine o_end ?_
      refine sy_block ?_
      refine sy_loopH (σ := Nat × (Option Addr × Nat × List (Nat × Obj)) × Option Addr × Nat × List (Nat × Obj)) [14, 15, 16, 66, 67, 68, 69, 70, 71, 72, 73, 74, 75, 76, 77, 78, 79, 80, 81, 82, 83, 84, 85, 86, 87, 88, 89, 90, 91, 92, 93, 94, 95, 96, 97, 98, 99, 100, 101, 102, 103, 104, 105, 106, 107, 108, 109, 110, 111, 112, 113, 114, 115, 116, 117, 118, 119, 120, 121, 122, 123, 124, 125, 126] (fun q => [(66, .int .i64 (q.1 : Nat))]) (fun q => fun w' => q.1 ≤ c.si.length ∧ OwnSl 46 6 (.slice q.2.1.1 q.1 q.2.1.2.1) q.1 (((c.si.take q.1).map flipS).flatMap siC) q.2.1.2.2 ∧ OwnSl 46 6 (.slice q.2.2.1 q.1 q.2.2.2.1) q.1 (((c.si.reverse.take q.1).map (renS σ)).flatMap siC) q.2.2.2.2 ∧ Hp u [] ([(B13, .cells #[.int .i64 c.n, .slice q.2.2.1 q.1 q.2.2.2.1] 24), (B12, .cells #[.int .i64 c.n, .slice q.2.1.1 q.1 q.2.1.2.1] 24), (B10, .cells #[.int .i64 (c.si.length : Nat)] 3), (B9, .cells #[.int .i64 (nn : Nat)] 3), (B7, .cells #[.int .u8 (zn : Nat)] 5), (B4, .cells (chC c sa cp) 24)] ++ q.2.1.2.2 ++ q.2.2.2.2) w') (fun q => c.si.length - q.1) ((0, (none, 0, []), none, 0, [])) hf ?_ ?_ ?_
      · repeat' (first | exact True.intro | refine And.intro rfl ?_)
      · exact ⟨Nat.zero_le _, OwnSl.nil _ _, OwnSl.nil _ _, hh⟩
      ·rintro q a w ⟨hi, hOA, hOB, hh⟩ hf
       obtain ⟨i, ⟨oa, ca, XA⟩, ob, cb, XB⟩ := q; simp only at hi hOA hOB hh hf ⊢
       refine sy_sq ?_
       refine o_v hf hh (yv_bin rfl rfl rfl) ?_; clear hf a; intro a hf
       refine o_end ?_
       refine sy_seq ?_
       refine sy_cond hf rfl (fun hg8 => ?_) (fun hg8 => ?_)
       ·have hG8 := hg8; try simp only [gS] at hG8
        refine sy_skip ?_
        refine then_n ?_
        refine sy_seq ?_
        refine sy_block ?_
        refine sy_sq ?_
        refine o_v hf hh (yv_move rfl) ?_; clear hf a; intro a hf
        refine o_v hf hh (yv_assign rfl) ?_; clear hf a; intro a hf
        refine o_end ?_
        refine sy_cut (σ := Nat × Nat) [15, 16, 69, 70, 71, 72, 73, 74, 75, 76, 77, 78, 79, 80, 81] (fun q => [(15, ptr q.1 0), (16, ptr q.2 0)]) (fun q => fun w' => Hp u [] (((q.2, .cells (siC (c.si.reverse.getD i ⟨0, 0, 0, 0, 0, 0⟩)).toArray 46) :: (q.1, .cells (siC (c.si.getD i ⟨0, 0, 0, 0, 0, 0⟩)).toArray 46) :: [(B13, .cells #[.int .i64 c.n, .slice ob i cb] 24), (B12, .cells #[.int .i64 c.n, .slice oa i ca] 24), (B10, .cells #[.int .i64 (c.si.length : Nat)] 3), (B9, .cells #[.int .i64 (nn : Nat)] 3), (B7, .cells #[.int .u8 (zn : Nat)] 5), (B4, .cells (chC c sa cp) 24)]) ++ XA ++ XB) w') hf ?_ ?_
        ·obtain ⟨s, hs⟩ := ex_of (l := c.si) (i := i) (by omega)
         obtain ⟨blk, off, cc, T, fr, esa, hb2, hc⟩ := hA.at_ i s hs
         have hsm := List.mem_of_getElem? hs
         have hso := hO.s s hsm
         have hil := len_of hs
         obtain ⟨t, ht⟩ := ex_of (l := c.si) (i := c.si.length - 1 - i) (by omega)
         obtain ⟨blk3, off3, cc3, T3, fr3, esa3, hb3, hc3⟩ := hA.at_ (c.si.length - 1 - i) t ht
         have htm := List.mem_of_getElem? ht
         have hto := hO.s t htm
         have hrv : c.si.reverse[i]? = some t := by rw [List.getElem?_reverse hil]; exact ht
         have hsl0 := hso.l false; have hsl1 := hso.l true; have hsm0 := hso.m false; have hsm1 := hso.m true; have hsh0 := hso.h false; have hsh1 := hso.h true
         simp only [loA, hiA, if_true, Bool.false_eq_true, if_false] at hsl0 hsl1 hsm0 hsm1 hsh0 hsh1
         have htf0 := hto.f0; have htf1 := hto.f1; have htt0 := hto.t0; have htt1 := hto.t1
         refine sy_treeC (.p 0 (.q 0 1 (.p 2 (.p 3 (.q 0 4 (.p 5 (.q 0 6 (.q 0 7 (.p 8 (.p 9 (.p 10 (.p 11 (.q 0 12 (.e2 13 (.e1 14 (.e1 15 (.e1 16 (.fin)))) 14 (.e1 13 (.e1 15 (.e1 16 (.fin)))))))))))))))))) [[16]] [(AtE u [] [(B10, .cells #[.int .i64 (c.si.length : Nat)] 3), (B4, .cells (chC c sa cp) 24)], [16])] Try.follows (by kernel_rfl) rfl hh (fun w hh => ?_)
         refine mc_p rfl   hf (yv_fieldAddr Try.fo_24_1 rfl) (.inl rfl) rfl rfl ?_; clear hf a; intro a hf
         refine mc_q rfl rfl (AtE.of hh (by intro p hp; simp only [List.mem_cons, List.not_mem_nil, or_false] at hp; rcases hp with h | h <;> simp [h])) hf (y_ld Try.sc_22 rfl) (.inl rfl) rfl rfl ?_; clear hf a; intro a hf
         refine mc_p rfl   hf (yv_move rfl) (.inl rfl) rfl rfl ?_; clear hf a; intro a hf
         refine mc_p rfl   hf (y_ix Try.se_22 (congrArg (fun z => some (Value.slice z c.si.length cp)) esa) rfl) (.inl rfl) rfl rfl ?_; clear hf a; intro a hf
         refine mc_q rfl rfl (AtE.of hh (by intro p hp; simp only [List.mem_cons, List.not_mem_nil, or_false] at hp; rcases hp with h | h <;> simp [h])) hf (y_lds Try.ag_46 rfl) (.inl rfl) rfl rfl ?_; clear hf a; intro a hf
         refine mc_p rfl   hf (yv_fieldAddr Try.fo_24_1 rfl) (.inl rfl) rfl rfl ?_; clear hf a; intro a hf
         refine mc_q rfl rfl (AtE.of hh (by intro p hp; simp only [List.mem_cons, List.not_mem_nil, or_false] at hp; rcases hp with h | h <;> simp [h])) hf (y_ld Try.sc_22 rfl) (.inl rfl) rfl rfl ?_; clear hf a; intro a hf
         refine mc_q rfl rfl (AtE.of hh (by intro p hp; simp only [List.mem_cons, List.not_mem_nil, or_false] at hp; rcases hp with h | h <;> simp [h])) hf (y_ld Try.sc_3 rfl) (.inl rfl) rfl rfl ?_; clear hf a; intro a hf
         refine mc_p rfl   hf (y_sub rfl rfl) (.inl rfl) rfl rfl ?_; clear hf a; intro a hf
         refine mc_p rfl   hf (yv_move rfl) (.inl rfl) rfl rfl ?_; clear hf a; intro a hf
         refine mc_p rfl   hf (yv_cast (yv_sub rfl rfl (by omega) (by omega)) (intv (b := ((c.si.length - 1 - i : Nat) : Int)) (by omega))) (.inl rfl) rfl rfl ?_; clear hf a; intro a hf
         refine mc_p rfl   hf (y_ix Try.se_22 (congrArg (fun z => some (Value.slice z c.si.length cp)) esa3) rfl) (.inl rfl) rfl rfl ?_; clear hf a; intro a hf
         refine mc_q rfl rfl (AtE.of hh (by intro p hp; simp only [List.mem_cons, List.not_mem_nil, or_false] at hp; rcases hp with h | h <;> simp [h])) hf (y_lds Try.ag_46 rfl) (.inl rfl) rfl rfl ?_; clear hf a; intro a hf
         refine ⟨?_, ?_⟩
         ·refine mc_e rfl fun Q1 => ?_
          refine o_alloc hf hh Try.ze_46 ?_; clear hf hh a; intro B15 a w hf hh
          refine ops_end ?_
          refine then_n ⟨⟨fun _ _ => (AtE.of hh (by intro p hp; simp only [List.mem_cons, List.not_mem_nil, or_false] at hp; rcases hp with h | h <;> simp [h])), trivial⟩, ?_⟩
          refine mc_e rfl fun Q1 => ?_
          refine o_alloc hf hh Try.ze_46 ?_; clear hf hh a; intro B16 a w hf hh
          refine ops_end ?_
          refine then_n ⟨⟨fun _ _ => (AtE.of hh (by intro p hp; simp only [List.mem_cons, List.not_mem_nil, or_false] at hp; rcases hp with h | h <;> simp [h])), trivial⟩, ?_⟩
          refine mc_e rfl fun Q1 => ?_
          refine o_store hf hh Try.sz_46 fun w hh => ?_
          refine ops_end ?_
          refine then_n ⟨⟨fun _ _ => (AtE.of hh (by intro p hp; simp only [List.mem_cons, List.not_mem_nil, or_false] at hp; rcases hp with h | h <;> simp [h])), trivial⟩, ?_⟩
          refine mc_e rfl fun Q1 => ?_
          refine o_store hf hh Try.sz_46 fun w hh => ?_
          refine ops_end ?_
          refine then_n ⟨⟨fun h => Bool.noConfusion (show true = false from h), trivial⟩, ?_⟩
          refine mc_end ?_
          refine then_n ?_
          refine ⟨(B15, B16), ?_, hf.head ⟨rfl, rfl, True.intro⟩ (Keep.cons rfl (Keep.cons rfl (Keep.cons rfl (Keep.cons rfl (Keep.cons rfl (Keep.cons rfl (Keep.cons rfl (Keep.cons rfl (Keep.cons rfl (Keep.cons rfl (Keep.cons rfl (Keep.cons rfl (Keep.cons rfl (Keep.cons rfl (Keep.cons rfl (Keep.base))))))))))))))))⟩
          rw [getD_at hs, getD_at hrv]
          first
            | exact hh
            | exact hh.perm (.swap _ _ _)
         ·refine mc_e rfl fun Q1 => ?_
          refine o_alloc hf hh Try.ze_46 ?_; clear hf hh a; intro B16 a w hf hh
          refine ops_end ?_
          refine then_n ⟨⟨fun _ _ => (AtE.of hh (by intro p hp; simp only [List.mem_cons, List.not_mem_nil, or_false] at hp; rcases hp with h | h <;> simp [h])), trivial⟩, ?_⟩
          refine mc_e rfl fun Q1 => ?_
          refine o_alloc hf hh Try.ze_46 ?_; clear hf hh a; intro B15 a w hf hh
          refine ops_end ?_
          refine then_n ⟨⟨fun _ _ => (AtE.of hh (by intro p hp; simp only [List.mem_cons, List.not_mem_nil, or_false] at hp; rcases hp with h | h <;> simp [h])), trivial⟩, ?_⟩
          refine mc_e rfl fun Q1 => ?_
          refine o_store hf hh Try.sz_46 fun w hh => ?_
          refine ops_end ?_
          refine then_n ⟨⟨fun _ _ => (AtE.of hh (by intro p hp; simp only [List.mem_cons, List.not_mem_nil, or_false] at hp; rcases hp with h | h <;> simp [h])), trivial⟩, ?_⟩
          refine mc_e rfl fun Q1 => ?_
          refine o_store hf hh Try.sz_46 fun w hh => ?_
          refine ops_end ?_
          refine then_n ⟨⟨fun h => Bool.noConfusion (show true = false from h), trivial⟩, ?_⟩
          refine mc_end ?_
          refine then_n ?_
          refine ⟨(B15, B16), ?_, hf.head ⟨rfl, rfl, True.intro⟩ (Keep.cons rfl (Keep.cons rfl (Keep.cons rfl (Keep.cons rfl (Keep.cons rfl (Keep.cons rfl (Keep.cons rfl (Keep.cons rfl (Keep.cons rfl (Keep.cons rfl (Keep.cons rfl (Keep.cons rfl (Keep.cons rfl (Keep.cons rfl (Keep.cons rfl (Keep.base))))))))))))))))⟩
          rw [getD_at hs, getD_at hrv]
          first
            | exact hh
            | exact hh.perm (.swap _ _ _)
        ·rintro q a w hh hf
         obtain ⟨B15, B16⟩ := q; dsimp only at hh hf
         obtain ⟨s, hs⟩ := ex_of (l := c.si) (i := i) (by omega)
         obtain ⟨blk, off, cc, T, fr, esa, hb2, hc⟩ := hA.at_ i s hs
         have hsm := List.mem_of_getElem? hs
         have hso := hO.s s hsm
         have hil := len_of hs
         obtain ⟨t, ht⟩ := ex_of (l := c.si) (i := c.si.length - 1 - i) (by omega)
         obtain ⟨blk3, off3, cc3, T3, fr3, esa3, hb3, hc3⟩ := hA.at_ (c.si.length - 1 - i) t ht
         have htm := List.mem_of_getElem? ht
         have hto := hO.s t htm
         have hrv : c.si.reverse[i]? = some t := by rw [List.getElem?_reverse hil]; exact ht
         have hsl0 := hso.l false; have hsl1 := hso.l true; have hsm0 := hso.m false; have hsm1 := hso.m true; have hsh0 := hso.h false; have hsh1 := hso.h true
         simp only [loA, hiA, if_true, Bool.false_eq_true, if_false] at hsl0 hsl1 hsm0 hsm1 hsh0 hsh1
         have htf0 := hto.f0; have htf1 := hto.f1; have htt0 := hto.t0; have htt1 := hto.t1
         rw [getD_at hs, getD_at hrv] at hh
         refine sy_seq ?_
         replace hh : Hp u [] (((B16, .cells (siC t).toArray 46) :: (B15, .cells (siC s).toArray 46) :: [(B13, .cells #[.int .i64 c.n, .slice ob i cb] 24), (B12, .cells #[.int .i64 c.n, .slice oa i ca] 24), (B10, .cells #[.int .i64 (c.si.length : Nat)] 3), (B9, .cells #[.int .i64 (nn : Nat)] 3), (B7, .cells #[.int .u8 (zn : Nat)] 5), (B4, .cells (chC c sa cp) 24)]) ++ XA ++ XB) w := hh
         refine sy_treeC (.p 0 (.q 0 1 (.p 2 (.q 0 3 (.p 4 (.q 0 5 (.p 6 (.p 7 (.q 0 8 (.p 9 (.p 10 (.p 11 (.q 0 12 (.p 13 (.p 14 (.p 15 (.q 0 16 (.p 17 (.p 18 (.p 19 (.q 0 20 (.p 21 (.e1 22 (.e1 23 (.e1 24 (.p 25 (.e1 26 (.fin)))))))))))))))))))))))))))) [[26]] [(AtE u [] [(B15, .cells (siC s).toArray 46), (B12, .cells #[.int .i64 c.n, .slice oa i ca] 24)], [26])] Try.follows (by kernel_rfl) rfl hh (fun w hh => ?_)
         refine mc_p rfl   hf (yv_fieldAddr Try.fo_24_1 rfl) (.inl rfl) rfl rfl ?_; clear hf a; intro a hf
         refine mc_q rfl rfl (AtE.of hh (by intro p hp; simp only [List.mem_cons, List.not_mem_nil, or_false] at hp; rcases hp with h | h <;> simp [h])) hf (y_ld Try.sc_22 rfl) (.inl rfl) rfl rfl ?_; clear hf a; intro a hf
         refine mc_p rfl   hf (yv_fieldAddr Try.fo_46_1 rfl) (.inl rfl) rfl rfl ?_; clear hf a; intro a hf
         refine mc_q rfl rfl (AtE.of hh (by intro p hp; simp only [List.mem_cons, List.not_mem_nil, or_false] at hp; rcases hp with h | h <;> simp [h])) hf (y_ld Try.sc_3 rfl) (.inl rfl) rfl rfl ?_; clear hf a; intro a hf
         refine mc_p rfl   hf (yv_fieldAddr Try.fo_46_0 rfl) (.inl rfl) rfl rfl ?_; clear hf a; intro a hf
         refine mc_q rfl rfl (AtE.of hh (by intro p hp; simp only [List.mem_cons, List.not_mem_nil, or_false] at hp; rcases hp with h | h <;> simp [h])) hf (y_ld Try.sc_3 rfl) (.inl rfl) rfl rfl ?_; clear hf a; intro a hf
         refine mc_p rfl   hf (yv_fieldAddr Try.fo_46_2 rfl) (.inl rfl) rfl rfl ?_; clear hf a; intro a hf
         refine mc_p rfl   hf (yv_fieldAddr Try.fo_28_1 rfl) (.inl rfl) rfl rfl ?_; clear hf a; intro a hf
         refine mc_q rfl rfl (AtE.of hh (by intro p hp; simp only [List.mem_cons, List.not_mem_nil, or_false] at hp; rcases hp with h | h <;> simp [h])) hf (y_ld Try.sc_3 rfl) (.inl rfl) rfl rfl ?_; clear hf a; intro a hf
         refine mc_p rfl   hf (yv_neg rfl (by omega) (by omega)) (.inl rfl) rfl rfl ?_; clear hf a; intro a hf
         refine mc_p rfl   hf (yv_fieldAddr Try.fo_46_2 rfl) (.inl rfl) rfl rfl ?_; clear hf a; intro a hf
         refine mc_p rfl   hf (yv_fieldAddr Try.fo_28_0 rfl) (.inl rfl) rfl rfl ?_; clear hf a; intro a hf
         refine mc_q rfl rfl (AtE.of hh (by intro p hp; simp only [List.mem_cons, List.not_mem_nil, or_false] at hp; rcases hp with h | h <;> simp [h])) hf (y_ld Try.sc_3 rfl) (.inl rfl) rfl rfl ?_; clear hf a; intro a hf
         refine mc_p rfl   hf (yv_neg rfl (by omega) (by omega)) (.inl rfl) rfl rfl ?_; clear hf a; intro a hf
         refine mc_p rfl   hf (yv_fieldAddr Try.fo_46_3 rfl) (.inl rfl) rfl rfl ?_; clear hf a; intro a hf
         refine mc_p rfl   hf (yv_fieldAddr Try.fo_28_1 rfl) (.inl rfl) rfl rfl ?_; clear hf a; intro a hf
         refine mc_q rfl rfl (AtE.of hh (by intro p hp; simp only [List.mem_cons, List.not_mem_nil, or_false] at hp; rcases hp with h | h <;> simp [h])) hf (y_ld Try.sc_3 rfl) (.inl rfl) rfl rfl ?_; clear hf a; intro a hf
         refine mc_p rfl   hf (yv_neg rfl (by omega) (by omega)) (.inl rfl) rfl rfl ?_; clear hf a; intro a hf
         refine mc_p rfl   hf (yv_fieldAddr Try.fo_46_3 rfl) (.inl rfl) rfl rfl ?_; clear hf a; intro a hf
         refine mc_p rfl   hf (yv_fieldAddr Try.fo_28_0 rfl) (.inl rfl) rfl rfl ?_; clear hf a; intro a hf
         refine mc_q rfl rfl (AtE.of hh (by intro p hp; simp only [List.mem_cons, List.not_mem_nil, or_false] at hp; rcases hp with h | h <;> simp [h])) hf (y_ld Try.sc_3 rfl) (.inl rfl) rfl rfl ?_; clear hf a; intro a hf
         refine mc_p rfl   hf (yv_neg rfl (by omega) (by omega)) (.inl rfl) rfl rfl ?_; clear hf a; intro a hf
         refine mc_e rfl fun Q1 => ?_
         refine o_call hf Try.en_29 rfl rfl rfl (p29 _ _ _ _ _ _ _) ?_; clear hf a; intro v a w hR hf
         obtain ⟨rfl, hx⟩ := hR; replace hh := hh.more hx; clear hx
         refine ops_end ?_
         refine then_n ⟨⟨fun _ _ => (AtE.of hh (by intro p hp; simp only [List.mem_cons, List.not_mem_nil, or_false] at hp; rcases hp with h | h <;> simp [h])), trivial⟩, ?_⟩
         refine mc_e rfl fun Q1 => ?_
         refine ops_buildSl hf hh Try.bl_22_1 rfl rfl (.inl rfl) rfl ?_; clear hf hh; clear a; intro B105 a w hf hh
         refine ops_end ?_
         refine then_n ⟨⟨fun _ _ => (AtE.of hh (by intro p hp; simp only [List.mem_cons, List.not_mem_nil, or_false] at hp; rcases hp with h | h <;> simp [h])), trivial⟩, ?_⟩
         refine mc_e rfl fun Q1 => ?_
         refine ops_append (e := 46) (size := 6) (xs := ((c.si.take i).map flipS).flatMap siC) (X := XA) (Z := ((B16, Obj.cells (siC t).toArray 46) :: (B15, Obj.cells (siC s).toArray 46) :: [(B13, Obj.cells #[.int .i64 c.n, .slice ob i cb] 24), (B12, Obj.cells #[.int .i64 c.n, .slice oa i ca] 24), (B10, Obj.cells #[.int .i64 (c.si.length : Nat)] 3), (B9, Obj.cells #[.int .i64 (nn : Nat)] 3), (B7, Obj.cells #[.int .u8 (zn : Nat)] 5), (B4, Obj.cells (chC c sa cp) 24)]) ++ XB) (m := i) (q := 1) hf (hh.perm (.cons _ perm3)) Try.eb_22 rfl rfl hOA rfl rfl rfl (by simp only [maxLen]; omega) (by omega) (.inl rfl) rfl ?_; clear hf hh a; intro v106 XA2 a w hOA2 hf hh
         replace hOA2 : OwnSl 46 6 v106 (i + 1) (((c.si.take (i + 1)).map flipS).flatMap siC) XA2 := by rw [tk_map hs, List.flatMap_append]; exact hOA2
         obtain ⟨oa2, ca2, rfl⟩ := own_val hOA2
         replace hh : Hp u [] (((B16, .cells (siC t).toArray 46) :: (B15, .cells (siC s).toArray 46) :: [(B13, .cells #[.int .i64 c.n, .slice ob i cb] 24), (B12, .cells #[.int .i64 c.n, .slice oa i ca] 24), (B10, .cells #[.int .i64 (c.si.length : Nat)] 3), (B9, .cells #[.int .i64 (nn : Nat)] 3), (B7, .cells #[.int .u8 (zn : Nat)] 5), (B4, .cells (chC c sa cp) 24)]) ++ XA2 ++ XB) w := hh.perm perm3.symm
         refine ops_end ?_
         refine then_n ⟨⟨fun _ _ => (AtE.of hh (by intro p hp; simp only [List.mem_cons, List.not_mem_nil, or_false] at hp; rcases hp with h | h <;> simp [h])), trivial⟩, ?_⟩
         refine mc_p rfl   hf (yv_fieldAddr Try.fo_24_1 rfl) (.inl rfl) rfl rfl ?_; clear hf a; intro a hf
         refine mc_e rfl fun Q1 => ?_
         refine o_store hf hh Try.sz_22 fun w hh => ?_
         refine ops_end ?_
         refine then_n ⟨⟨fun h => Bool.noConfusion (show true = false from h), trivial⟩, ?_⟩
         refine mc_end ?_
         refine then_n ?_
         replace hh : Hp u [] (((B16, .cells (siC t).toArray 46) :: (B15, .cells (siC s).toArray 46) :: [(B13, .cells #[.int .i64 c.n, .slice ob i cb] 24), (B12, .cells #[.int .i64 c.n, .slice oa2 (i + 1) ca2] 24), (B10, .cells #[.int .i64 (c.si.length : Nat)] 3), (B9, .cells #[.int .i64 (nn : Nat)] 3), (B7, .cells #[.int .u8 (zn : Nat)] 5), (B4, .cells (chC c sa cp) 24)]) ++ XA2 ++ XB) w := hh
         refine sy_treeC (.p 0 (.q 0 1 (.p 2 (.p 3 (.q 0 4 (.p 6 (.p 7 (.q 0 8 (.p 10 (.q 0 11 (.p 12 (.q 0 13 (.e1 5 (.e1 9 (.p 14 (.e1 15 (.e1 16 (.p 17 (.e1 18 (.fin)))))))))))))))))))) [[18]] [(AtE u [] [(B16, .cells (siC t).toArray 46), (B13, .cells #[.int .i64 c.n, .slice ob i cb] 24)], [18])] Try.follows (by kernel_rfl) rfl hh (fun w hh => ?_)
         refine mc_p rfl   hf (yv_fieldAddr Try.fo_24_1 rfl) (.inl rfl) rfl rfl ?_; clear hf a; intro a hf
         refine mc_q rfl rfl (AtE.of hh (by intro p hp; simp only [List.mem_cons, List.not_mem_nil, or_false] at hp; rcases hp with h | h <;> simp [h])) hf (y_ld Try.sc_22 rfl) (.inl rfl) rfl rfl ?_; clear hf a; intro a hf
         refine mc_p rfl   hf (yv_move rfl) (.inl rfl) rfl rfl ?_; clear hf a; intro a hf
         refine mc_p rfl   hf (yv_fieldAddr Try.fo_46_0 rfl) (.inl rfl) rfl rfl ?_; clear hf a; intro a hf
         refine mc_q rfl rfl (AtE.of hh (by intro p hp; simp only [List.mem_cons, List.not_mem_nil, or_false] at hp; rcases hp with h | h <;> simp [h])) hf (y_ld Try.sc_3 rfl) (.inl rfl) rfl rfl ?_; clear hf a; intro a hf
         refine mc_p rfl   hf (yv_move rfl) (.inl rfl) rfl rfl ?_; clear hf a; intro a hf
         refine mc_p rfl   hf (yv_fieldAddr Try.fo_46_1 rfl) (.inl rfl) rfl rfl ?_; clear hf a; intro a hf
         refine mc_q rfl rfl (AtE.of hh (by intro p hp; simp only [List.mem_cons, List.not_mem_nil, or_false] at hp; rcases hp with h | h <;> simp [h])) hf (y_ld Try.sc_3 rfl) (.inl rfl) rfl rfl ?_; clear hf a; intro a hf
         refine mc_p rfl   hf (yv_fieldAddr Try.fo_46_2 rfl) (.inl rfl) rfl rfl ?_; clear hf a; intro a hf
         refine mc_q rfl rfl (AtE.of hh (by intro p hp; simp only [List.mem_cons, List.not_mem_nil, or_false] at hp; rcases hp with h | h <;> simp [h])) hf (y_lds Try.ag_28 rfl) (.inl rfl) rfl rfl ?_; clear hf a; intro a hf
         refine mc_p rfl   hf (yv_fieldAddr Try.fo_46_3 rfl) (.inl rfl) rfl rfl ?_; clear hf a; intro a hf
         refine mc_q rfl rfl (AtE.of hh (by intro p hp; simp only [List.mem_cons, List.not_mem_nil, or_false] at hp; rcases hp with h | h <;> simp [h])) hf (y_lds Try.ag_28 rfl) (.inl rfl) rfl rfl ?_; clear hf a; intro a hf
         refine mc_e rfl fun Q1 => ?_
         refine o_call hf Try.en_38 rfl rfl rfl (p38 t.fr zn nn B7 B9 _ (hh.at (i := 6) rfl) (hh.at (i := 5) rfl) ⟨by omega, by omega⟩ (by omega) ⟨by omega, by omega⟩) ?_; clear hf a; intro v a w hR hf
         rw [← hσ] at hR
         obtain ⟨rfl, hx⟩ := hR; replace hh := hh.more hx; clear hx
         refine ops_end ?_
         refine then_n ⟨⟨fun _ _ => (AtE.of hh (by intro p hp; simp only [List.mem_cons, List.not_mem_nil, or_false] at hp; rcases hp with h | h <;> simp [h])), trivial⟩, ?_⟩
         refine mc_e rfl fun Q1 => ?_
         refine o_call hf Try.en_38 rfl rfl rfl (p38 t.to zn nn B7 B9 _ (hh.at (i := 6) rfl) (hh.at (i := 5) rfl) ⟨by omega, by omega⟩ (by omega) ⟨by omega, by omega⟩) ?_; clear hf a; intro v a w hR hf
         rw [← hσ] at hR
         obtain ⟨rfl, hx⟩ := hR; replace hh := hh.more hx; clear hx
         refine ops_end ?_
         refine then_n ⟨⟨fun _ _ => (AtE.of hh (by intro p hp; simp only [List.mem_cons, List.not_mem_nil, or_false] at hp; rcases hp with h | h <;> simp [h])), trivial⟩, ?_⟩
         refine mc_p rfl   hf (yv_buildS Try.bs_46 rfl rfl) (.inl rfl) rfl rfl ?_; clear hf a; intro a hf
         refine mc_e rfl fun Q1 => ?_
         refine ops_buildSl hf hh Try.bl_22_1 rfl rfl (.inl rfl) rfl ?_; clear hf hh; clear a; intro B123 a w hf hh
         refine ops_end ?_
         refine then_n ⟨⟨fun _ _ => (AtE.of hh (by intro p hp; simp only [List.mem_cons, List.not_mem_nil, or_false] at hp; rcases hp with h | h <;> simp [h])), trivial⟩, ?_⟩
         refine mc_e rfl fun Q1 => ?_
         refine ops_append (e := 46) (size := 6) (xs := ((c.si.reverse.take i).map (renS σ)).flatMap siC) (X := XB) (Z := ((B16, Obj.cells (siC t).toArray 46) :: (B15, Obj.cells (siC s).toArray 46) :: [(B13, Obj.cells #[.int .i64 c.n, .slice ob i cb] 24), (B12, Obj.cells #[.int .i64 c.n, .slice oa2 (i + 1) ca2] 24), (B10, Obj.cells #[.int .i64 (c.si.length : Nat)] 3), (B9, Obj.cells #[.int .i64 (nn : Nat)] 3), (B7, Obj.cells #[.int .u8 (zn : Nat)] 5), (B4, Obj.cells (chC c sa cp) 24)]) ++ XA2) (m := i) (q := 1) hf (hh.perm (.cons _ List.perm_append_comm)) Try.eb_22 rfl rfl hOB rfl rfl rfl (by simp only [maxLen]; omega) (by omega) (.inl rfl) rfl ?_; clear hf hh a; intro v124 XB2 a w hOB2 hf hh
         replace hOB2 : OwnSl 46 6 v124 (i + 1) (((c.si.reverse.take (i + 1)).map (renS σ)).flatMap siC) XB2 := by rw [tk_map hrv, List.flatMap_append]; exact hOB2
         obtain ⟨ob2, cb2, rfl⟩ := own_val hOB2
         replace hh : Hp u [] (((B16, .cells (siC t).toArray 46) :: (B15, .cells (siC s).toArray 46) :: [(B13, .cells #[.int .i64 c.n, .slice ob i cb] 24), (B12, .cells #[.int .i64 c.n, .slice oa2 (i + 1) ca2] 24), (B10, .cells #[.int .i64 (c.si.length : Nat)] 3), (B9, .cells #[.int .i64 (nn : Nat)] 3), (B7, .cells #[.int .u8 (zn : Nat)] 5), (B4, .cells (chC c sa cp) 24)]) ++ XA2 ++ XB2) w := hh.perm List.perm_append_comm
         refine ops_end ?_
         refine then_n ⟨⟨fun _ _ => (AtE.of hh (by intro p hp; simp only [List.mem_cons, List.not_mem_nil, or_false] at hp; rcases hp with h | h <;> simp [h])), trivial⟩, ?_⟩
         refine mc_p rfl   hf (yv_fieldAddr Try.fo_24_1 rfl) (.inl rfl) rfl rfl ?_; clear hf a; intro a hf
         refine mc_e rfl fun Q1 => ?_
         refine o_store hf hh Try.sz_22 fun w hh => ?_
         refine ops_end ?_
         refine then_n ⟨⟨fun h => Bool.noConfusion (show true = false from h), trivial⟩, ?_⟩
         refine mc_end ?_
         refine blk_n ?_
         refine then_n ?_
         refine sy_ops ?_
         refine o_v hf hh (y_add rfl rfl) ?_; clear hf a; intro a hf
         refine o_v hf hh (yv_move rfl) ?_; clear hf a; intro a hf
         refine ops_end ?_
         refine then_n ?_
         exact ⟨(i + 1, (oa2, ca2, XA2), ob2, cb2, XB2), ⟨⟨by simp only; omega, hOA2, hOB2, hh.less (.cons _ (.cons _ (.refl _)))⟩, (hf.head (by repeat' (first | exact True.intro | refine And.intro rfl ?_)) (Keep.cons rfl (Keep.cons rfl (Keep.cons rfl (Keep.cons rfl (Keep.cons rfl (Keep.cons rfl (Keep.cons rfl (Keep.cons rfl (Keep.cons rfl (Keep.cons rfl (Keep.cons rfl (Keep.cons rfl (Keep.cons rfl (Keep.cons rfl (Keep.cons rfl (Keep.cons rfl (Keep.cons rfl (Keep.cons rfl (Keep.cons rfl (Keep.cons rfl (Keep.cons rfl (Keep.cons rfl (Keep.cons rfl (Keep.cons rfl (Keep.cons rfl (Keep.cons rfl (Keep.cons rfl (Keep.cons rfl (Keep.cons rfl (Keep.cons rfl (Keep.cons rfl (Keep.cons rfl (Keep.cons rfl (Keep.cons rfl (Keep.cons rfl (Keep.cons rfl (Keep.cons rfl (Keep.cons rfl (Keep.cons rfl (Keep.cons rfl (Keep.cons rfl (Keep.cons rfl (Keep.cons rfl (Keep.cons rfl (Keep.cons rfl (Keep.cons rfl (Keep.app rfl (Keep.rm rfl (Keep.cons rfl (Keep.cons rfl (Keep.cons rfl (Keep.app rfl (Keep.rm rfl Keep.base))))))))))))))))))))))))))))))))))))))))))))))))))))))⟩, by simp only; omega⟩
       ·have hG8 := hg8; try simp only [gS] at hG8
        refine sy_exit ?_
        refine then_e ?_
        refine then_e ?_
        refine blk_e ?_
        refine then_n ?_
        refine sy_seq ?_
        obtain rfl : i = c.si.length := by omega
        rw [List.take_length] at hOA
        rw [show c.si.reverse.take c.si.length = c.si.reverse by rw [← hrl, List.take_length]] at hOB
        have hla : (flipC c).si.length = c.si.length := List.length_map _
        have hlb : (renC c σ).si.length = c.si.length := ren_len c σ
        replace hh : Hp u [] ([(B13, .cells (chC (renC c σ) ob cb) 24), (B12, .cells (chC (flipC c) oa ca) 24), (B10, .cells #[.int .i64 (c.si.length : Nat)] 3), (B9, .cells #[.int .i64 (nn : Nat)] 3), (B7, .cells #[.int .u8 (zn : Nat)] 5), (B4, .cells (chC c sa cp) 24)] ++ XA ++ XB) w := by unfold chC; rw [hla, hlb]; exact hh
        have hDA : ∀ w2 : World, (∀ q ∈ XA, w2.heap[q.1]? = some q.2) → ChAt w2 (flipC c) oa := fun w2 hw2 => ok_at (flip_ok hO) (own_tat siC_len hOA hla.symm hw2)
        have hDB : ∀ w2 : World, (∀ q ∈ XB, w2.heap[q.1]? = some q.2) → ChAt w2 (renC c σ) ob := fun w2 hw2 => ok_at (ren_ok hO hs9) (own_tat siC_len hOB hlb.symm hw2)
        obtain ⟨f1, f2, f3, f4⟩ := flip_two hcb
        obtain ⟨f5, f6⟩ := flip_idl2 hcb
        obtain ⟨r1, r2, r3, r4, r5, r6⟩ := ren_two hcb hs9
        have wl := why_lt hcb; have dl := drp_lt hcb
        have wl2 := why_lt (chB_iff.2 (ren_ok hO hs9)); have dl2 := drp_lt (chB_iff.2 (ren_ok hO hs9))
        rw [hlb] at wl2 dl2
        have il : idlV c ≤ 1024 := by
          by_cases h0 : idlE c = 0
          · have := (idl_v h0).2.2.2.1; omega
          · rw [(idl_e h0).1]; omega
        refine sy_ops ?_
        refine o_v hf hh (yv_makeFunc rfl rfl) ?_; clear hf a; intro a hf
        refine o_v hf hh (yv_assign rfl) ?_; clear hf a; intro a hf
        refine o_end ?_
        refine sy_sq ?_
        refine o_v hf hh (y_lds Try.ag_24 rfl) ?_; clear hf a; intro a hf
        refine o_call hf Try.en_24 rfl rfl rfl (p24 c sa cp _ (hA.ext hh.ext)) ?_; clear hf a; intro v a w hR hf
        obtain ⟨rfl, hx⟩ := hR; replace hh := hh.more hx; clear hx
        refine o_v hf hh (yv_move rfl) ?_; clear hf a; intro a hf
        refine o_v hf hh (yv_extract rfl rfl) ?_; clear hf a; intro a hf
        refine o_v hf hh (yv_extract rfl rfl) ?_; clear hf a; intro a hf
        refine o_v hf hh (yv_assign rfl) ?_; clear hf a; intro a hf
        refine o_v hf hh (yv_assign rfl) ?_; clear hf a; intro a hf
        refine o_end ?_
        refine sy_sq ?_
        refine o_v hf hh (y_lds Try.ag_24 rfl) ?_; clear hf a; intro a hf
        refine o_call hf Try.en_26 rfl rfl rfl (p26 c sa cp _ (hA.ext hh.ext)) ?_; clear hf a; intro v a w hR hf
        obtain ⟨rfl, hx⟩ := hR; replace hh := hh.more hx; clear hx
        refine o_v hf hh (yv_move rfl) ?_; clear hf a; intro a hf
        refine o_v hf hh (yv_extract rfl rfl) ?_; clear hf a; intro a hf
        refine o_v hf hh (yv_extract rfl rfl) ?_; clear hf a; intro a hf
        refine o_v hf hh (yv_assign rfl) ?_; clear hf a; intro a hf
        refine o_v hf hh (yv_assign rfl) ?_; clear hf a; intro a hf
        refine o_end ?_
        refine sy_sq ?_
        refine o_v hf hh (y_lds Try.ag_24 rfl) ?_; clear hf a; intro a hf
        refine o_call hf Try.en_21 rfl rfl rfl (p21 c sa cp _ (hA.ext hh.ext)) ?_; clear hf a; intro v a w hR hf
        obtain ⟨rfl, hx⟩ := hR; replace hh := hh.more hx; clear hx
        refine o_v hf hh (yv_move rfl) ?_; clear hf a; intro a hf
        refine o_v hf hh (yv_extract rfl rfl) ?_; clear hf a; intro a hf
        refine o_v hf hh (yv_extract rfl rfl) ?_; clear hf a; intro a hf
        refine o_v hf hh (yv_assign rfl) ?_; clear hf a; intro a hf
        refine o_v hf hh (yv_assign rfl) ?_; clear hf a; intro a hf
        refine o_end ?_
        refine sy_sq ?_
        refine o_v hf hh (y_lds Try.ag_24 rfl) ?_; clear hf a; intro a hf
        refine o_call hf Try.en_24 rfl rfl rfl (p24 (flipC c) oa ca _ (hDA _ (fun q hq => hh.get q (by simp [hq])))) ?_; clear hf a; intro v a w hR hf
        obtain ⟨rfl, hx⟩ := hR; replace hh := hh.more hx; clear hx
        refine o_v hf hh (yv_move rfl) ?_; clear hf a; intro a hf
        refine o_v hf hh (yv_extract rfl rfl) ?_; clear hf a; intro a hf
        refine o_v hf hh (yv_extract rfl rfl) ?_; clear hf a; intro a hf
        refine o_v hf hh (yv_assign rfl) ?_; clear hf a; intro a hf
        refine o_v hf hh (yv_assign rfl) ?_; clear hf a; intro a hf
        refine o_end ?_
        refine sy_sq ?_
        refine o_v hf hh (y_lds Try.ag_24 rfl) ?_; clear hf a; intro a hf
        refine o_call hf Try.en_26 rfl rfl rfl (p26 (flipC c) oa ca _ (hDA _ (fun q hq => hh.get q (by simp [hq])))) ?_; clear hf a; intro v a w hR hf
        obtain ⟨rfl, hx⟩ := hR; replace hh := hh.more hx; clear hx
        refine o_v hf hh (yv_move rfl) ?_; clear hf a; intro a hf
        refine o_v hf hh (yv_extract rfl rfl) ?_; clear hf a; intro a hf
        refine o_v hf hh (yv_extract rfl rfl) ?_; clear hf a; intro a hf
        refine o_v hf hh (yv_assign rfl) ?_; clear hf a; intro a hf
        refine o_v hf hh (yv_assign rfl) ?_; clear hf a; intro a hf
        refine o_end ?_
        refine sy_sq ?_
        refine o_v hf hh (y_lds Try.ag_24 rfl) ?_; clear hf a; intro a hf
        refine o_call hf Try.en_21 rfl rfl rfl (p21 (flipC c) oa ca _ (hDA _ (fun q hq => hh.get q (by simp [hq])))) ?_; clear hf a; intro v a w hR hf
        obtain ⟨rfl, hx⟩ := hR; replace hh := hh.more hx; clear hx
        refine o_v hf hh (yv_move rfl) ?_; clear hf a; intro a hf
        refine o_v hf hh (yv_extract rfl rfl) ?_; clear hf a; intro a hf
        refine o_v hf hh (yv_extract rfl rfl) ?_; clear hf a; intro a hf
        refine o_v hf hh (yv_assign rfl) ?_; clear hf a; intro a hf
        refine o_v hf hh (yv_assign rfl) ?_; clear hf a; intro a hf
        refine o_end ?_
        refine sy_sq ?_
        refine o_v hf hh (y_lds Try.ag_24 rfl) ?_; clear hf a; intro a hf
        refine o_call hf Try.en_24 rfl rfl rfl (p24 (renC c σ) ob cb _ (hDB _ (fun q hq => hh.get q (by simp [hq])))) ?_; clear hf a; intro v a w hR hf
        obtain ⟨rfl, hx⟩ := hR; replace hh := hh.more hx; clear hx
        refine o_v hf hh (yv_move rfl) ?_; clear hf a; intro a hf
        refine o_v hf hh (yv_extract rfl rfl) ?_; clear hf a; intro a hf
        refine o_v hf hh (yv_extract rfl rfl) ?_; clear hf a; intro a hf
        refine o_v hf hh (yv_assign rfl) ?_; clear hf a; intro a hf
        refine o_v hf hh (yv_assign rfl) ?_; clear hf a; intro a hf
        refine o_end ?_
        refine sy_sq ?_
        refine o_v hf hh (y_lds Try.ag_24 rfl) ?_; clear hf a; intro a hf
        refine o_call hf Try.en_26 rfl rfl rfl (p26 (renC c σ) ob cb _ (hDB _ (fun q hq => hh.get q (by simp [hq])))) ?_; clear hf a; intro v a w hR hf
        obtain ⟨rfl, hx⟩ := hR; replace hh := hh.more hx; clear hx
        refine o_v hf hh (yv_move rfl) ?_; clear hf a; intro a hf
        refine o_v hf hh (yv_extract rfl rfl) ?_; clear hf a; intro a hf
        refine o_v hf hh (yv_extract rfl rfl) ?_; clear hf a; intro a hf
        refine o_v hf hh (yv_assign rfl) ?_; clear hf a; intro a hf
        refine o_v hf hh (yv_assign rfl) ?_; clear hf a; intro a hf
        refine o_end ?_
        refine sy_sq ?_
        refine o_v hf hh (y_lds Try.ag_24 rfl) ?_; clear hf a; intro a hf
        refine o_call hf Try.en_21 rfl rfl rfl (p21 (renC c σ) ob cb _ (hDB _ (fun q hq => hh.get q (by simp [hq])))) ?_; clear hf a; intro v a w hR hf
        obtain ⟨rfl, hx⟩ := hR; replace hh := hh.more hx; clear hx
        refine o_v hf hh (yv_move rfl) ?_; clear hf a; intro a hf
        refine o_v hf hh (yv_extract rfl rfl) ?_; clear hf a; intro a hf
        refine o_v hf hh (yv_extract rfl rfl) ?_; clear hf a; intro a hf
        refine o_v hf hh (yv_assign rfl) ?_; clear hf a; intro a hf
        refine o_v hf hh (yv_assign rfl) ?_; clear hf a; intro a hf
        refine o_end ?_
        refine sy_seq ?_
        refine sy_sq ?_
        refine o_v hf hh (yv_move rfl) ?_; clear hf a; intro a hf
        refine o_v hf hh (yv_move rfl) ?_; clear hf a; intro a hf
        refine o_v hf hh (yv_bin rfl rfl rfl) ?_; clear hf a; intro a hf
        refine o_v hf hh (yv_move rfl) ?_; clear hf a; intro a hf
        refine guard_split hf (t := 176) rfl (fun hg45 => ?_) (fun hg45 => ?_)
        ·have hG45 := hg45; try simp only [gS] at hG45
         refine o_off hf ?_; clear hf a; intro a hf
         refine o_off hf ?_; clear hf a; intro a hf
         refine o_off hf ?_; clear hf a; intro a hf
         refine o_v hf hh (y_pt rfl rfl) ?_; clear hf a; intro a hf
         refine o_v hf hh (yv_move rfl) ?_; clear hf a; intro a hf
         refine o_off hf ?_; clear hf a; intro a hf
         refine o_off hf ?_; clear hf a; intro a hf
         refine o_off hf ?_; clear hf a; intro a hf
         refine o_v hf hh (y_pt rfl rfl) ?_; clear hf a; intro a hf
         refine o_v hf hh (yv_move rfl) ?_; clear hf a; intro a hf
         refine o_off hf ?_; clear hf a; intro a hf
         refine o_off hf ?_; clear hf a; intro a hf
         refine o_off hf ?_; clear hf a; intro a hf
         refine o_v hf hh (y_pt rfl rfl) ?_; clear hf a; intro a hf
         refine o_v hf hh (yv_move rfl) ?_; clear hf a; intro a hf
         refine o_off hf ?_; clear hf a; intro a hf
         refine o_off hf ?_; clear hf a; intro a hf
         refine o_off hf ?_; clear hf a; intro a hf
         refine o_v hf hh (y_pt rfl rfl) ?_; clear hf a; intro a hf
         refine o_v hf hh (yv_move rfl) ?_; clear hf a; intro a hf
         refine o_off hf ?_; clear hf a; intro a hf
         refine o_off hf ?_; clear hf a; intro a hf
         refine o_off hf ?_; clear hf a; intro a hf
         refine o_v hf hh (y_pt rfl rfl) ?_; clear hf a; intro a hf
         refine o_v hf hh (yv_move rfl) ?_; clear hf a; intro a hf
         refine o_off hf ?_; clear hf a; intro a hf
         refine o_off hf ?_; clear hf a; intro a hf
         refine o_off hf ?_; clear hf a; intro a hf
         refine o_v hf hh (y_pt rfl rfl) ?_; clear hf a; intro a hf
         refine o_v hf hh (yv_move rfl) ?_; clear hf a; intro a hf
         refine o_off hf ?_; clear hf a; intro a hf
         refine o_off hf ?_; clear hf a; intro a hf
         refine o_off hf ?_; clear hf a; intro a hf
         refine o_v hf hh (y_pt rfl rfl) ?_; clear hf a; intro a hf
         refine o_v hf hh (yv_move rfl) ?_; clear hf a; intro a hf
         refine o_off hf ?_; clear hf a; intro a hf
         refine o_off hf ?_; clear hf a; intro a hf
         refine o_off hf ?_; clear hf a; intro a hf
         refine o_v hf hh (y_pt rfl rfl) ?_; clear hf a; intro a hf
         refine o_v hf hh (yv_move rfl) ?_; clear hf a; intro a hf
         refine o_off hf ?_; clear hf a; intro a hf
         refine o_off hf ?_; clear hf a; intro a hf
         refine o_v hf hh (y_pt rfl rfl) ?_; clear hf a; intro a hf
         refine o_v hf hh (yv_move rfl) ?_; clear hf a; intro a hf
         refine o_off hf ?_; clear hf a; intro a hf
         refine o_off hf ?_; clear hf a; intro a hf
         refine o_v hf hh (y_pt rfl rfl) ?_; clear hf a; intro a hf
         refine o_v hf hh (yv_move rfl) ?_; clear hf a; intro a hf
         refine o_off hf ?_; clear hf a; intro a hf
         refine o_off hf ?_; clear hf a; intro a hf
         refine o_v hf hh (y_pt rfl rfl) ?_; clear hf a; intro a hf
         refine o_v hf hh (yv_move rfl) ?_; clear hf a; intro a hf
         refine o_off hf ?_; clear hf a; intro a hf
         refine o_off hf ?_; clear hf a; intro a hf
         refine o_v hf hh (y_pt rfl rfl) ?_; clear hf a; intro a hf
         refine o_v hf hh (yv_move rfl) ?_; clear hf a; intro a hf
         refine o_off hf ?_; clear hf a; intro a hf
         refine o_off hf ?_; clear hf a; intro a hf
         refine o_off hf ?_; clear hf a; intro a hf
         refine o_off hf ?_; clear hf a; intro a hf
         refine o_off hf ?_; clear hf a; intro a hf
         refine o_v hf hh (y_pt rfl rfl) ?_; clear hf a; intro a hf
         refine o_v hf hh (yv_move rfl) ?_; clear hf a; intro a hf
         refine o_off hf ?_; clear hf a; intro a hf
         refine o_off hf ?_; clear hf a; intro a hf
         refine o_off hf ?_; clear hf a; intro a hf
         refine o_off hf ?_; clear hf a; intro a hf
         refine o_off hf ?_; clear hf a; intro a hf
         refine o_v hf hh (y_pt rfl rfl) ?_; clear hf a; intro a hf
         refine o_v hf hh (yv_move rfl) ?_; clear hf a; intro a hf
         refine o_off hf ?_; clear hf a; intro a hf
         refine o_off hf ?_; clear hf a; intro a hf
         refine o_off hf ?_; clear hf a; intro a hf
         refine o_off hf ?_; clear hf a; intro a hf
         refine o_off hf ?_; clear hf a; intro a hf
         refine o_v hf hh (y_pt rfl rfl) ?_; clear hf a; intro a hf
         refine o_end ?_
         refine c_t hf ?_
         refine sy_sq ?_
         refine o_v hf hh (yv_assign rfl) ?_; clear hf a; intro a hf
         refine o_end ?_
         refine sy_ret ?_
         refine then_r ?_
         refine ret_r hf rfl rfl ?_
         first
           | exact ⟨rfl, hh.ext⟩
           | (exfalso
              (repeat (rename Fr _ _ _ _ => z9; clear z9))
              (repeat (rename Hp _ _ _ _ => z9; clear z9))
              (try clear hcn); (try clear hat); (try clear hbe)
              first
                | (rcases hK with ⟨h1, h2, h3⟩ | ⟨h1, h2, h3⟩ | ⟨h1, h2, h3⟩ <;> first | (omega; done) | (simp_all; done))
                | (omega; done)
                | (simp_all; done)
                | (simp_all <;> omega))
        ·have hG45 := hg45; try simp only [gS] at hG45
         refine o_v hf hh (yv_move rfl) ?_; clear hf a; intro a hf
         refine o_v hf hh (yv_move rfl) ?_; clear hf a; intro a hf
         refine o_v hf hh (yv_bin rfl rfl rfl) ?_; clear hf a; intro a hf
         refine o_v hf hh (y_pf rfl rfl) ?_; clear hf a; intro a hf
         refine o_v hf hh (yv_move rfl) ?_; clear hf a; intro a hf
         refine guard_split hf (t := 181) rfl (fun hg47 => ?_) (fun hg47 => ?_)
         ·have hG47 := hg47; try simp only [gS] at hG47
          refine o_off hf ?_; clear hf a; intro a hf
          refine o_off hf ?_; clear hf a; intro a hf
          refine o_off hf ?_; clear hf a; intro a hf
          refine o_v hf hh (y_pt rfl rfl) ?_; clear hf a; intro a hf
          refine o_v hf hh (yv_move rfl) ?_; clear hf a; intro a hf
          refine o_off hf ?_; clear hf a; intro a hf
          refine o_off hf ?_; clear hf a; intro a hf
          refine o_off hf ?_; clear hf a; intro a hf
          refine o_v hf hh (y_pt rfl rfl) ?_; clear hf a; intro a hf
          refine o_v hf hh (yv_move rfl) ?_; clear hf a; intro a hf
          refine o_off hf ?_; clear hf a; intro a hf
          refine o_off hf ?_; clear hf a; intro a hf
          refine o_off hf ?_; clear hf a; intro a hf
          refine o_v hf hh (y_pt rfl rfl) ?_; clear hf a; intro a hf
          refine o_v hf hh (yv_move rfl) ?_; clear hf a; intro a hf
          refine o_off hf ?_; clear hf a; intro a hf
          refine o_off hf ?_; clear hf a; intro a hf
          refine o_off hf ?_; clear hf a; intro a hf
          refine o_v hf hh (y_pt rfl rfl) ?_; clear hf a; intro a hf
          refine o_v hf hh (yv_move rfl) ?_; clear hf a; intro a hf
          refine o_off hf ?_; clear hf a; intro a hf
          refine o_off hf ?_; clear hf a; intro a hf
          refine o_off hf ?_; clear hf a; intro a hf
          refine o_v hf hh (y_pt rfl rfl) ?_; clear hf a; intro a hf
          refine o_v hf hh (yv_move rfl) ?_; clear hf a; intro a hf
          refine o_off hf ?_; clear hf a; intro a hf
          refine o_off hf ?_; clear hf a; intro a hf
          refine o_off hf ?_; clear hf a; intro a hf
          refine o_v hf hh (y_pt rfl rfl) ?_; clear hf a; intro a hf
          refine o_v hf hh (yv_move rfl) ?_; clear hf a; intro a hf
          refine o_off hf ?_; clear hf a; intro a hf
          refine o_off hf ?_; clear hf a; intro a hf
          refine o_off hf ?_; clear hf a; intro a hf
          refine o_v hf hh (y_pt rfl rfl) ?_; clear hf a; intro a hf
          refine o_v hf hh (yv_move rfl) ?_; clear hf a; intro a hf
          refine o_off hf ?_; clear hf a; intro a hf
          refine o_off hf ?_; clear hf a; intro a hf
          refine o_v hf hh (y_pt rfl rfl) ?_; clear hf a; intro a hf
          refine o_v hf hh (yv_move rfl) ?_; clear hf a; intro a hf
          refine o_off hf ?_; clear hf a; intro a hf
          refine o_off hf ?_; clear hf a; intro a hf
          refine o_v hf hh (y_pt rfl rfl) ?_; clear hf a; intro a hf
          refine o_v hf hh (yv_move rfl) ?_; clear hf a; intro a hf
          refine o_off hf ?_; clear hf a; intro a hf
          refine o_off hf ?_; clear hf a; intro a hf
          refine o_v hf hh (y_pt rfl rfl) ?_; clear hf a; intro a hf
          refine o_v hf hh (yv_move rfl) ?_; clear hf a; intro a hf
          refine o_off hf ?_; clear hf a; intro a hf
          refine o_off hf ?_; clear hf a; intro a hf
          refine o_v hf hh (y_pt rfl rfl) ?_; clear hf a; intro a hf
          refine o_v hf hh (yv_move rfl) ?_; clear hf a; intro a hf
          refine o_off hf ?_; clear hf a; intro a hf
          refine o_off hf ?_; clear hf a; intro a hf
          refine o_off hf ?_; clear hf a; intro a hf
          refine o_off hf ?_; clear hf a; intro a hf
          refine o_off hf ?_; clear hf a; intro a hf
          refine o_v hf hh (y_pt rfl rfl) ?_; clear hf a; intro a hf
          refine o_v hf hh (yv_move rfl) ?_; clear hf a; intro a hf
          refine o_off hf ?_; clear hf a; intro a hf
          refine o_off hf ?_; clear hf a; intro a hf
          refine o_off hf ?_; clear hf a; intro a hf
          refine o_off hf ?_; clear hf a; intro a hf
          refine o_off hf ?_; clear hf a; intro a hf
          refine o_v hf hh (y_pt rfl rfl) ?_; clear hf a; intro a hf
          refine o_v hf hh (yv_move rfl) ?_; clear hf a; intro a hf
          refine o_off hf ?_; clear hf a; intro a hf
          refine o_off hf ?_; clear hf a; intro a hf
          refine o_off hf ?_; clear hf a; intro a hf
          refine o_off hf ?_; clear hf a; intro a hf
          refine o_off hf ?_; clear hf a; intro a hf
          refine o_v hf hh (y_pt rfl rfl) ?_; clear hf a; intro a hf
          refine o_end ?_
          refine c_t hf ?_
          refine sy_sq ?_
          refine o_v hf hh (yv_assign rfl) ?_; clear hf a; intro a hf
          refine o_end ?_
          refine sy_ret ?_
          refine then_r ?_
          refine ret_r hf rfl rfl ?_
          first
            | exact ⟨rfl, hh.ext⟩
            | (exfalso
               (repeat (rename Fr _ _ _ _ => z9; clear z9))
               (repeat (rename Hp _ _ _ _ => z9; clear z9))
               (try clear hcn); (try clear hat); (try clear hbe)
               first
                 | (rcases hK with ⟨h1, h2, h3⟩ | ⟨h1, h2, h3⟩ | ⟨h1, h2, h3⟩ <;> first | (omega; done) | (simp_all; done))
                 | (omega; done)
                 | (simp_all; done)
                 | (simp_all <;> omega))
         ·have hG47 := hg47; try simp only [gS] at hG47
          refine o_v hf hh (yv_move rfl) ?_; clear hf a; intro a hf
          refine o_v hf hh (yv_move rfl) ?_; clear hf a; intro a hf
          refine o_v hf hh (yv_bin rfl rfl rfl) ?_; clear hf a; intro a hf
          refine o_v hf hh (y_pf rfl rfl) ?_; clear hf a; intro a hf
          refine o_v hf hh (yv_move rfl) ?_; clear hf a; intro a hf
          refine guard_split hf (t := 186) rfl (fun hg49 => ?_) (fun hg49 => ?_)
          ·have hG49 := hg49; try simp only [gS] at hG49
           refine o_off hf ?_; clear hf a; intro a hf
           refine o_off hf ?_; clear hf a; intro a hf
           refine o_off hf ?_; clear hf a; intro a hf
           refine o_v hf hh (y_pt rfl rfl) ?_; clear hf a; intro a hf
           refine o_v hf hh (yv_move rfl) ?_; clear hf a; intro a hf
           refine o_off hf ?_; clear hf a; intro a hf
           refine o_off hf ?_; clear hf a; intro a hf
           refine o_off hf ?_; clear hf a; intro a hf
           refine o_v hf hh (y_pt rfl rfl) ?_; clear hf a; intro a hf
           refine o_v hf hh (yv_move rfl) ?_; clear hf a; intro a hf
           refine o_off hf ?_; clear hf a; intro a hf
           refine o_off hf ?_; clear hf a; intro a hf
           refine o_off hf ?_; clear hf a; intro a hf
           refine o_v hf hh (y_pt rfl rfl) ?_; clear hf a; intro a hf
           refine o_v hf hh (yv_move rfl) ?_; clear hf a; intro a hf
           refine o_off hf ?_; clear hf a; intro a hf
           refine o_off hf ?_; clear hf a; intro a hf
           refine o_off hf ?_; clear hf a; intro a hf
           refine o_v hf hh (y_pt rfl rfl) ?_; clear hf a; intro a hf
           refine o_v hf hh (yv_move rfl) ?_; clear hf a; intro a hf
           refine o_off hf ?_; clear hf a; intro a hf
           refine o_off hf ?_; clear hf a; intro a hf
           refine o_off hf ?_; clear hf a; intro a hf
           refine o_v hf hh (y_pt rfl rfl) ?_; clear hf a; intro a hf
           refine o_v hf hh (yv_move rfl) ?_; clear hf a; intro a hf
           refine o_off hf ?_; clear hf a; intro a hf
           refine o_off hf ?_; clear hf a; intro a hf
           refine o_off hf ?_; clear hf a; intro a hf
           refine o_v hf hh (y_pt rfl rfl) ?_; clear hf a; intro a hf
           refine o_v hf hh (yv_move rfl) ?_; clear hf a; intro a hf
           refine o_off hf ?_; clear hf a; intro a hf
           refine o_off hf ?_; clear hf a; intro a hf
           refine o_v hf hh (y_pt rfl rfl) ?_; clear hf a; intro a hf
           refine o_v hf hh (yv_move rfl) ?_; clear hf a; intro a hf
           refine o_off hf ?_; clear hf a; intro a hf
           refine o_off hf ?_; clear hf a; intro a hf
           refine o_v hf hh (y_pt rfl rfl) ?_; clear hf a; intro a hf
           refine o_v hf hh (yv_move rfl) ?_; clear hf a; intro a hf
           refine o_off hf ?_; clear hf a; intro a hf
           refine o_off hf ?_; clear hf a; intro a hf
           refine o_v hf hh (y_pt rfl rfl) ?_; clear hf a; intro a hf
           refine o_v hf hh (yv_move rfl) ?_; clear hf a; intro a hf
           refine o_off hf ?_; clear hf a; intro a hf
           refine o_off hf ?_; clear hf a; intro a hf
           refine o_v hf hh (y_pt rfl rfl) ?_; clear hf a; intro a hf
           refine o_v hf hh (yv_move rfl) ?_; clear hf a; intro a hf
           refine o_off hf ?_; clear hf a; intro a hf
           refine o_off hf ?_; clear hf a; intro a hf
           refine o_off hf ?_; clear hf a; intro a hf
           refine o_off hf ?_; clear hf a; intro a hf
           refine o_off hf ?_; clear hf a; intro a hf
           refine o_v hf hh (y_pt rfl rfl) ?_; clear hf a; intro a hf
           refine o_v hf hh (yv_move rfl) ?_; clear hf a; intro a hf
           refine o_off hf ?_; clear hf a; intro a hf
           refine o_off hf ?_; clear hf a; intro a hf
           refine o_off hf ?_; clear hf a; intro a hf
           refine o_off hf ?_; clear hf a; intro a hf
           refine o_off hf ?_; clear hf a; intro a hf
           refine o_v hf hh (y_pt rfl rfl) ?_; clear hf a; intro a hf
           refine o_v hf hh (yv_move rfl) ?_; clear hf a; intro a hf
           refine o_off hf ?_; clear hf a; intro a hf
           refine o_off hf ?_; clear hf a; intro a hf
           refine o_off hf ?_; clear hf a; intro a hf
           refine o_off hf ?_; clear hf a; intro a hf
           refine o_off hf ?_; clear hf a; intro a hf
           refine o_v hf hh (y_pt rfl rfl) ?_; clear hf a; intro a hf
           refine o_end ?_
           refine c_t hf ?_
           refine sy_sq ?_
           refine o_v hf hh (yv_assign rfl) ?_; clear hf a; intro a hf
           refine o_end ?_
           refine sy_ret ?_
           refine then_r ?_
           refine ret_r hf rfl rfl ?_
           first
             | exact ⟨rfl, hh.ext⟩
             | (exfalso
                (repeat (rename Fr _ _ _ _ => z9; clear z9))
                (repeat (rename Hp _ _ _ _ => z9; clear z9))
                (try clear hcn); (try clear hat); (try clear hbe)
                first
                  | (rcases hK with ⟨h1, h2, h3⟩ | ⟨h1, h2, h3⟩ | ⟨h1, h2, h3⟩ <;> first | (omega; done) | (simp_all; done))
                  | (omega; done)
                  | (simp_all; done)
                  | (simp_all <;> omega))
          ·have hG49 := hg49; try simp only [gS] at hG49
           refine o_v hf hh (yv_move rfl) ?_; clear hf a; intro a hf
           refine o_v hf hh (yv_move rfl) ?_; clear hf a; intro a hf
           refine o_v hf hh (yv_bin rfl rfl rfl) ?_; clear hf a; intro a hf
           refine o_v hf hh (y_pf rfl rfl) ?_; clear hf a; intro a hf
           refine o_v hf hh (yv_move rfl) ?_; clear hf a; intro a hf
           refine guard_split hf (t := 191) rfl (fun hg51 => ?_) (fun hg51 => ?_)
           ·have hG51 := hg51; try simp only [gS] at hG51
            refine o_off hf ?_; clear hf a; intro a hf
            refine o_off hf ?_; clear hf a; intro a hf
            refine o_off hf ?_; clear hf a; intro a hf
            refine o_v hf hh (y_pt rfl rfl) ?_; clear hf a; intro a hf
            refine o_v hf hh (yv_move rfl) ?_; clear hf a; intro a hf
            refine o_off hf ?_; clear hf a; intro a hf
            refine o_off hf ?_; clear hf a; intro a hf
            refine o_off hf ?_; clear hf a; intro a hf
            refine o_v hf hh (y_pt rfl rfl) ?_; clear hf a; intro a hf
            refine o_v hf hh (yv_move rfl) ?_; clear hf a; intro a hf
            refine o_off hf ?_; clear hf a; intro a hf
            refine o_off hf ?_; clear hf a; intro a hf
            refine o_off hf ?_; clear hf a; intro a hf
            refine o_v hf hh (y_pt rfl rfl) ?_; clear hf a; intro a hf
            refine o_v hf hh (yv_move rfl) ?_; clear hf a; intro a hf
            refine o_off hf ?_; clear hf a; intro a hf
            refine o_off hf ?_; clear hf a; intro a hf
            refine o_off hf ?_; clear hf a; intro a hf
            refine o_v hf hh (y_pt rfl rfl) ?_; clear hf a; intro a hf
            refine o_v hf hh (yv_move rfl) ?_; clear hf a; intro a hf
            refine o_off hf ?_; clear hf a; intro a hf
            refine o_off hf ?_; clear hf a; intro a hf
            refine o_off hf ?_; clear hf a; intro a hf
            refine o_v hf hh (y_pt rfl rfl) ?_; clear hf a; intro a hf
            refine o_v hf hh (yv_move rfl) ?_; clear hf a; intro a hf
            refine o_off hf ?_; clear hf a; intro a hf
            refine o_off hf ?_; clear hf a; intro a hf
            refine o_v hf hh (y_pt rfl rfl) ?_; clear hf a; intro a hf
            refine o_v hf hh (yv_move rfl) ?_; clear hf a; intro a hf
            refine o_off hf ?_; clear hf a; intro a hf
            refine o_off hf ?_; clear hf a; intro a hf
            refine o_v hf hh (y_pt rfl rfl) ?_; clear hf a; intro a hf
            refine o_v hf hh (yv_move rfl) ?_; clear hf a; intro a hf
            refine o_off hf ?_; clear hf a; intro a hf
            refine o_off hf ?_; clear hf a; intro a hf
            refine o_v hf hh (y_pt rfl rfl) ?_; clear hf a; intro a hf
            refine o_v hf hh (yv_move rfl) ?_; clear hf a; intro a hf
            refine o_off hf ?_; clear hf a; intro a hf
            refine o_off hf ?_; clear hf a; intro a hf
            refine o_v hf hh (y_pt rfl rfl) ?_; clear hf a; intro a hf
            refine o_v hf hh (yv_move rfl) ?_; clear hf a; intro a hf
            refine o_off hf ?_; clear hf a; intro a hf
            refine o_off hf ?_; clear hf a; intro a hf
            refine o_off hf ?_; clear hf a; intro a hf
            refine o_off hf ?_; clear hf a; intro a hf
            refine o_off hf ?_; clear hf a; intro a hf
            refine o_v hf hh (y_pt rfl rfl) ?_; clear hf a; intro a hf
            refine o_v hf hh (yv_move rfl) ?_; clear hf a; intro a hf
            refine o_off hf ?_; clear hf a; intro a hf
            refine o_off hf ?_; clear hf a; intro a hf
            refine o_off hf ?_; clear hf a; intro a hf
            refine o_off hf ?_; clear hf a; intro a hf
            refine o_off hf ?_; clear hf a; intro a hf
            refine o_v hf hh (y_pt rfl rfl) ?_; clear hf a; intro a hf
            refine o_v hf hh (yv_move rfl) ?_; clear hf a; intro a hf
            refine o_off hf ?_; clear hf a; intro a hf
            refine o_off hf ?_; clear hf a; intro a hf
            refine o_off hf ?_; clear hf a; intro a hf
            refine o_off hf ?_; clear hf a; intro a hf
            refine o_off hf ?_; clear hf a; intro a hf
            refine o_v hf hh (y_pt rfl rfl) ?_; clear hf a; intro a hf
            refine o_end ?_
            refine c_t hf ?_
            refine sy_sq ?_
            refine o_v hf hh (yv_assign rfl) ?_; clear hf a; intro a hf
            refine o_end ?_
            refine sy_ret ?_
            refine then_r ?_
            refine ret_r hf rfl rfl ?_
            first
              | exact ⟨rfl, hh.ext⟩
              | (exfalso
                 (repeat (rename Fr _ _ _ _ => z9; clear z9))
                 (repeat (rename Hp _ _ _ _ => z9; clear z9))
                 (try clear hcn); (try clear hat); (try clear hbe)
                 first
                   | (rcases hK with ⟨h1, h2, h3⟩ | ⟨h1, h2, h3⟩ | ⟨h1, h2, h3⟩ <;> first | (omega; done) | (simp_all; done))
                   | (omega; done)
                   | (simp_all; done)
                   | (simp_all <;> omega))
           ·have hG51 := hg51; try simp only [gS] at hG51
            refine o_v hf hh (yv_move rfl) ?_; clear hf a; intro a hf
            refine o_v hf hh (yv_move rfl) ?_; clear hf a; intro a hf
            refine o_v hf hh (yv_bin rfl rfl rfl) ?_; clear hf a; intro a hf
            refine o_v hf hh (y_pf rfl rfl) ?_; clear hf a; intro a hf
            refine o_v hf hh (yv_move rfl) ?_; clear hf a; intro a hf
            refine guard_split hf (t := 196) rfl (fun hg53 => ?_) (fun hg53 => ?_)
            ·have hG53 := hg53; try simp only [gS] at hG53
             refine o_off hf ?_; clear hf a; intro a hf
             refine o_off hf ?_; clear hf a; intro a hf
             refine o_off hf ?_; clear hf a; intro a hf
             refine o_v hf hh (y_pt rfl rfl) ?_; clear hf a; intro a hf
             refine o_v hf hh (yv_move rfl) ?_; clear hf a; intro a hf
             refine o_off hf ?_; clear hf a; intro a hf
             refine o_off hf ?_; clear hf a; intro a hf
             refine o_off hf ?_; clear hf a; intro a hf
             refine o_v hf hh (y_pt rfl rfl) ?_; clear hf a; intro a hf
             refine o_v hf hh (yv_move rfl) ?_; clear hf a; intro a hf
             refine o_off hf ?_; clear hf a; intro a hf
             refine o_off hf ?_; clear hf a; intro a hf
             refine o_off hf ?_; clear hf a; intro a hf
             refine o_v hf hh (y_pt rfl rfl) ?_; clear hf a; intro a hf
             refine o_v hf hh (yv_move rfl) ?_; clear hf a; intro a hf
             refine o_off hf ?_; clear hf a; intro a hf
             refine o_off hf ?_; clear hf a; intro a hf
             refine o_off hf ?_; clear hf a; intro a hf
             refine o_v hf hh (y_pt rfl rfl) ?_; clear hf a; intro a hf
             refine o_v hf hh (yv_move rfl) ?_; clear hf a; intro a hf
             refine o_off hf ?_; clear hf a; intro a hf
             refine o_off hf ?_; clear hf a; intro a hf
             refine o_v hf hh (y_pt rfl rfl) ?_; clear hf a; intro a hf
             refine o_v hf hh (yv_move rfl) ?_; clear hf a; intro a hf
             refine o_off hf ?_; clear hf a; intro a hf
             refine o_off hf ?_; clear hf a; intro a hf
             refine o_v hf hh (y_pt rfl rfl) ?_; clear hf a; intro a hf
             refine o_v hf hh (yv_move rfl) ?_; clear hf a; intro a hf
             refine o_off hf ?_; clear hf a; intro a hf
             refine o_off hf ?_; clear hf a; intro a hf
             refine o_v hf hh (y_pt rfl rfl) ?_; clear hf a; intro a hf
             refine o_v hf hh (yv_move rfl) ?_; clear hf a; intro a hf
             refine o_off hf ?_; clear hf a; intro a hf
             refine o_off hf ?_; clear hf a; intro a hf
             refine o_v hf hh (y_pt rfl rfl) ?_; clear hf a; intro a hf
             refine o_v hf hh (yv_move rfl) ?_; clear hf a; intro a hf
             refine o_off hf ?_; clear hf a; intro a hf
             refine o_off hf ?_; clear hf a; intro a hf
             refine o_off hf ?_; clear hf a; intro a hf
             refine o_off hf ?_; clear hf a; intro a hf
             refine o_off hf ?_; clear hf a; intro a hf
             refine o_v hf hh (y_pt rfl rfl) ?_; clear hf a; intro a hf
             refine o_v hf hh (yv_move rfl) ?_; clear hf a; intro a hf
             refine o_off hf ?_; clear hf a; intro a hf
             refine o_off hf ?_; clear hf a; intro a hf
             refine o_off hf ?_; clear hf a; intro a hf
             refine o_off hf ?_; clear hf a; intro a hf
             refine o_off hf ?_; clear hf a; intro a hf
             refine o_v hf hh (y_pt rfl rfl) ?_; clear hf a; intro a hf
             refine o_v hf hh (yv_move rfl) ?_; clear hf a; intro a hf
             refine o_off hf ?_; clear hf a; intro a hf
             refine o_off hf ?_; clear hf a; intro a hf
             refine o_off hf ?_; clear hf a; intro a hf
             refine o_off hf ?_; clear hf a; intro a hf
             refine o_off hf ?_; clear hf a; intro a hf
             refine o_v hf hh (y_pt rfl rfl) ?_; clear hf a; intro a hf
             refine o_end ?_
             refine c_t hf ?_
             refine sy_sq ?_
             refine o_v hf hh (yv_assign rfl) ?_; clear hf a; intro a hf
             refine o_end ?_
             refine sy_ret ?_
             refine then_r ?_
             refine ret_r hf rfl rfl ?_
             first
               | exact ⟨rfl, hh.ext⟩
               | (exfalso
                  (repeat (rename Fr _ _ _ _ => z9; clear z9))
                  (repeat (rename Hp _ _ _ _ => z9; clear z9))
                  (try clear hcn); (try clear hat); (try clear hbe)
                  first
                    | (rcases hK with ⟨h1, h2, h3⟩ | ⟨h1, h2, h3⟩ | ⟨h1, h2, h3⟩ <;> first | (omega; done) | (simp_all; done))
                    | (omega; done)
                    | (simp_all; done)
                    | (simp_all <;> omega))
            ·have hG53 := hg53; try simp only [gS] at hG53
             refine o_v hf hh (yv_move rfl) ?_; clear hf a; intro a hf
             refine o_v hf hh (yv_move rfl) ?_; clear hf a; intro a hf
             refine o_v hf hh (yv_bin rfl rfl rfl) ?_; clear hf a; intro a hf
             refine o_v hf hh (y_pf rfl rfl) ?_; clear hf a; intro a hf
             refine o_v hf hh (yv_move rfl) ?_; clear hf a; intro a hf
             refine guard_split hf (t := 201) rfl (fun hg55 => ?_) (fun hg55 => ?_)
             ·have hG55 := hg55; try simp only [gS] at hG55
              refine o_off hf ?_; clear hf a; intro a hf
              refine o_off hf ?_; clear hf a; intro a hf
              refine o_off hf ?_; clear hf a; intro a hf
              refine o_v hf hh (y_pt rfl rfl) ?_; clear hf a; intro a hf
              refine o_v hf hh (yv_move rfl) ?_; clear hf a; intro a hf
              refine o_off hf ?_; clear hf a; intro a hf
              refine o_off hf ?_; clear hf a; intro a hf
              refine o_off hf ?_; clear hf a; intro a hf
              refine o_v hf hh (y_pt rfl rfl) ?_; clear hf a; intro a hf
              refine o_v hf hh (yv_move rfl) ?_; clear hf a; intro a hf
              refine o_off hf ?_; clear hf a; intro a hf
              refine o_off hf ?_; clear hf a; intro a hf
              refine o_off hf ?_; clear hf a; intro a hf
              refine o_v hf hh (y_pt rfl rfl) ?_; clear hf a; intro a hf
              refine o_v hf hh (yv_move rfl) ?_; clear hf a; intro a hf
              refine o_off hf ?_; clear hf a; intro a hf
              refine o_off hf ?_; clear hf a; intro a hf
              refine o_v hf hh (y_pt rfl rfl) ?_; clear hf a; intro a hf
              refine o_v hf hh (yv_move rfl) ?_; clear hf a; intro a hf
              refine o_off hf ?_; clear hf a; intro a hf
              refine o_off hf ?_; clear hf a; intro a hf
              refine o_v hf hh (y_pt rfl rfl) ?_; clear hf a; intro a hf
              refine o_v hf hh (yv_move rfl) ?_; clear hf a; intro a hf
              refine o_off hf ?_; clear hf a; intro a hf
              refine o_off hf ?_; clear hf a; intro a hf
              refine o_v hf hh (y_pt rfl rfl) ?_; clear hf a; intro a hf
              refine o_v hf hh (yv_move rfl) ?_; clear hf a; intro a hf
              refine o_off hf ?_; clear hf a; intro a hf
              refine o_off hf ?_; clear hf a; intro a hf
              refine o_v hf hh (y_pt rfl rfl) ?_; clear hf a; intro a hf
              refine o_v hf hh (yv_move rfl) ?_; clear hf a; intro a hf
              refine o_off hf ?_; clear hf a; intro a hf
              refine o_off hf ?_; clear hf a; intro a hf
              refine o_off hf ?_; clear hf a; intro a hf
              refine o_off hf ?_; clear hf a; intro a hf
              refine o_off hf ?_; clear hf a; intro a hf
              refine o_v hf hh (y_pt rfl rfl) ?_; clear hf a; intro a hf
              refine o_v hf hh (yv_move rfl) ?_; clear hf a; intro a hf
              refine o_off hf ?_; clear hf a; intro a hf
              refine o_off hf ?_; clear hf a; intro a hf
              refine o_off hf ?_; clear hf a; intro a hf
              refine o_off hf ?_; clear hf a; intro a hf
              refine o_off hf ?_; clear hf a; intro a hf
              refine o_v hf hh (y_pt rfl rfl) ?_; clear hf a; intro a hf
              refine o_v hf hh (yv_move rfl) ?_; clear hf a; intro a hf
              refine o_off hf ?_; clear hf a; intro a hf
              refine o_off hf ?_; clear hf a; intro a hf
              refine o_off hf ?_; clear hf a; intro a hf
              refine o_off hf ?_; clear hf a; intro a hf
              refine o_off hf ?_; clear hf a; intro a hf
              refine o_v hf hh (y_pt rfl rfl) ?_; clear hf a; intro a hf
              refine o_end ?_
              refine c_t hf ?_
              refine sy_sq ?_
              refine o_v hf hh (yv_assign rfl) ?_; clear hf a; intro a hf
              refine o_end ?_
              refine sy_ret ?_
              refine then_r ?_
              refine ret_r hf rfl rfl ?_
              first
                | exact ⟨rfl, hh.ext⟩
                | (exfalso
                   (repeat (rename Fr _ _ _ _ => z9; clear z9))
                   (repeat (rename Hp _ _ _ _ => z9; clear z9))
                   (try clear hcn); (try clear hat); (try clear hbe)
                   first
                     | (rcases hK with ⟨h1, h2, h3⟩ | ⟨h1, h2, h3⟩ | ⟨h1, h2, h3⟩ <;> first | (omega; done) | (simp_all; done))
                     | (omega; done)
                     | (simp_all; done)
                     | (simp_all <;> omega))
             ·have hG55 := hg55; try simp only [gS] at hG55
              refine o_v hf hh (yv_move rfl) ?_; clear hf a; intro a hf
              refine o_v hf hh (yv_move rfl) ?_; clear hf a; intro a hf
              refine o_v hf hh (yv_bin rfl rfl rfl) ?_; clear hf a; intro a hf
              refine o_v hf hh (y_pf rfl rfl) ?_; clear hf a; intro a hf
              refine o_v hf hh (yv_move rfl) ?_; clear hf a; intro a hf
              refine guard_split hf (t := 206) rfl (fun hg57 => ?_) (fun hg57 => ?_)
              ·have hG57 := hg57; try simp only [gS] at hG57
               refine o_off hf ?_; clear hf a; intro a hf
               refine o_off hf ?_; clear hf a; intro a hf
               refine o_off hf ?_; clear hf a; intro a hf
               refine o_v hf hh (y_pt rfl rfl) ?_; clear hf a; intro a hf
               refine o_v hf hh (yv_move rfl) ?_; clear hf a; intro a hf
               refine o_off hf ?_; clear hf a; intro a hf
               refine o_off hf ?_; clear hf a; intro a hf
               refine o_off hf ?_; clear hf a; intro a hf
               refine o_v hf hh (y_pt rfl rfl) ?_; clear hf a; intro a hf
               refine o_v hf hh (yv_move rfl) ?_; clear hf a; intro a hf
               refine o_off hf ?_; clear hf a; intro a hf
               refine o_off hf ?_; clear hf a; intro a hf
               refine o_v hf hh (y_pt rfl rfl) ?_; clear hf a; intro a hf
               refine o_v hf hh (yv_move rfl) ?_; clear hf a; intro a hf
               refine o_off hf ?_; clear hf a; intro a hf
               refine o_off hf ?_; clear hf a; intro a hf
               refine o_v hf hh (y_pt rfl rfl) ?_; clear hf a; intro a hf
               refine o_v hf hh (yv_move rfl) ?_; clear hf a; intro a hf
               refine o_off hf ?_; clear hf a; intro a hf
               refine o_off hf ?_; clear hf a; intro a hf
               refine o_v hf hh (y_pt rfl rfl) ?_; clear hf a; intro a hf
               refine o_v hf hh (yv_move rfl) ?_; clear hf a; intro a hf
               refine o_off hf ?_; clear hf a; intro a hf
               refine o_off hf ?_; clear hf a; intro a hf
               refine o_v hf hh (y_pt rfl rfl) ?_; clear hf a; intro a hf
               refine o_v hf hh (yv_move rfl) ?_; clear hf a; intro a hf
               refine o_off hf ?_; clear hf a; intro a hf
               refine o_off hf ?_; clear hf a; intro a hf
               refine o_off hf ?_; clear hf a; intro a hf
               refine o_off hf ?_; clear hf a; intro a hf
               refine o_off hf ?_; clear hf a; intro a hf
               refine o_v hf hh (y_pt rfl rfl) ?_; clear hf a; intro a hf
               refine o_v hf hh (yv_move rfl) ?_; clear hf a; intro a hf
               refine o_off hf ?_; clear hf a; intro a hf
               refine o_off hf ?_; clear hf a; intro a hf
               refine o_off hf ?_; clear hf a; intro a hf
               refine o_off hf ?_; clear hf a; intro a hf
               refine o_off hf ?_; clear hf a; intro a hf
               refine o_v hf hh (y_pt rfl rfl) ?_; clear hf a; intro a hf
               refine o_v hf hh (yv_move rfl) ?_; clear hf a; intro a hf
               refine o_off hf ?_; clear hf a; intro a hf
               refine o_off hf ?_; clear hf a; intro a hf
               refine o_off hf ?_; clear hf a; intro a hf
               refine o_off hf ?_; clear hf a; intro a hf
               refine o_off hf ?_; clear hf a; intro a hf
               refine o_v hf hh (y_pt rfl rfl) ?_; clear hf a; intro a hf
               refine o_end ?_
               refine c_t hf ?_
               refine sy_sq ?_
               refine o_v hf hh (yv_assign rfl) ?_; clear hf a; intro a hf
               refine o_end ?_
               refine sy_ret ?_
               refine then_r ?_
               refine ret_r hf rfl rfl ?_
               first
                 | exact ⟨rfl, hh.ext⟩
                 | (exfalso
                    (repeat (rename Fr _ _ _ _ => z9; clear z9))
                    (repeat (rename Hp _ _ _ _ => z9; clear z9))
                    (try clear hcn); (try clear hat); (try clear hbe)
                    first
                      | (rcases hK with ⟨h1, h2, h3⟩ | ⟨h1, h2, h3⟩ | ⟨h1, h2, h3⟩ <;> first | (omega; done) | (simp_all; done))
                      | (omega; done)
                      | (simp_all; done)
                      | (simp_all <;> omega))
              ·have hG57 := hg57; try simp only [gS] at hG57
               refine o_v hf hh (yv_move rfl) ?_; clear hf a; intro a hf
               refine o_v hf hh (yv_move rfl) ?_; clear hf a; intro a hf
               refine o_v hf hh (yv_bin rfl rfl rfl) ?_; clear hf a; intro a hf
               refine o_v hf hh (y_pf rfl rfl) ?_; clear hf a; intro a hf
               refine o_v hf hh (yv_move rfl) ?_; clear hf a; intro a hf
               refine guard_split hf (t := 211) rfl (fun hg59 => ?_) (fun hg59 => ?_)
               ·have hG59 := hg59; try simp only [gS] at hG59
                refine o_off hf ?_; clear hf a; intro a hf
                refine o_off hf ?_; clear hf a; intro a hf
                refine o_off hf ?_; clear hf a; intro a hf
                refine o_v hf hh (y_pt rfl rfl) ?_; clear hf a; intro a hf
                refine o_v hf hh (yv_move rfl) ?_; clear hf a; intro a hf
                refine o_off hf ?_; clear hf a; intro a hf
                refine o_off hf ?_; clear hf a; intro a hf
                refine o_v hf hh (y_pt rfl rfl) ?_; clear hf a; intro a hf
                refine o_v hf hh (yv_move rfl) ?_; clear hf a; intro a hf
                refine o_off hf ?_; clear hf a; intro a hf
                refine o_off hf ?_; clear hf a; intro a hf
                refine o_v hf hh (y_pt rfl rfl) ?_; clear hf a; intro a hf
                refine o_v hf hh (yv_move rfl) ?_; clear hf a; intro a hf
                refine o_off hf ?_; clear hf a; intro a hf
                refine o_off hf ?_; clear hf a; intro a hf
                refine o_v hf hh (y_pt rfl rfl) ?_; clear hf a; intro a hf
                refine o_v hf hh (yv_move rfl) ?_; clear hf a; intro a hf
                refine o_off hf ?_; clear hf a; intro a hf
                refine o_off hf ?_; clear hf a; intro a hf
                refine o_v hf hh (y_pt rfl rfl) ?_; clear hf a; intro a hf
                refine o_v hf hh (yv_move rfl) ?_; clear hf a; intro a hf
                refine o_off hf ?_; clear hf a; intro a hf
                refine o_off hf ?_; clear hf a; intro a hf
                refine o_off hf ?_; clear hf a; intro a hf
                refine o_off hf ?_; clear hf a; intro a hf
                refine o_off hf ?_; clear hf a; intro a hf
                refine o_v hf hh (y_pt rfl rfl) ?_; clear hf a; intro a hf
                refine o_v hf hh (yv_move rfl) ?_; clear hf a; intro a hf
                refine o_off hf ?_; clear hf a; intro a hf
                refine o_off hf ?_; clear hf a; intro a hf
                refine o_off hf ?_; clear hf a; intro a hf
                refine o_off hf ?_; clear hf a; intro a hf
                refine o_off hf ?_; clear hf a; intro a hf
                refine o_v hf hh (y_pt rfl rfl) ?_; clear hf a; intro a hf
                refine o_v hf hh (yv_move rfl) ?_; clear hf a; intro a hf
                refine o_off hf ?_; clear hf a; intro a hf
                refine o_off hf ?_; clear hf a; intro a hf
                refine o_off hf ?_; clear hf a; intro a hf
                refine o_off hf ?_; clear hf a; intro a hf
                refine o_off hf ?_; clear hf a; intro a hf
                refine o_v hf hh (y_pt rfl rfl) ?_; clear hf a; intro a hf
                refine o_end ?_
                refine c_t hf ?_
                refine sy_sq ?_
                refine o_v hf hh (yv_assign rfl) ?_; clear hf a; intro a hf
                refine o_end ?_
                refine sy_ret ?_
                refine then_r ?_
                refine ret_r hf rfl rfl ?_
                first
                  | exact ⟨rfl, hh.ext⟩
                  | (exfalso
                     (repeat (rename Fr _ _ _ _ => z9; clear z9))
                     (repeat (rename Hp _ _ _ _ => z9; clear z9))
                     (try clear hcn); (try clear hat); (try clear hbe)
                     first
                       | (rcases hK with ⟨h1, h2, h3⟩ | ⟨h1, h2, h3⟩ | ⟨h1, h2, h3⟩ <;> first | (omega; done) | (simp_all; done))
                       | (omega; done)
                       | (simp_all; done)
                       | (simp_all <;> omega))
               ·have hG59 := hg59; try simp only [gS] at hG59
                refine o_v hf hh (yv_move rfl) ?_; clear hf a; intro a hf
                refine o_v hf hh (yv_move rfl) ?_; clear hf a; intro a hf
                refine o_v hf hh (yv_bin rfl rfl rfl) ?_; clear hf a; intro a hf
                refine o_v hf hh (y_pf rfl rfl) ?_; clear hf a; intro a hf
                refine o_v hf hh (yv_move rfl) ?_; clear hf a; intro a hf
                refine guard_split hf (t := 216) rfl (fun hg61 => ?_) (fun hg61 => ?_)
                ·have hG61 := hg61; try simp only [gS] at hG61
                 refine o_off hf ?_; clear hf a; intro a hf
                 refine o_off hf ?_; clear hf a; intro a hf
                 refine o_v hf hh (y_pt rfl rfl) ?_; clear hf a; intro a hf
                 refine o_v hf hh (yv_move rfl) ?_; clear hf a; intro a hf
                 refine o_off hf ?_; clear hf a; intro a hf
                 refine o_off hf ?_; clear hf a; intro a hf
                 refine o_v hf hh (y_pt rfl rfl) ?_; clear hf a; intro a hf
                 refine o_v hf hh (yv_move rfl) ?_; clear hf a; intro a hf
                 refine o_off hf ?_; clear hf a; intro a hf
                 refine o_off hf ?_; clear hf a; intro a hf
                 refine o_v hf hh (y_pt rfl rfl) ?_; clear hf a; intro a hf
                 refine o_v hf hh (yv_move rfl) ?_; clear hf a; intro a hf
                 refine o_off hf ?_; clear hf a; intro a hf
                 refine o_off hf ?_; clear hf a; intro a hf
                 refine o_v hf hh (y_pt rfl rfl) ?_; clear hf a; intro a hf
                 refine o_v hf hh (yv_move rfl) ?_; clear hf a; intro a hf
                 refine o_off hf ?_; clear hf a; intro a hf
                 refine o_off hf ?_; clear hf a; intro a hf
                 refine o_off hf ?_; clear hf a; intro a hf
                 refine o_off hf ?_; clear hf a; intro a hf
                 refine o_off hf ?_; clear hf a; intro a hf
                 refine o_v hf hh (y_pt rfl rfl) ?_; clear hf a; intro a hf
                 refine o_v hf hh (yv_move rfl) ?_; clear hf a; intro a hf
                 refine o_off hf ?_; clear hf a; intro a hf
                 refine o_off hf ?_; clear hf a; intro a hf
                 refine o_off hf ?_; clear hf a; intro a hf
                 refine o_off hf ?_; clear hf a; intro a hf
                 refine o_off hf ?_; clear hf a; intro a hf
                 refine o_v hf hh (y_pt rfl rfl) ?_; clear hf a; intro a hf
                 refine o_v hf hh (yv_move rfl) ?_; clear hf a; intro a hf
                 refine o_off hf ?_; clear hf a; intro a hf
                 refine o_off hf ?_; clear hf a; intro a hf
                 refine o_off hf ?_; clear hf a; intro a hf
                 refine o_off hf ?_; clear hf a; intro a hf
                 refine o_off hf ?_; clear hf a; intro a hf
                 refine o_v hf hh (y_pt rfl rfl) ?_; clear hf a; intro a hf
                 refine o_end ?_
                 refine c_t hf ?_
                 refine sy_sq ?_
                 refine o_v hf hh (yv_assign rfl) ?_; clear hf a; intro a hf
                 refine o_end ?_
                 refine sy_ret ?_
                 refine then_r ?_
                 refine ret_r hf rfl rfl ?_
                 first
                   | exact ⟨rfl, hh.ext⟩
                   | (exfalso
                      (repeat (rename Fr _ _ _ _ => z9; clear z9))
                      (repeat (rename Hp _ _ _ _ => z9; clear z9))
                      (try clear hcn); (try clear hat); (try clear hbe)
                      first
                        | (rcases hK with ⟨h1, h2, h3⟩ | ⟨h1, h2, h3⟩ | ⟨h1, h2, h3⟩ <;> first | (omega; done) | (simp_all; done))
                        | (omega; done)
                        | (simp_all; done)
                        | (simp_all <;> omega))
                ·have hG61 := hg61; try simp only [gS] at hG61
                 refine o_v hf hh (yv_move rfl) ?_; clear hf a; intro a hf
                 refine o_v hf hh (yv_bin rfl rfl rfl) ?_; clear hf a; intro a hf
                 refine o_v hf hh (y_pf rfl rfl) ?_; clear hf a; intro a hf
                 refine o_v hf hh (yv_move rfl) ?_; clear hf a; intro a hf
                 refine guard_split hf (t := 220) rfl (fun hg63 => ?_) (fun hg63 => ?_)
                 ·have hG63 := hg63; try simp only [gS] at hG63
                  refine o_off hf ?_; clear hf a; intro a hf
                  refine o_off hf ?_; clear hf a; intro a hf
                  refine o_v hf hh (y_pt rfl rfl) ?_; clear hf a; intro a hf
                  refine o_v hf hh (yv_move rfl) ?_; clear hf a; intro a hf
                  refine o_off hf ?_; clear hf a; intro a hf
                  refine o_off hf ?_; clear hf a; intro a hf
                  refine o_v hf hh (y_pt rfl rfl) ?_; clear hf a; intro a hf
                  refine o_v hf hh (yv_move rfl) ?_; clear hf a; intro a hf
                  refine o_off hf ?_; clear hf a; intro a hf
                  refine o_off hf ?_; clear hf a; intro a hf
                  refine o_v hf hh (y_pt rfl rfl) ?_; clear hf a; intro a hf
                  refine o_v hf hh (yv_move rfl) ?_; clear hf a; intro a hf
                  refine o_off hf ?_; clear hf a; intro a hf
                  refine o_off hf ?_; clear hf a; intro a hf
                  refine o_off hf ?_; clear hf a; intro a hf
                  refine o_off hf ?_; clear hf a; intro a hf
                  refine o_off hf ?_; clear hf a; intro a hf
                  refine o_v hf hh (y_pt rfl rfl) ?_; clear hf a; intro a hf
                  refine o_v hf hh (yv_move rfl) ?_; clear hf a; intro a hf
                  refine o_off hf ?_; clear hf a; intro a hf
                  refine o_off hf ?_; clear hf a; intro a hf
                  refine o_off hf ?_; clear hf a; intro a hf
                  refine o_off hf ?_; clear hf a; intro a hf
                  refine o_off hf ?_; clear hf a; intro a hf
                  refine o_v hf hh (y_pt rfl rfl) ?_; clear hf a; intro a hf
                  refine o_v hf hh (yv_move rfl) ?_; clear hf a; intro a hf
                  refine o_off hf ?_; clear hf a; intro a hf
                  refine o_off hf ?_; clear hf a; intro a hf
                  refine o_off hf ?_; clear hf a; intro a hf
                  refine o_off hf ?_; clear hf a; intro a hf
                  refine o_off hf ?_; clear hf a; intro a hf
                  refine o_v hf hh (y_pt rfl rfl) ?_; clear hf a; intro a hf
                  refine o_end ?_
                  refine c_t hf ?_
                  refine sy_sq ?_
                  refine o_v hf hh (yv_assign rfl) ?_; clear hf a; intro a hf
                  refine o_end ?_
                  refine sy_ret ?_
                  refine then_r ?_
                  refine ret_r hf rfl rfl ?_
                  first
                    | exact ⟨rfl, hh.ext⟩
                    | (exfalso
                       (repeat (rename Fr _ _ _ _ => z9; clear z9))
                       (repeat (rename Hp _ _ _ _ => z9; clear z9))
                       (try clear hcn); (try clear hat); (try clear hbe)
                       first
                         | (rcases hK with ⟨h1, h2, h3⟩ | ⟨h1, h2, h3⟩ | ⟨h1, h2, h3⟩ <;> first | (omega; done) | (simp_all; done))
                         | (omega; done)
                         | (simp_all; done)
                         | (simp_all <;> omega))
                 ·have hG63 := hg63; try simp only [gS] at hG63
                  refine o_v hf hh (yv_move rfl) ?_; clear hf a; intro a hf
                  refine o_v hf hh (yv_bin rfl rfl rfl) ?_; clear hf a; intro a hf
                  refine o_v hf hh (y_pf rfl rfl) ?_; clear hf a; intro a hf
                  refine o_v hf hh (yv_move rfl) ?_; clear hf a; intro a hf
                  refine guard_split hf (t := 224) rfl (fun hg65 => ?_) (fun hg65 => ?_)
                  ·have hG65 := hg65; try simp only [gS] at hG65
                   refine o_off hf ?_; clear hf a; intro a hf
                   refine o_off hf ?_; clear hf a; intro a hf
                   refine o_v hf hh (y_pt rfl rfl) ?_; clear hf a; intro a hf
                   refine o_v hf hh (yv_move rfl) ?_; clear hf a; intro a hf
                   refine o_off hf ?_; clear hf a; intro a hf
                   refine o_off hf ?_; clear hf a; intro a hf
                   refine o_v hf hh (y_pt rfl rfl) ?_; clear hf a; intro a hf
                   refine o_v hf hh (yv_move rfl) ?_; clear hf a; intro a hf
                   refine o_off hf ?_; clear hf a; intro a hf
                   refine o_off hf ?_; clear hf a; intro a hf
                   refine o_off hf ?_; clear hf a; intro a hf
                   refine o_off hf ?_; clear hf a; intro a hf
                   refine o_off hf ?_; clear hf a; intro a hf
                   refine o_v hf hh (y_pt rfl rfl) ?_; clear hf a; intro a hf
                   refine o_v hf hh (yv_move rfl) ?_; clear hf a; intro a hf
                   refine o_off hf ?_; clear hf a; intro a hf
                   refine o_off hf ?_; clear hf a; intro a hf
                   refine o_off hf ?_; clear hf a; intro a hf
                   refine o_off hf ?_; clear hf a; intro a hf
                   refine o_off hf ?_; clear hf a; intro a hf
                   refine o_v hf hh (y_pt rfl rfl) ?_; clear hf a; intro a hf
                   refine o_v hf hh (yv_move rfl) ?_; clear hf a; intro a hf
                   refine o_off hf ?_; clear hf a; intro a hf
                   refine o_off hf ?_; clear hf a; intro a hf
                   refine o_off hf ?_; clear hf a; intro a hf
                   refine o_off hf ?_; clear hf a; intro a hf
                   refine o_off hf ?_; clear hf a; intro a hf
                   refine o_v hf hh (y_pt rfl rfl) ?_; clear hf a; intro a hf
                   refine o_end ?_
                   refine c_t hf ?_
                   refine sy_sq ?_
                   refine o_v hf hh (yv_assign rfl) ?_; clear hf a; intro a hf
                   refine o_end ?_
                   refine sy_ret ?_
                   refine then_r ?_
                   refine ret_r hf rfl rfl ?_
                   first
                     | exact ⟨rfl, hh.ext⟩
                     | (exfalso
                        (repeat (rename Fr _ _ _ _ => z9; clear z9))
                        (repeat (rename Hp _ _ _ _ => z9; clear z9))
                        (try clear hcn); (try clear hat); (try clear hbe)
                        first
                          | (rcases hK with ⟨h1, h2, h3⟩ | ⟨h1, h2, h3⟩ | ⟨h1, h2, h3⟩ <;> first | (omega; done) | (simp_all; done))
                          | (omega; done)
                          | (simp_all; done)
                          | (simp_all <;> omega))
                  ·have hG65 := hg65; try simp only [gS] at hG65
                   refine o_v hf hh (yv_move rfl) ?_; clear hf a; intro a hf
                   refine o_v hf hh (yv_bin rfl rfl rfl) ?_; clear hf a; intro a hf
                   refine o_v hf hh (y_pf rfl rfl) ?_; clear hf a; intro a hf
                   refine o_v hf hh (yv_move rfl) ?_; clear hf a; intro a hf
                   refine guard_split hf (t := 228) rfl (fun hg67 => ?_) (fun hg67 => ?_)
                   ·have hG67 := hg67; try simp only [gS] at hG67
                    refine o_off hf ?_; clear hf a; intro a hf
                    refine o_off hf ?_; clear hf a; intro a hf
                    refine o_v hf hh (y_pt rfl rfl) ?_; clear hf a; intro a hf
                    refine o_v hf hh (yv_move rfl) ?_; clear hf a; intro a hf
                    refine o_off hf ?_; clear hf a; intro a hf
                    refine o_off hf ?_; clear hf a; intro a hf
                    refine o_off hf ?_; clear hf a; intro a hf
                    refine o_off hf ?_; clear hf a; intro a hf
                    refine o_off hf ?_; clear hf a; intro a hf
                    refine o_v hf hh (y_pt rfl rfl) ?_; clear hf a; intro a hf
                    refine o_v hf hh (yv_move rfl) ?_; clear hf a; intro a hf
                    refine o_off hf ?_; clear hf a; intro a hf
                    refine o_off hf ?_; clear hf a; intro a hf
                    refine o_off hf ?_; clear hf a; intro a hf
                    refine o_off hf ?_; clear hf a; intro a hf
                    refine o_off hf ?_; clear hf a; intro a hf
                    refine o_v hf hh (y_pt rfl rfl) ?_; clear hf a; intro a hf
                    refine o_v hf hh (yv_move rfl) ?_; clear hf a; intro a hf
                    refine o_off hf ?_; clear hf a; intro a hf
                    refine o_off hf ?_; clear hf a; intro a hf
                    refine o_off hf ?_; clear hf a; intro a hf
                    refine o_off hf ?_; clear hf a; intro a hf
                    refine o_off hf ?_; clear hf a; intro a hf
                    refine o_v hf hh (y_pt rfl rfl) ?_; clear hf a; intro a hf
                    refine o_end ?_
                    refine c_t hf ?_
                    refine sy_sq ?_
                    refine o_v hf hh (yv_assign rfl) ?_; clear hf a; intro a hf
                    refine o_end ?_
                    refine sy_ret ?_
                    refine then_r ?_
                    refine ret_r hf rfl rfl ?_
                    first
                      | exact ⟨rfl, hh.ext⟩
                      | (exfalso
                         (repeat (rename Fr _ _ _ _ => z9; clear z9))
                         (repeat (rename Hp _ _ _ _ => z9; clear z9))
                         (try clear hcn); (try clear hat); (try clear hbe)
                         first
                           | (rcases hK with ⟨h1, h2, h3⟩ | ⟨h1, h2, h3⟩ | ⟨h1, h2, h3⟩ <;> first | (omega; done) | (simp_all; done))
                           | (omega; done)
                           | (simp_all; done)
                           | (simp_all <;> omega))
                   ·have hG67 := hg67; try simp only [gS] at hG67
                    refine o_v hf hh (yv_move rfl) ?_; clear hf a; intro a hf
                    refine o_v hf hh (yv_bin rfl rfl rfl) ?_; clear hf a; intro a hf
                    refine o_v hf hh (y_pf rfl rfl) ?_; clear hf a; intro a hf
                    refine o_v hf hh (yv_move rfl) ?_; clear hf a; intro a hf
                    refine guard_split hf (t := 232) rfl (fun hg69 => ?_) (fun hg69 => ?_)
                    ·have hG69 := hg69; try simp only [gS] at hG69
                     refine o_off hf ?_; clear hf a; intro a hf
                     refine o_off hf ?_; clear hf a; intro a hf
                     refine o_off hf ?_; clear hf a; intro a hf
                     refine o_off hf ?_; clear hf a; intro a hf
                     refine o_off hf ?_; clear hf a; intro a hf
                     refine o_v hf hh (y_pt rfl rfl) ?_; clear hf a; intro a hf
                     refine o_v hf hh (yv_move rfl) ?_; clear hf a; intro a hf
                     refine o_off hf ?_; clear hf a; intro a hf
                     refine o_off hf ?_; clear hf a; intro a hf
                     refine o_off hf ?_; clear hf a; intro a hf
                     refine o_off hf ?_; clear hf a; intro a hf
                     refine o_off hf ?_; clear hf a; intro a hf
                     refine o_v hf hh (y_pt rfl rfl) ?_; clear hf a; intro a hf
                     refine o_v hf hh (yv_move rfl) ?_; clear hf a; intro a hf
                     refine o_off hf ?_; clear hf a; intro a hf
                     refine o_off hf ?_; clear hf a; intro a hf
                     refine o_off hf ?_; clear hf a; intro a hf
                     refine o_off hf ?_; clear hf a; intro a hf
                     refine o_off hf ?_; clear hf a; intro a hf
                     refine o_v hf hh (y_pt rfl rfl) ?_; clear hf a; intro a hf
                     refine o_end ?_
                     refine c_t hf ?_
                     refine sy_sq ?_
                     refine o_v hf hh (yv_assign rfl) ?_; clear hf a; intro a hf
                     refine o_end ?_
                     refine sy_ret ?_
                     refine then_r ?_
                     refine ret_r hf rfl rfl ?_
                     first
                       | exact ⟨rfl, hh.ext⟩
                       | (exfalso
                          (repeat (rename Fr _ _ _ _ => z9; clear z9))
                          (repeat (rename Hp _ _ _ _ => z9; clear z9))
                          (try clear hcn); (try clear hat); (try clear hbe)
                          first
                            | (rcases hK with ⟨h1, h2, h3⟩ | ⟨h1, h2, h3⟩ | ⟨h1, h2, h3⟩ <;> first | (omega; done) | (simp_all; done))
                            | (omega; done)
                            | (simp_all; done)
                            | (simp_all <;> omega))
                    ·have hG69 := hg69; try simp only [gS] at hG69
                     refine o_v hf hh (yv_move rfl) ?_; clear hf a; intro a hf
                     refine o_call hf Try.en_36 rfl rfl rfl (p36 (whyV c) (by omega) _) ?_; clear hf a; intro v a w hR hf
                     obtain ⟨rfl, hx⟩ := hR; replace hh := hh.more hx; clear hx
                     refine o_v hf hh (yv_move rfl) ?_; clear hf a; intro a hf
                     refine o_call hf Try.en_36 rfl rfl rfl (p36 (whyV (renC c σ)) (by omega) _) ?_; clear hf a; intro v a w hR hf
                     obtain ⟨rfl, hx⟩ := hR; replace hh := hh.more hx; clear hx
                     refine o_v hf hh (yv_bin rfl rfl rfl) ?_; clear hf a; intro a hf
                     refine o_v hf hh (y_pf rfl rfl) ?_; clear hf a; intro a hf
                     refine o_v hf hh (yv_move rfl) ?_; clear hf a; intro a hf
                     refine guard_split hf (t := 239) rfl (fun hg73 => ?_) (fun hg73 => ?_)
                     ·have hG73 := hg73; try simp only [gS] at hG73
                      refine o_off hf ?_; clear hf a; intro a hf
                      refine o_off hf ?_; clear hf a; intro a hf
                      refine o_off hf ?_; clear hf a; intro a hf
                      refine o_off hf ?_; clear hf a; intro a hf
                      refine o_off hf ?_; clear hf a; intro a hf
                      refine o_v hf hh (y_pt rfl rfl) ?_; clear hf a; intro a hf
                      refine o_v hf hh (yv_move rfl) ?_; clear hf a; intro a hf
                      refine o_off hf ?_; clear hf a; intro a hf
                      refine o_off hf ?_; clear hf a; intro a hf
                      refine o_off hf ?_; clear hf a; intro a hf
                      refine o_off hf ?_; clear hf a; intro a hf
                      refine o_off hf ?_; clear hf a; intro a hf
                      refine o_v hf hh (y_pt rfl rfl) ?_; clear hf a; intro a hf
                      refine o_end ?_
                      refine c_t hf ?_
                      refine sy_sq ?_
                      refine o_v hf hh (yv_assign rfl) ?_; clear hf a; intro a hf
                      refine o_end ?_
                      refine sy_ret ?_
                      refine then_r ?_
                      refine ret_r hf rfl rfl ?_
                      first
                        | exact ⟨rfl, hh.ext⟩
                        | (exfalso
                           (repeat (rename Fr _ _ _ _ => z9; clear z9))
                           (repeat (rename Hp _ _ _ _ => z9; clear z9))
                           (try clear hcn); (try clear hat); (try clear hbe)
                           first
                             | (rcases hK with ⟨h1, h2, h3⟩ | ⟨h1, h2, h3⟩ | ⟨h1, h2, h3⟩ <;> first | (omega; done) | (simp_all; done))
                             | (omega; done)
                             | (simp_all; done)
                             | (simp_all <;> omega))
                     ·have hG73 := hg73; try simp only [gS] at hG73
                      refine o_v hf hh (yv_move rfl) ?_; clear hf a; intro a hf
                      refine o_call hf Try.en_36 rfl rfl rfl (p36 (drpV c) (by omega) _) ?_; clear hf a; intro v a w hR hf
                      obtain ⟨rfl, hx⟩ := hR; replace hh := hh.more hx; clear hx
                      refine o_v hf hh (yv_move rfl) ?_; clear hf a; intro a hf
                      refine o_call hf Try.en_36 rfl rfl rfl (p36 (drpV (renC c σ)) (by omega) _) ?_; clear hf a; intro v a w hR hf
                      obtain ⟨rfl, hx⟩ := hR; replace hh := hh.more hx; clear hx
                      refine o_v hf hh (yv_bin rfl rfl rfl) ?_; clear hf a; intro a hf
                      refine o_v hf hh (y_pf rfl rfl) ?_; clear hf a; intro a hf
                      refine o_v hf hh (yv_move rfl) ?_; clear hf a; intro a hf
                      refine guard_split hf (t := 246) rfl (fun hg77 => ?_) (fun hg77 => ?_)
                      ·have hG77 := hg77; try simp only [gS] at hG77
                       refine o_off hf ?_; clear hf a; intro a hf
                       refine o_off hf ?_; clear hf a; intro a hf
                       refine o_off hf ?_; clear hf a; intro a hf
                       refine o_off hf ?_; clear hf a; intro a hf
                       refine o_off hf ?_; clear hf a; intro a hf
                       refine o_v hf hh (y_pt rfl rfl) ?_; clear hf a; intro a hf
                       refine o_end ?_
                       refine c_t hf ?_
                       refine sy_sq ?_
                       refine o_v hf hh (yv_assign rfl) ?_; clear hf a; intro a hf
                       refine o_end ?_
                       refine sy_ret ?_
                       refine then_r ?_
                       refine ret_r hf rfl rfl ?_
                       first
                         | exact ⟨rfl, hh.ext⟩
                         | (exfalso
                            (repeat (rename Fr _ _ _ _ => z9; clear z9))
                            (repeat (rename Hp _ _ _ _ => z9; clear z9))
                            (try clear hcn); (try clear hat); (try clear hbe)
                            first
                              | (rcases hK with ⟨h1, h2, h3⟩ | ⟨h1, h2, h3⟩ | ⟨h1, h2, h3⟩ <;> first | (omega; done) | (simp_all; done))
                              | (omega; done)
                              | (simp_all; done)
                              | (simp_all <;> omega))
                      ·have hG77 := hg77; try simp only [gS] at hG77
                       refine o_v hf hh (yv_move rfl) ?_; clear hf a; intro a hf
                       refine o_v hf hh (yv_move rfl) ?_; clear hf a; intro a hf
                       refine o_call hf Try.en_39 rfl rfl rfl (p39 (idlV c) c.si.length B10 _ (hh.at (i := 2) rfl) il hl10) ?_; clear hf a; intro v a w hR hf
                       obtain ⟨rfl, hx⟩ := hR; replace hh := hh.more hx; clear hx
                       refine o_v hf hh (yv_move rfl) ?_; clear hf a; intro a hf
                       refine o_v hf hh (yv_bin rfl rfl rfl) ?_; clear hf a; intro a hf
                       refine o_v hf hh (y_pf rfl rfl) ?_; clear hf a; intro a hf
                       refine o_end ?_
                       refine sy_cond hf rfl (fun hg80 => ?_) (fun hg80 => ?_)
                       ·have hG80 := hg80; try simp only [gS] at hG80
                        refine sy_sq ?_
                        refine o_v hf hh (yv_assign rfl) ?_; clear hf a; intro a hf
                        refine o_end ?_
                        refine sy_ret ?_
                        refine then_r ?_
                        refine ret_r hf rfl rfl ?_
                        first
                          | exact ⟨rfl, hh.ext⟩
                          | (exfalso
                             (repeat (rename Fr _ _ _ _ => z9; clear z9))
                             (repeat (rename Hp _ _ _ _ => z9; clear z9))
                             (try clear hcn); (try clear hat); (try clear hbe)
                             first
                               | (rcases hK with ⟨h1, h2, h3⟩ | ⟨h1, h2, h3⟩ | ⟨h1, h2, h3⟩ <;> first | (omega; done) | (simp_all; done))
                               | (omega; done)
                               | (simp_all; done)
                               | (simp_all <;> omega))
                       ·have hG80 := hg80; try simp only [gS] at hG80
                        refine sy_skip ?_
                        refine then_n ?_
                        refine sy_seq ?_
                        refine sy_sq ?_
                        refine o_v hf hh (yv_move rfl) ?_; clear hf a; intro a hf
                        refine o_v hf hh (yv_bin rfl rfl rfl) ?_; clear hf a; intro a hf
                        refine o_v hf hh (yv_move rfl) ?_; clear hf a; intro a hf
                        refine guard_split hf (t := 255) rfl (fun hg82 => ?_) (fun hg82 => ?_)
                        ·have hG82 := hg82; try simp only [gS] at hG82
                         refine o_off hf ?_; clear hf a; intro a hf
                         refine o_off hf ?_; clear hf a; intro a hf
                         refine o_v hf hh (y_pt rfl rfl) ?_; clear hf a; intro a hf
                         refine o_v hf hh (yv_move rfl) ?_; clear hf a; intro a hf
                         refine o_off hf ?_; clear hf a; intro a hf
                         refine o_off hf ?_; clear hf a; intro a hf
                         refine o_off hf ?_; clear hf a; intro a hf
                         refine o_v hf hh (y_pt rfl rfl) ?_; clear hf a; intro a hf
                         refine o_v hf hh (yv_move rfl) ?_; clear hf a; intro a hf
                         refine o_off hf ?_; clear hf a; intro a hf
                         refine o_off hf ?_; clear hf a; intro a hf
                         refine o_off hf ?_; clear hf a; intro a hf
                         refine o_v hf hh (y_pt rfl rfl) ?_; clear hf a; intro a hf
                         refine o_end ?_
                         refine c_t hf ?_
                         refine sy_sq ?_
                         refine o_call hf Try.en_14 rfl rfl rfl (p14 _) ?_; clear hf a; intro v a w hR hf
                         obtain ⟨rfl, hx⟩ := hR; replace hh := hh.more hx; clear hx
                         refine o_v hf hh (yv_assign rfl) ?_; clear hf a; intro a hf
                         refine o_end ?_
                         refine sy_ret ?_
                         refine then_r ?_
                         refine ret_r hf rfl rfl ?_
                         first
                           | exact ⟨rfl, hh.ext⟩
                           | (exfalso
                              (repeat (rename Fr _ _ _ _ => z9; clear z9))
                              (repeat (rename Hp _ _ _ _ => z9; clear z9))
                              (try clear hcn); (try clear hat); (try clear hbe)
                              first
                                | (rcases hK with ⟨h1, h2, h3⟩ | ⟨h1, h2, h3⟩ | ⟨h1, h2, h3⟩ <;> first | (omega; done) | (simp_all; done))
                                | (omega; done)
                                | (simp_all; done)
                                | (simp_all <;> omega))
                        ·have hG82 := hg82; try simp only [gS] at hG82
                         refine o_v hf hh (yv_move rfl) ?_; clear hf a; intro a hf
                         refine o_v hf hh (yv_bin rfl rfl rfl) ?_; clear hf a; intro a hf
                         refine o_v hf hh (y_pf rfl rfl) ?_; clear hf a; intro a hf
                         refine o_v hf hh (yv_move rfl) ?_; clear hf a; intro a hf
                         refine guard_split hf (t := 259) rfl (fun hg85 => ?_) (fun hg85 => ?_)
                         ·have hG85 := hg85; try simp only [gS] at hG85
                          refine o_off hf ?_; clear hf a; intro a hf
                          refine o_off hf ?_; clear hf a; intro a hf
                          refine o_off hf ?_; clear hf a; intro a hf
                          refine o_v hf hh (y_pt rfl rfl) ?_; clear hf a; intro a hf
                          refine o_v hf hh (yv_move rfl) ?_; clear hf a; intro a hf
                          refine o_off hf ?_; clear hf a; intro a hf
                          refine o_off hf ?_; clear hf a; intro a hf
                          refine o_off hf ?_; clear hf a; intro a hf
                          refine o_v hf hh (y_pt rfl rfl) ?_; clear hf a; intro a hf
                          refine o_end ?_
                          refine c_t hf ?_
                          refine sy_sq ?_
                          refine o_call hf Try.en_14 rfl rfl rfl (p14 _) ?_; clear hf a; intro v a w hR hf
                          obtain ⟨rfl, hx⟩ := hR; replace hh := hh.more hx; clear hx
                          refine o_v hf hh (yv_assign rfl) ?_; clear hf a; intro a hf
                          refine o_end ?_
                          refine sy_ret ?_
                          refine then_r ?_
                          refine ret_r hf rfl rfl ?_
                          first
                            | exact ⟨rfl, hh.ext⟩
                            | (exfalso
                               (repeat (rename Fr _ _ _ _ => z9; clear z9))
                               (repeat (rename Hp _ _ _ _ => z9; clear z9))
                               (try clear hcn); (try clear hat); (try clear hbe)
                               first
                                 | (rcases hK with ⟨h1, h2, h3⟩ | ⟨h1, h2, h3⟩ | ⟨h1, h2, h3⟩ <;> first | (omega; done) | (simp_all; done))
                                 | (omega; done)
                                 | (simp_all; done)
                                 | (simp_all <;> omega))
                         ·have hG85 := hg85; try simp only [gS] at hG85
                          refine o_v hf hh (yv_move rfl) ?_; clear hf a; intro a hf
                          refine o_v hf hh (y_ld Try.sc_3 rfl) ?_; clear hf a; intro a hf
                          refine o_v hf hh (yv_bin rfl rfl rfl) ?_; clear hf a; intro a hf
                          refine o_v hf hh (y_pf rfl rfl) ?_; clear hf a; intro a hf
                          refine o_v hf hh (yv_move rfl) ?_; clear hf a; intro a hf
                          refine guard_split hf (t := 264) rfl (fun hg88 => ?_) (fun hg88 => ?_)
                          ·have hG88 := hg88; try simp only [gS] at hG88
                           refine o_off hf ?_; clear hf a; intro a hf
                           refine o_off hf ?_; clear hf a; intro a hf
                           refine o_off hf ?_; clear hf a; intro a hf
                           refine o_v hf hh (y_pt rfl rfl) ?_; clear hf a; intro a hf
                           refine o_end ?_
                           refine c_t hf ?_
                           refine sy_sq ?_
                           refine o_call hf Try.en_14 rfl rfl rfl (p14 _) ?_; clear hf a; intro v a w hR hf
                           obtain ⟨rfl, hx⟩ := hR; replace hh := hh.more hx; clear hx
                           refine o_v hf hh (yv_assign rfl) ?_; clear hf a; intro a hf
                           refine o_end ?_
                           refine sy_ret ?_
                           refine then_r ?_
                           refine ret_r hf rfl rfl ?_
                           first
                             | exact ⟨rfl, hh.ext⟩
                             | (exfalso
                                (repeat (rename Fr _ _ _ _ => z9; clear z9))
                                (repeat (rename Hp _ _ _ _ => z9; clear z9))
                                (try clear hcn); (try clear hat); (try clear hbe)
                                first
                                  | (rcases hK with ⟨h1, h2, h3⟩ | ⟨h1, h2, h3⟩ | ⟨h1, h2, h3⟩ <;> first | (omega; done) | (simp_all; done))
                                  | (omega; done)
                                  | (simp_all; done)
                                  | (simp_all <;> omega))
                          ·have hG88 := hg88; try simp only [gS] at hG88
                           refine o_v hf hh (yv_move rfl) ?_; clear hf a; intro a hf
                           refine o_v hf hh (y_ld Try.sc_3 rfl) ?_; clear hf a; intro a hf
                           refine o_v hf hh (yv_bin rfl rfl rfl) ?_; clear hf a; intro a hf
                           refine o_v hf hh (y_pf rfl rfl) ?_; clear hf a; intro a hf
                           refine o_end ?_
                           refine sy_cond hf rfl (fun hg91 => ?_) (fun hg91 => ?_)
                           ·have hG91 := hg91; try simp only [gS] at hG91
                            refine sy_sq ?_
                            refine o_call hf Try.en_14 rfl rfl rfl (p14 _) ?_; clear hf a; intro v a w hR hf
                            obtain ⟨rfl, hx⟩ := hR; replace hh := hh.more hx; clear hx
                            refine o_v hf hh (yv_assign rfl) ?_; clear hf a; intro a hf
                            refine o_end ?_
                            refine sy_ret ?_
                            refine then_r ?_
                            refine ret_r hf rfl rfl ?_
                            first
                              | exact ⟨rfl, hh.ext⟩
                              | (exfalso
                                 (repeat (rename Fr _ _ _ _ => z9; clear z9))
                                 (repeat (rename Hp _ _ _ _ => z9; clear z9))
                                 (try clear hcn); (try clear hat); (try clear hbe)
                                 first
                                   | (rcases hK with ⟨h1, h2, h3⟩ | ⟨h1, h2, h3⟩ | ⟨h1, h2, h3⟩ <;> first | (omega; done) | (simp_all; done))
                                   | (omega; done)
                                   | (simp_all; done)
                                   | (simp_all <;> omega))
                           ·have hG91 := hg91; try simp only [gS] at hG91
                            refine sy_skip ?_
                            refine then_n ?_
                            refine sy_seq ?_
                            have hx0 : 0 ≤ x ∧ x < (nn : Int) := by omega
                            have hy0 : 0 ≤ y ∧ y < (nn : Int) := by omega
                            have g1 := flip_bet hcb x y
                            obtain ⟨x1, rfl⟩ : ∃ k : Nat, x = k := ⟨x.toNat, by omega⟩
                            obtain ⟨y1, rfl⟩ : ∃ k : Nat, y = k := ⟨y.toNat, by omega⟩
                            have g2 := ren_bet (σ := σ) (τ := τ) hO hs9 (u := x1) (v := y1) (by omega) (by omega)
                            obtain ⟨g11, g12⟩ := g1; obtain ⟨g21, g22⟩ := g2
                            have g13 := g12 false; have g14 := g12 true; have g23 := g22 false; have g24 := g22 true
                            clear g12 g22
                            refine sy_ops ?_
                            refine o_v hf hh (y_lds Try.ag_24 rfl) ?_; clear hf a; intro a hf
                            refine o_v hf hh (yv_move rfl) ?_; clear hf a; intro a hf
                            refine o_v hf hh (yv_move rfl) ?_; clear hf a; intro a hf
                            refine o_call hf Try.en_17 rfl rfl rfl (p17 c sa cp (x1 : Nat) (y1 : Nat) _ (hA.ext hh.ext)) ?_; clear hf a; intro v a w hR hf
                            obtain ⟨rfl, hx⟩ := hR; replace hh := hh.more hx; clear hx
                            refine o_v hf hh (yv_move rfl) ?_; clear hf a; intro a hf
                            refine o_v hf hh (yv_extract rfl rfl) ?_; clear hf a; intro a hf
                            refine o_v hf hh (yv_extract rfl rfl) ?_; clear hf a; intro a hf
                            refine o_v hf hh (yv_extract rfl rfl) ?_; clear hf a; intro a hf
                            refine o_alloc hf hh Try.ze_28 ?_; clear hf hh a; intro B36 a w hf hh
                            refine o_alloc hf hh Try.ze_28 ?_; clear hf hh a; intro B37 a w hf hh
                            refine o_store hf hh Try.sz_28 fun w hh => ?_
                            refine o_store hf hh Try.sz_28 fun w hh => ?_
                            refine o_v hf hh (yv_assign rfl) ?_; clear hf a; intro a hf
                            refine o_end ?_
                            refine sy_sq ?_
                            refine o_v hf hh (y_lds Try.ag_24 rfl) ?_; clear hf a; intro a hf
                            refine o_v hf hh (yv_move rfl) ?_; clear hf a; intro a hf
                            refine o_v hf hh (yv_move rfl) ?_; clear hf a; intro a hf
                            refine o_call hf Try.en_17 rfl rfl rfl (p17 (flipC c) oa ca (x1 : Nat) (y1 : Nat) _ (hDA _ (fun q hq => hh.get q (by simp [hq])))) ?_; clear hf a; intro v a w hR hf
                            obtain ⟨rfl, hx⟩ := hR; replace hh := hh.more hx; clear hx
                            refine o_v hf hh (yv_move rfl) ?_; clear hf a; intro a hf
                            refine o_v hf hh (yv_extract rfl rfl) ?_; clear hf a; intro a hf
                            refine o_v hf hh (yv_extract rfl rfl) ?_; clear hf a; intro a hf
                            refine o_v hf hh (yv_extract rfl rfl) ?_; clear hf a; intro a hf
                            refine o_alloc hf hh Try.ze_28 ?_; clear hf hh a; intro B39 a w hf hh
                            refine o_alloc hf hh Try.ze_28 ?_; clear hf hh a; intro B40 a w hf hh
                            refine o_store hf hh Try.sz_28 fun w hh => ?_
                            refine o_store hf hh Try.sz_28 fun w hh => ?_
                            refine o_v hf hh (yv_assign rfl) ?_; clear hf a; intro a hf
                            refine o_end ?_
                            refine sy_cut (σ := Nat × Nat) [42, 43, 44, 286, 287, 288, 289, 290, 291, 292, 293, 294, 295, 296, 297] (fun q => [(42, ptr q.1 0), (43, ptr q.2 0), (44, .int .i64 (betE (renC c σ) (σ x1 : Nat) (σ y1 : Nat)))]) (fun q => fun w' => Hp u [] [(q.2, .cells (spC (betV (renC c σ) true (σ x1 : Nat) (σ y1 : Nat))).toArray 28), (q.1, .cells (spC (betV (renC c σ) false (σ x1 : Nat) (σ y1 : Nat))).toArray 28), (B40, .cells (spC (betV (flipC c) true (x1 : Nat) (y1 : Nat))).toArray 28), (B39, .cells (spC (betV (flipC c) false (x1 : Nat) (y1 : Nat))).toArray 28), (B37, .cells (spC (betV c true (x1 : Nat) (y1 : Nat))).toArray 28), (B36, .cells (spC (betV c false (x1 : Nat) (y1 : Nat))).toArray 28)] w') hf ?_ ?_
                            ·refine sy_treeC (.q 0 0 (.p 1 (.p 2 (.p 4 (.p 5 (.e3 3 (.e3 6 (.e3 7 (.p 8 (.p 9 (.p 10 (.p 11 (.e2 12 (.e1 13 (.e1 14 (.e1 15 (.p 16 (.fin))))) 13 (.e1 12 (.e1 14 (.e1 15 (.p 16 (.fin)))))))))) 12 (.e2 7 (.p 8 (.p 9 (.p 10 (.p 11 (.e1 13 (.e1 14 (.e1 15 (.p 16 (.fin))))))))) 13 (.e1 7 (.p 8 (.p 9 (.p 10 (.p 11 (.e1 14 (.e1 15 (.p 16 (.fin)))))))))) 13 (.e2 7 (.p 8 (.p 9 (.p 10 (.p 11 (.e1 12 (.e1 14 (.e1 15 (.p 16 (.fin))))))))) 12 (.e1 7 (.p 8 (.p 9 (.p 10 (.p 11 (.e1 14 (.e1 15 (.p 16 (.fin))))))))))) 12 (.e2 6 (.e2 7 (.p 8 (.p 9 (.p 10 (.p 11 (.e1 13 (.e1 14 (.e1 15 (.p 16 (.fin))))))))) 13 (.e1 7 (.p 8 (.p 9 (.p 10 (.p 11 (.e1 14 (.e1 15 (.p 16 (.fin)))))))))) 13 (.e1 6 (.e1 7 (.p 8 (.p 9 (.p 10 (.p 11 (.e1 14 (.e1 15 (.p 16 (.fin))))))))))) 13 (.e2 6 (.e2 7 (.p 8 (.p 9 (.p 10 (.p 11 (.e1 12 (.e1 14 (.e1 15 (.p 16 (.fin))))))))) 12 (.e1 7 (.p 8 (.p 9 (.p 10 (.p 11 (.e1 14 (.e1 15 (.p 16 (.fin)))))))))) 12 (.e1 6 (.e1 7 (.p 8 (.p 9 (.p 10 (.p 11 (.e1 14 (.e1 15 (.p 16 (.fin)))))))))))) 12 (.e2 3 (.e2 6 (.e2 7 (.p 8 (.p 9 (.p 10 (.p 11 (.e1 13 (.e1 14 (.e1 15 (.p 16 (.fin))))))))) 13 (.e1 7 (.p 8 (.p 9 (.p 10 (.p 11 (.e1 14 (.e1 15 (.p 16 (.fin)))))))))) 13 (.e1 6 (.e1 7 (.p 8 (.p 9 (.p 10 (.p 11 (.e1 14 (.e1 15 (.p 16 (.fin))))))))))) 13 (.e1 3 (.e1 6 (.e1 7 (.p 8 (.p 9 (.p 10 (.p 11 (.e1 14 (.e1 15 (.p 16 (.fin)))))))))))) 13 (.e2 3 (.e2 6 (.e2 7 (.p 8 (.p 9 (.p 10 (.p 11 (.e1 12 (.e1 14 (.e1 15 (.p 16 (.fin))))))))) 12 (.e1 7 (.p 8 (.p 9 (.p 10 (.p 11 (.e1 14 (.e1 15 (.p 16 (.fin)))))))))) 12 (.e1 6 (.e1 7 (.p 8 (.p 9 (.p 10 (.p 11 (.e1 14 (.e1 15 (.p 16 (.fin))))))))))) 12 (.e1 3 (.e1 6 (.e1 7 (.p 8 (.p 9 (.p 10 (.p 11 (.e1 14 (.e1 15 (.p 16 (.fin)))))))))))))))))) [[]] [(AtE u [] [(B13, .cells (chC (renC c σ) ob cb) 24)], [])] Try.follows (by kernel_rfl) rfl hh (fun w hh => ?_)
                             refine mc_q rfl rfl (AtE.of hh (by intro p hp; rw [List.mem_singleton.1 hp]; simp)) hf (y_lds Try.ag_24 rfl) (.inl rfl) rfl rfl ?_; clear hf a; intro a hf
                             refine mc_p rfl   hf (yv_move rfl) (.inl rfl) rfl rfl ?_; clear hf a; intro a hf
                             refine mc_p rfl   hf (yv_move rfl) (.inl rfl) rfl rfl ?_; clear hf a; intro a hf
                             refine mc_p rfl   hf (yv_move rfl) (.inl rfl) rfl rfl ?_; clear hf a; intro a hf
                             refine mc_p rfl   hf (yv_move rfl) (.inl rfl) rfl rfl ?_; clear hf a; intro a hf
                             refine ⟨?_, ?_, ?_⟩
                             ·refine mc_e rfl fun Q1 => ?_
                              refine o_call hf Try.en_38 rfl rfl rfl (p38 (x1 : Nat) zn nn B7 B9 _ (by first | exact hh.at (i := 8) rfl | exact hh.at (i := 9) rfl | exact hh.at (i := 10) rfl) (by first | exact hh.at (i := 7) rfl | exact hh.at (i := 8) rfl | exact hh.at (i := 9) rfl) ⟨by omega, by omega⟩ (by omega) ⟨by omega, by omega⟩) ?_; clear hf a; intro v a w hR hf
                              rw [← hσ, Int.toNat_natCast] at hR
                              obtain ⟨rfl, hx⟩ := hR; replace hh := hh.more hx; clear hx
                              refine ops_end ?_
                              refine then_n ⟨⟨fun _ _ => (AtE.of hh (by intro p hp; rw [List.mem_singleton.1 hp]; simp)), trivial⟩, ?_⟩
                              refine ⟨?_, ?_, ?_⟩
                              ·refine mc_e rfl fun Q1 => ?_
                               refine o_call hf Try.en_38 rfl rfl rfl (p38 (y1 : Nat) zn nn B7 B9 _ (by first | exact hh.at (i := 8) rfl | exact hh.at (i := 9) rfl | exact hh.at (i := 10) rfl) (by first | exact hh.at (i := 7) rfl | exact hh.at (i := 8) rfl | exact hh.at (i := 9) rfl) ⟨by omega, by omega⟩ (by omega) ⟨by omega, by omega⟩) ?_; clear hf a; intro v a w hR hf
                               rw [← hσ, Int.toNat_natCast] at hR
                               obtain ⟨rfl, hx⟩ := hR; replace hh := hh.more hx; clear hx
                               refine ops_end ?_
                               refine then_n ⟨⟨fun _ _ => (AtE.of hh (by intro p hp; rw [List.mem_singleton.1 hp]; simp)), trivial⟩, ?_⟩
                               refine ⟨?_, ?_, ?_⟩
                               ·refine mc_e rfl fun Q1 => ?_
                                refine o_call hf Try.en_17 rfl rfl rfl (p17 (renC c σ) ob cb (σ x1 : Nat) (σ y1 : Nat) _ (hDB _ (fun q hq => hh.get q (by simp [hq])))) ?_; clear hf a; intro v a w hR hf
                                obtain ⟨rfl, hx⟩ := hR; replace hh := hh.more hx; clear hx
                                refine ops_end ?_
                                refine then_n ⟨⟨fun _ _ => (AtE.of hh (by intro p hp; rw [List.mem_singleton.1 hp]; simp)), trivial⟩, ?_⟩
                                refine mc_p rfl   hf (yv_move rfl) (.inl rfl) rfl rfl ?_; clear hf a; intro a hf
                                refine mc_p rfl   hf (yv_extract rfl rfl) (.inl rfl) rfl rfl ?_; clear hf a; intro a hf
                                refine mc_p rfl   hf (yv_extract rfl rfl) (.inl rfl) rfl rfl ?_; clear hf a; intro a hf
                                refine mc_p rfl   hf (yv_extract rfl rfl) (.inl rfl) rfl rfl ?_; clear hf a; intro a hf
                                refine ⟨?_, ?_⟩
                                ·refine mc_e rfl fun Q1 => ?_
                                 refine o_alloc hf hh Try.ze_28 ?_; clear hf hh a; intro B42 a w hf hh
                                 refine ops_end ?_
                                 refine then_n ⟨⟨fun _ _ => (AtE.of hh (by intro p hp; rw [List.mem_singleton.1 hp]; simp)), trivial⟩, ?_⟩
                                 refine mc_e rfl fun Q1 => ?_
                                 refine o_alloc hf hh Try.ze_28 ?_; clear hf hh a; intro B43 a w hf hh
                                 refine ops_end ?_
                                 refine then_n ⟨⟨fun _ _ => (AtE.of hh (by intro p hp; rw [List.mem_singleton.1 hp]; simp)), trivial⟩, ?_⟩
                                 refine mc_e rfl fun Q1 => ?_
                                 refine o_store hf hh Try.sz_28 fun w hh => ?_
                                 refine ops_end ?_
                                 refine then_n ⟨⟨fun _ _ => (AtE.of hh (by intro p hp; rw [List.mem_singleton.1 hp]; simp)), trivial⟩, ?_⟩
                                 refine mc_e rfl fun Q1 => ?_
                                 refine o_store hf hh Try.sz_28 fun w hh => ?_
                                 refine ops_end ?_
                                 refine then_n ⟨⟨fun _ _ => (AtE.of hh (by intro p hp; rw [List.mem_singleton.1 hp]; simp)), trivial⟩, ?_⟩
                                 refine mc_p rfl   hf (yv_assign rfl) (.inl rfl) rfl rfl ?_; clear hf a; intro a hf
                                 refine mc_end ?_
                                 refine then_n ?_
                                 exact ⟨(B42, B43), by first | exact hh.pick [0, 1, 2, 3, 4, 5] | exact hh.pick [1, 0, 2, 3, 4, 5], hf.head ⟨rfl, rfl, rfl, True.intro⟩ (Keep.cons rfl (Keep.cons rfl (Keep.cons rfl (Keep.cons rfl (Keep.cons rfl (Keep.cons rfl (Keep.cons rfl (Keep.cons rfl (Keep.cons rfl (Keep.cons rfl (Keep.cons rfl (Keep.cons rfl (Keep.cons rfl (Keep.cons rfl (Keep.cons rfl (Keep.base))))))))))))))))⟩
                                ·refine mc_e rfl fun Q1 => ?_
                                 refine o_alloc hf hh Try.ze_28 ?_; clear hf hh a; intro B43 a w hf hh
                                 refine ops_end ?_
                                 refine then_n ⟨⟨fun _ _ => (AtE.of hh (by intro p hp; rw [List.mem_singleton.1 hp]; simp)), trivial⟩, ?_⟩
                                 refine mc_e rfl fun Q1 => ?_
                                 refine o_alloc hf hh Try.ze_28 ?_; clear hf hh a; intro B42 a w hf hh
                                 refine ops_end ?_
                                 refine then_n ⟨⟨fun _ _ => (AtE.of hh (by intro p hp; rw [List.mem_singleton.1 hp]; simp)), trivial⟩, ?_⟩
                                 refine mc_e rfl fun Q1 => ?_
                                 refine o_store hf hh Try.sz_28 fun w hh => ?_
                                 refine ops_end ?_
                                 refine then_n ⟨⟨fun _ _ => (AtE.of hh (by intro p hp; rw [List.mem_singleton.1 hp]; simp)), trivial⟩, ?_⟩
                                 refine mc_e rfl fun Q1 => ?_
                                 refine o_store hf hh Try.sz_28 fun w hh => ?_
                                 refine ops_end ?_
                                 refine then_n ⟨⟨fun _ _ => (AtE.of hh (by intro p hp; rw [List.mem_singleton.1 hp]; simp)), trivial⟩, ?_⟩
                                 refine mc_p rfl   hf (yv_assign rfl) (.inl rfl) rfl rfl ?_; clear hf a; intro a hf
                                 refine mc_end ?_
                                 refine then_n ?_
                                 exact ⟨(B42, B43), by first | exact hh.pick [0, 1, 2, 3, 4, 5] | exact hh.pick [1, 0, 2, 3, 4, 5], hf.head ⟨rfl, rfl, rfl, True.intro⟩ (Keep.cons rfl (Keep.cons rfl (Keep.cons rfl (Keep.cons rfl (Keep.cons rfl (Keep.cons rfl (Keep.cons rfl (Keep.cons rfl (Keep.cons rfl (Keep.cons rfl (Keep.cons rfl (Keep.cons rfl (Keep.cons rfl (Keep.cons rfl (Keep.cons rfl (Keep.base))))))))))))))))⟩
                               ·refine mc_e rfl fun Q1 => ?_
                                refine o_alloc hf hh Try.ze_28 ?_; clear hf hh a; intro B42 a w hf hh
                                refine ops_end ?_
                                refine then_n ⟨⟨fun _ _ => (AtE.of hh (by intro p hp; rw [List.mem_singleton.1 hp]; simp)), trivial⟩, ?_⟩
                                refine ⟨?_, ?_⟩
                                ·refine mc_e rfl fun Q1 => ?_
                                 refine o_call hf Try.en_17 rfl rfl rfl (p17 (renC c σ) ob cb (σ x1 : Nat) (σ y1 : Nat) _ (hDB _ (fun q hq => hh.get q (by simp [hq])))) ?_; clear hf a; intro v a w hR hf
                                 obtain ⟨rfl, hx⟩ := hR; replace hh := hh.more hx; clear hx
                                 refine ops_end ?_
                                 refine then_n ⟨⟨fun _ _ => (AtE.of hh (by intro p hp; rw [List.mem_singleton.1 hp]; simp)), trivial⟩, ?_⟩
                                 refine mc_p rfl   hf (yv_move rfl) (.inl rfl) rfl rfl ?_; clear hf a; intro a hf
                                 refine mc_p rfl   hf (yv_extract rfl rfl) (.inl rfl) rfl rfl ?_; clear hf a; intro a hf
                                 refine mc_p rfl   hf (yv_extract rfl rfl) (.inl rfl) rfl rfl ?_; clear hf a; intro a hf
                                 refine mc_p rfl   hf (yv_extract rfl rfl) (.inl rfl) rfl rfl ?_; clear hf a; intro a hf
                                 refine mc_e rfl fun Q1 => ?_
                                 refine o_alloc hf hh Try.ze_28 ?_; clear hf hh a; intro B43 a w hf hh
                                 refine ops_end ?_
                                 refine then_n ⟨⟨fun _ _ => (AtE.of hh (by intro p hp; rw [List.mem_singleton.1 hp]; simp)), trivial⟩, ?_⟩
                                 refine mc_e rfl fun Q1 => ?_
                                 refine o_store hf hh Try.sz_28 fun w hh => ?_
                                 refine ops_end ?_
                                 refine then_n ⟨⟨fun _ _ => (AtE.of hh (by intro p hp; rw [List.mem_singleton.1 hp]; simp)), trivial⟩, ?_⟩
                                 refine mc_e rfl fun Q1 => ?_
                                 refine o_store hf hh Try.sz_28 fun w hh => ?_
                                 refine ops_end ?_
                                 refine then_n ⟨⟨fun _ _ => (AtE.of hh (by intro p hp; rw [List.mem_singleton.1 hp]; simp)), trivial⟩, ?_⟩
                                 refine mc_p rfl   hf (yv_assign rfl) (.inl rfl) rfl rfl ?_; clear hf a; intro a hf
                                 refine mc_end ?_
                                 refine then_n ?_
                                 exact ⟨(B42, B43), by first | exact hh.pick [0, 1, 2, 3, 4, 5] | exact hh.pick [1, 0, 2, 3, 4, 5], hf.head ⟨rfl, rfl, rfl, True.intro⟩ (Keep.cons rfl (Keep.cons rfl (Keep.cons rfl (Keep.cons rfl (Keep.cons rfl (Keep.cons rfl (Keep.cons rfl (Keep.cons rfl (Keep.cons rfl (Keep.cons rfl (Keep.cons rfl (Keep.cons rfl (Keep.cons rfl (Keep.cons rfl (Keep.cons rfl (Keep.base))))))))))))))))⟩
                                ·refine mc_e rfl fun Q1 => ?_
                                 refine o_alloc hf hh Try.ze_28 ?_; clear hf hh a; intro B43 a w hf hh
                                 refine ops_end ?_
                                 refine then_n ⟨⟨fun _ _ => (AtE.of hh (by intro p hp; rw [List.mem_singleton.1 hp]; simp)), trivial⟩, ?_⟩
                                 refine mc_e rfl fun Q1 => ?_
                                 refine o_call hf Try.en_17 rfl rfl rfl (p17 (renC c σ) ob cb (σ x1 : Nat) (σ y1 : Nat) _ (hDB _ (fun q hq => hh.get q (by simp [hq])))) ?_; clear hf a; intro v a w hR hf
                                 obtain ⟨rfl, hx⟩ := hR; replace hh := hh.more hx; clear hx
                                 refine ops_end ?_
                                 refine then_n ⟨⟨fun _ _ => (AtE.of hh (by intro p hp; rw [List.mem_singleton.1 hp]; simp)), trivial⟩, ?_⟩
                                 refine mc_p rfl   hf (yv_move rfl) (.inl rfl) rfl rfl ?_; clear hf a; intro a hf
                                 refine mc_p rfl   hf (yv_extract rfl rfl) (.inl rfl) rfl rfl ?_; clear hf a; intro a hf
                                 refine mc_p rfl   hf (yv_extract rfl rfl) (.inl rfl) rfl rfl ?_; clear hf a; intro a hf
                                 refine mc_p rfl   hf (yv_extract rfl rfl) (.inl rfl) rfl rfl ?_; clear hf a; intro a hf
                                 refine mc_e rfl fun Q1 => ?_
                                 refine o_store hf hh Try.sz_28 fun w hh => ?_
                                 refine ops_end ?_
                                 refine then_n ⟨⟨fun _ _ => (AtE.of hh (by intro p hp; rw [List.mem_singleton.1 hp]; simp)), trivial⟩, ?_⟩
                                 refine mc_e rfl fun Q1 => ?_
                                 refine o_store hf hh Try.sz_28 fun w hh => ?_
                                 refine ops_end ?_
                                 refine then_n ⟨⟨fun _ _ => (AtE.of hh (by intro p hp; rw [List.mem_singleton.1 hp]; simp)), trivial⟩, ?_⟩
                                 refine mc_p rfl   hf (yv_assign rfl) (.inl rfl) rfl rfl ?_; clear hf a; intro a hf
                                 refine mc_end ?_
                                 refine then_n ?_
                                 exact ⟨(B42, B43), by first | exact hh.pick [0, 1, 2, 3, 4, 5] | exact hh.pick [1, 0, 2, 3, 4, 5], hf.head ⟨rfl, rfl, rfl, True.intro⟩ (Keep.cons rfl (Keep.cons rfl (Keep.cons rfl (Keep.cons rfl (Keep.cons rfl (Keep.cons rfl (Keep.cons rfl (Keep.cons rfl (Keep.cons rfl (Keep.cons rfl (Keep.cons rfl (Keep.cons rfl (Keep.cons rfl (Keep.cons rfl (Keep.cons rfl (Keep.base))))))))))))))))⟩
                               ·refine mc_e rfl fun Q1 => ?_
                                refine o_alloc hf hh Try.ze_28 ?_; clear hf hh a; intro B43 a w hf hh
                                refine ops_end ?_
                                refine then_n ⟨⟨fun _ _ => (AtE.of hh (by intro p hp; rw [List.mem_singleton.1 hp]; simp)), trivial⟩, ?_⟩
                                refine ⟨?_, ?_⟩
                                ·refine mc_e rfl fun Q1 => ?_
                                 refine o_call hf Try.en_17 rfl rfl rfl (p17 (renC c σ) ob cb (σ x1 : Nat) (σ y1 : Nat) _ (hDB _ (fun q hq => hh.get q (by simp [hq])))) ?_; clear hf a; intro v a w hR hf
                                 obtain ⟨rfl, hx⟩ := hR; replace hh := hh.more hx; clear hx
                                 refine ops_end ?_
                                 refine then_n ⟨⟨fun _ _ => (AtE.of hh (by intro p hp; rw [List.mem_singleton.1 hp]; simp)), trivial⟩, ?_⟩
                                 refine mc_p rfl   hf (yv_move rfl) (.inl rfl) rfl rfl ?_; clear hf a; intro a hf
                                 refine mc_p rfl   hf (yv_extract rfl rfl) (.inl rfl) rfl rfl ?_; clear hf a; intro a hf
                                 refine mc_p rfl   hf (yv_extract rfl rfl) (.inl rfl) rfl rfl ?_; clear hf a; intro a hf
                                 refine mc_p rfl   hf (yv_extract rfl rfl) (.inl rfl) rfl rfl ?_; clear hf a; intro a hf
                                 refine mc_e rfl fun Q1 => ?_
                                 refine o_alloc hf hh Try.ze_28 ?_; clear hf hh a; intro B42 a w hf hh
                                 refine ops_end ?_
                                 refine then_n ⟨⟨fun _ _ => (AtE.of hh (by intro p hp; rw [List.mem_singleton.1 hp]; simp)), trivial⟩, ?_⟩
                                 refine mc_e rfl fun Q1 => ?_
                                 refine o_store hf hh Try.sz_28 fun w hh => ?_
                                 refine ops_end ?_
                                 refine then_n ⟨⟨fun _ _ => (AtE.of hh (by intro p hp; rw [List.mem_singleton.1 hp]; simp)), trivial⟩, ?_⟩
                                 refine mc_e rfl fun Q1 => ?_
                                 refine o_store hf hh Try.sz_28 fun w hh => ?_
                                 refine ops_end ?_
                                 refine then_n ⟨⟨fun _ _ => (AtE.of hh (by intro p hp; rw [List.mem_singleton.1 hp]; simp)), trivial⟩, ?_⟩
                                 refine mc_p rfl   hf (yv_assign rfl) (.inl rfl) rfl rfl ?_; clear hf a; intro a hf
                                 refine mc_end ?_
                                 refine then_n ?_
                                 exact ⟨(B42, B43), by first | exact hh.pick [0, 1, 2, 3, 4, 5] | exact hh.pick [1, 0, 2, 3, 4, 5], hf.head ⟨rfl, rfl, rfl, True.intro⟩ (Keep.cons rfl (Keep.cons rfl (Keep.cons rfl (Keep.cons rfl (Keep.cons rfl (Keep.cons rfl (Keep.cons rfl (Keep.cons rfl (Keep.cons rfl (Keep.cons rfl (Keep.cons rfl (Keep.cons rfl (Keep.cons rfl (Keep.cons rfl (Keep.cons rfl (Keep.base))))))))))))))))⟩
                                ·refine mc_e rfl fun Q1 => ?_
                                 refine o_alloc hf hh Try.ze_28 ?_; clear hf hh a; intro B42 a w hf hh
                                 refine ops_end ?_
                                 refine then_n ⟨⟨fun _ _ => (AtE.of hh (by intro p hp; rw [List.mem_singleton.1 hp]; simp)), trivial⟩, ?_⟩
                                 refine mc_e rfl fun Q1 => ?_
                                 refine o_call hf Try.en_17 rfl rfl rfl (p17 (renC c σ) ob cb (σ x1 : Nat) (σ y1 : Nat) _ (hDB _ (fun q hq => hh.get q (by simp [hq])))) ?_; clear hf a; intro v a w hR hf
                                 obtain ⟨rfl, hx⟩ := hR; replace hh := hh.more hx; clear hx
                                 refine ops_end ?_
                                 refine then_n ⟨⟨fun _ _ => (AtE.of hh (by intro p hp; rw [List.mem_singleton.1 hp]; simp)), trivial⟩, ?_⟩
                                 refine mc_p rfl   hf (yv_move rfl) (.inl rfl) rfl rfl ?_; clear hf a; intro a hf
                                 refine mc_p rfl   hf (yv_extract rfl rfl) (.inl rfl) rfl rfl ?_; clear hf a; intro a hf
                                 refine mc_p rfl   hf (yv_extract rfl rfl) (.inl rfl) rfl rfl ?_; clear hf a; intro a hf
                                 refine mc_p rfl   hf (yv_extract rfl rfl) (.inl rfl) rfl rfl ?_; clear hf a; intro a hf
                                 refine mc_e rfl fun Q1 => ?_
                                 refine o_store hf hh Try.sz_28 fun w hh => ?_
                                 refine ops_end ?_
                                 refine then_n ⟨⟨fun _ _ => (AtE.of hh (by intro p hp; rw [List.mem_singleton.1 hp]; simp)), trivial⟩, ?_⟩
                                 refine mc_e rfl fun Q1 => ?_
                                 refine o_store hf hh Try.sz_28 fun w hh => ?_
                                 refine ops_end ?_
                                 refine then_n ⟨⟨fun _ _ => (AtE.of hh (by intro p hp; rw [List.mem_singleton.1 hp]; simp)), trivial⟩, ?_⟩
                                 refine mc_p rfl   hf (yv_assign rfl) (.inl rfl) rfl rfl ?_; clear hf a; intro a hf
                                 refine mc_end ?_
                                 refine then_n ?_
                                 exact ⟨(B42, B43), by first | exact hh.pick [0, 1, 2, 3, 4, 5] | exact hh.pick [1, 0, 2, 3, 4, 5], hf.head ⟨rfl, rfl, rfl, True.intro⟩ (Keep.cons rfl (Keep.cons rfl (Keep.cons rfl (Keep.cons rfl (Keep.cons rfl (Keep.cons rfl (Keep.cons rfl (Keep.cons rfl (Keep.cons rfl (Keep.cons rfl (Keep.cons rfl (Keep.cons rfl (Keep.cons rfl (Keep.cons rfl (Keep.cons rfl (Keep.base))))))))))))))))⟩
                              ·refine mc_e rfl fun Q1 => ?_
                               refine o_alloc hf hh Try.ze_28 ?_; clear hf hh a; intro B42 a w hf hh
                               refine ops_end ?_
                               refine then_n ⟨⟨fun _ _ => (AtE.of hh (by intro p hp; rw [List.mem_singleton.1 hp]; simp)), trivial⟩, ?_⟩
                               refine ⟨?_, ?_⟩
                               ·refine mc_e rfl fun Q1 => ?_
                                refine o_call hf Try.en_38 rfl rfl rfl (p38 (y1 : Nat) zn nn B7 B9 _ (by first | exact hh.at (i := 8) rfl | exact hh.at (i := 9) rfl | exact hh.at (i := 10) rfl) (by first | exact hh.at (i := 7) rfl | exact hh.at (i := 8) rfl | exact hh.at (i := 9) rfl) ⟨by omega, by omega⟩ (by omega) ⟨by omega, by omega⟩) ?_; clear hf a; intro v a w hR hf
                                rw [← hσ, Int.toNat_natCast] at hR
                                obtain ⟨rfl, hx⟩ := hR; replace hh := hh.more hx; clear hx
                                refine ops_end ?_
                                refine then_n ⟨⟨fun _ _ => (AtE.of hh (by intro p hp; rw [List.mem_singleton.1 hp]; simp)), trivial⟩, ?_⟩
                                refine ⟨?_, ?_⟩
                                ·refine mc_e rfl fun Q1 => ?_
                                 refine o_call hf Try.en_17 rfl rfl rfl (p17 (renC c σ) ob cb (σ x1 : Nat) (σ y1 : Nat) _ (hDB _ (fun q hq => hh.get q (by simp [hq])))) ?_; clear hf a; intro v a w hR hf
                                 obtain ⟨rfl, hx⟩ := hR; replace hh := hh.more hx; clear hx
                                 refine ops_end ?_
                                 refine then_n ⟨⟨fun _ _ => (AtE.of hh (by intro p hp; rw [List.mem_singleton.1 hp]; simp)), trivial⟩, ?_⟩
                                 refine mc_p rfl   hf (yv_move rfl) (.inl rfl) rfl rfl ?_; clear hf a; intro a hf
                                 refine mc_p rfl   hf (yv_extract rfl rfl) (.inl rfl) rfl rfl ?_; clear hf a; intro a hf
                                 refine mc_p rfl   hf (yv_extract rfl rfl) (.inl rfl) rfl rfl ?_; clear hf a; intro a hf
                                 refine mc_p rfl   hf (yv_extract rfl rfl) (.inl rfl) rfl rfl ?_; clear hf a; intro a hf
                                 refine mc_e rfl fun Q1 => ?_
                                 refine o_alloc hf hh Try.ze_28 ?_; clear hf hh a; intro B43 a w hf hh
                                 refine ops_end ?_
                                 refine then_n ⟨⟨fun _ _ => (AtE.of hh (by intro p hp; rw [List.mem_singleton.1 hp]; simp)), trivial⟩, ?_⟩
                                 refine mc_e rfl fun Q1 => ?_
                                 refine o_store hf hh Try.sz_28 fun w hh => ?_
                                 refine ops_end ?_
                                 refine then_n ⟨⟨fun _ _ => (AtE.of hh (by intro p hp; rw [List.mem_singleton.1 hp]; simp)), trivial⟩, ?_⟩
                                 refine mc_e rfl fun Q1 => ?_
                                 refine o_store hf hh Try.sz_28 fun w hh => ?_
                                 refine ops_end ?_
                                 refine then_n ⟨⟨fun _ _ => (AtE.of hh (by intro p hp; rw [List.mem_singleton.1 hp]; simp)), trivial⟩, ?_⟩
                                 refine mc_p rfl   hf (yv_assign rfl) (.inl rfl) rfl rfl ?_; clear hf a; intro a hf
                                 refine mc_end ?_
                                 refine then_n ?_
                                 exact ⟨(B42, B43), by first | exact hh.pick [0, 1, 2, 3, 4, 5] | exact hh.pick [1, 0, 2, 3, 4, 5], hf.head ⟨rfl, rfl, rfl, True.intro⟩ (Keep.cons rfl (Keep.cons rfl (Keep.cons rfl (Keep.cons rfl (Keep.cons rfl (Keep.cons rfl (Keep.cons rfl (Keep.cons rfl (Keep.cons rfl (Keep.cons rfl (Keep.cons rfl (Keep.cons rfl (Keep.cons rfl (Keep.cons rfl (Keep.cons rfl (Keep.base))))))))))))))))⟩
                                ·refine mc_e rfl fun Q1 => ?_
                                 refine o_alloc hf hh Try.ze_28 ?_; clear hf hh a; intro B43 a w hf hh
                                 refine ops_end ?_
                                 refine then_n ⟨⟨fun _ _ => (AtE.of hh (by intro p hp; rw [List.mem_singleton.1 hp]; simp)), trivial⟩, ?_⟩
                                 refine mc_e rfl fun Q1 => ?_
                                 refine o_call hf Try.en_17 rfl rfl rfl (p17 (renC c σ) ob cb (σ x1 : Nat) (σ y1 : Nat) _ (hDB _ (fun q hq => hh.get q (by simp [hq])))) ?_; clear hf a; intro v a w hR hf
                                 obtain ⟨rfl, hx⟩ := hR; replace hh := hh.more hx; clear hx
                                 refine ops_end ?_
                                 refine then_n ⟨⟨fun _ _ => (AtE.of hh (by intro p hp; rw [List.mem_singleton.1 hp]; simp)), trivial⟩, ?_⟩
                                 refine mc_p rfl   hf (yv_move rfl) (.inl rfl) rfl rfl ?_; clear hf a; intro a hf
                                 refine mc_p rfl   hf (yv_extract rfl rfl) (.inl rfl) rfl rfl ?_; clear hf a; intro a hf
                                 refine mc_p rfl   hf (yv_extract rfl rfl) (.inl rfl) rfl rfl ?_; clear hf a; intro a hf
                                 refine mc_p rfl   hf (yv_extract rfl rfl) (.inl rfl) rfl rfl ?_; clear hf a; intro a hf
                                 refine mc_e rfl fun Q1 => ?_
                                 refine o_store hf hh Try.sz_28 fun w hh => ?_
                                 refine ops_end ?_
                                 refine then_n ⟨⟨fun _ _ => (AtE.of hh (by intro p hp; rw [List.mem_singleton.1 hp]; simp)), trivial⟩, ?_⟩
                                 refine mc_e rfl fun Q1 => ?_
                                 refine o_store hf hh Try.sz_28 fun w hh => ?_
                                 refine ops_end ?_
                                 refine then_n ⟨⟨fun _ _ => (AtE.of hh (by intro p hp; rw [List.mem_singleton.1 hp]; simp)), trivial⟩, ?_⟩
                                 refine mc_p rfl   hf (yv_assign rfl) (.inl rfl) rfl rfl ?_; clear hf a; intro a hf
                                 refine mc_end ?_
                                 refine then_n ?_
                                 exact ⟨(B42, B43), by first | exact hh.pick [0, 1, 2, 3, 4, 5] | exact hh.pick [1, 0, 2, 3, 4, 5], hf.head ⟨rfl, rfl, rfl, True.intro⟩ (Keep.cons rfl (Keep.cons rfl (Keep.cons rfl (Keep.cons rfl (Keep.cons rfl (Keep.cons rfl (Keep.cons rfl (Keep.cons rfl (Keep.cons rfl (Keep.cons rfl (Keep.cons rfl (Keep.cons rfl (Keep.cons rfl (Keep.cons rfl (Keep.cons rfl (Keep.base))))))))))))))))⟩
                               ·refine mc_e rfl fun Q1 => ?_
                                refine o_alloc hf hh Try.ze_28 ?_; clear hf hh a; intro B43 a w hf hh
                                refine ops_end ?_
                                refine then_n ⟨⟨fun _ _ => (AtE.of hh (by intro p hp; rw [List.mem_singleton.1 hp]; simp)), trivial⟩, ?_⟩
                                refine mc_e rfl fun Q1 => ?_
                                refine o_call hf Try.en_38 rfl rfl rfl (p38 (y1 : Nat) zn nn B7 B9 _ (by first | exact hh.at (i := 8) rfl | exact hh.at (i := 9) rfl | exact hh.at (i := 10) rfl) (by first | exact hh.at (i := 7) rfl | exact hh.at (i := 8) rfl | exact hh.at (i := 9) rfl) ⟨by omega, by omega⟩ (by omega) ⟨by omega, by omega⟩) ?_; clear hf a; intro v a w hR hf
                                rw [← hσ, Int.toNat_natCast] at hR
                                obtain ⟨rfl, hx⟩ := hR; replace hh := hh.more hx; clear hx
                                refine ops_end ?_
                                refine then_n ⟨⟨fun _ _ => (AtE.of hh (by intro p hp; rw [List.mem_singleton.1 hp]; simp)), trivial⟩, ?_⟩
                                refine mc_e rfl fun Q1 => ?_
                                refine o_call hf Try.en_17 rfl rfl rfl (p17 (renC c σ) ob cb (σ x1 : Nat) (σ y1 : Nat) _ (hDB _ (fun q hq => hh.get q (by simp [hq])))) ?_; clear hf a; intro v a w hR hf
                                obtain ⟨rfl, hx⟩ := hR; replace hh := hh.more hx; clear hx
                                refine ops_end ?_
                                refine then_n ⟨⟨fun _ _ => (AtE.of hh (by intro p hp; rw [List.mem_singleton.1 hp]; simp)), trivial⟩, ?_⟩
                                refine mc_p rfl   hf (yv_move rfl) (.inl rfl) rfl rfl ?_; clear hf a; intro a hf
                                refine mc_p rfl   hf (yv_extract rfl rfl) (.inl rfl) rfl rfl ?_; clear hf a; intro a hf
                                refine mc_p rfl   hf (yv_extract rfl rfl) (.inl rfl) rfl rfl ?_; clear hf a; intro a hf
                                refine mc_p rfl   hf (yv_extract rfl rfl) (.inl rfl) rfl rfl ?_; clear hf a; intro a hf
                                refine mc_e rfl fun Q1 => ?_
                                refine o_store hf hh Try.sz_28 fun w hh => ?_
                                refine ops_end ?_
                                refine then_n ⟨⟨fun _ _ => (AtE.of hh (by intro p hp; rw [List.mem_singleton.1 hp]; simp)), trivial⟩, ?_⟩
                                refine mc_e rfl fun Q1 => ?_
                                refine o_store hf hh Try.sz_28 fun w hh => ?_
                                refine ops_end ?_
                                refine then_n ⟨⟨fun _ _ => (AtE.of hh (by intro p hp; rw [List.mem_singleton.1 hp]; simp)), trivial⟩, ?_⟩
                                refine mc_p rfl   hf (yv_assign rfl) (.inl rfl) rfl rfl ?_; clear hf a; intro a hf
                                refine mc_end ?_
                                refine then_n ?_
                                exact ⟨(B42, B43), by first | exact hh.pick [0, 1, 2, 3, 4, 5] | exact hh.pick [1, 0, 2, 3, 4, 5], hf.head ⟨rfl, rfl, rfl, True.intro⟩ (Keep.cons rfl (Keep.cons rfl (Keep.cons rfl (Keep.cons rfl (Keep.cons rfl (Keep.cons rfl (Keep.cons rfl (Keep.cons rfl (Keep.cons rfl (Keep.cons rfl (Keep.cons rfl (Keep.cons rfl (Keep.cons rfl (Keep.cons rfl (Keep.cons rfl (Keep.base))))))))))))))))⟩
                              ·refine mc_e rfl fun Q1 => ?_
                               refine o_alloc hf hh Try.ze_28 ?_; clear hf hh a; intro B43 a w hf hh
                               refine ops_end ?_
                               refine then_n ⟨⟨fun _ _ => (AtE.of hh (by intro p hp; rw [List.mem_singleton.1 hp]; simp)), trivial⟩, ?_⟩
                               refine ⟨?_, ?_⟩
                               ·refine mc_e rfl fun Q1 => ?_
                                refine o_call hf Try.en_38 rfl rfl rfl (p38 (y1 : Nat) zn nn B7 B9 _ (by first | exact hh.at (i := 8) rfl | exact hh.at (i := 9) rfl | exact hh.at (i := 10) rfl) (by first | exact hh.at (i := 7) rfl | exact hh.at (i := 8) rfl | exact hh.at (i := 9) rfl) ⟨by omega, by omega⟩ (by omega) ⟨by omega, by omega⟩) ?_; clear hf a; intro v a w hR hf
                                rw [← hσ, Int.toNat_natCast] at hR
                                obtain ⟨rfl, hx⟩ := hR; replace hh := hh.more hx; clear hx
                                refine ops_end ?_
                                refine then_n ⟨⟨fun _ _ => (AtE.of hh (by intro p hp; rw [List.mem_singleton.1 hp]; simp)), trivial⟩, ?_⟩
                                refine ⟨?_, ?_⟩
                                ·refine mc_e rfl fun Q1 => ?_
                                 refine o_call hf Try.en_17 rfl rfl rfl (p17 (renC c σ) ob cb (σ x1 : Nat) (σ y1 : Nat) _ (hDB _ (fun q hq => hh.get q (by simp [hq])))) ?_; clear hf a; intro v a w hR hf
                                 obtain ⟨rfl, hx⟩ := hR; replace hh := hh.more hx; clear hx
                                 refine ops_end ?_
                                 refine then_n ⟨⟨fun _ _ => (AtE.of hh (by intro p hp; rw [List.mem_singleton.1 hp]; simp)), trivial⟩, ?_⟩
                                 refine mc_p rfl   hf (yv_move rfl) (.inl rfl) rfl rfl ?_; clear hf a; intro a hf
                                 refine mc_p rfl   hf (yv_extract rfl rfl) (.inl rfl) rfl rfl ?_; clear hf a; intro a hf
                                 refine mc_p rfl   hf (yv_extract rfl rfl) (.inl rfl) rfl rfl ?_; clear hf a; intro a hf
                                 refine mc_p rfl   hf (yv_extract rfl rfl) (.inl rfl) rfl rfl ?_; clear hf a; intro a hf
                                 refine mc_e rfl fun Q1 => ?_
                                 refine o_alloc hf hh Try.ze_28 ?_; clear hf hh a; intro B42 a w hf hh
                                 refine ops_end ?_
                                 refine then_n ⟨⟨fun _ _ => (AtE.of hh (by intro p hp; rw [List.mem_singleton.1 hp]; simp)), trivial⟩, ?_⟩
                                 refine mc_e rfl fun Q1 => ?_
                                 refine o_store hf hh Try.sz_28 fun w hh => ?_
                                 refine ops_end ?_
                                 refine then_n ⟨⟨fun _ _ => (AtE.of hh (by intro p hp; rw [List.mem_singleton.1 hp]; simp)), trivial⟩, ?_⟩
                                 refine mc_e rfl fun Q1 => ?_
                                 refine o_store hf hh Try.sz_28 fun w hh => ?_
                                 refine ops_end ?_
                                 refine then_n ⟨⟨fun _ _ => (AtE.of hh (by intro p hp; rw [List.mem_singleton.1 hp]; simp)), trivial⟩, ?_⟩
                                 refine mc_p rfl   hf (yv_assign rfl) (.inl rfl) rfl rfl ?_; clear hf a; intro a hf
                                 refine mc_end ?_
                                 refine then_n ?_
                                 exact ⟨(B42, B43), by first | exact hh.pick [0, 1, 2, 3, 4, 5] | exact hh.pick [1, 0, 2, 3, 4, 5], hf.head ⟨rfl, rfl, rfl, True.intro⟩ (Keep.cons rfl (Keep.cons rfl (Keep.cons rfl (Keep.cons rfl (Keep.cons rfl (Keep.cons rfl (Keep.cons rfl (Keep.cons rfl (Keep.cons rfl (Keep.cons rfl (Keep.cons rfl (Keep.cons rfl (Keep.cons rfl (Keep.cons rfl (Keep.cons rfl (Keep.base))))))))))))))))⟩
                                ·refine mc_e rfl fun Q1 => ?_
                                 refine o_alloc hf hh Try.ze_28 ?_; clear hf hh a; intro B42 a w hf hh
                                 refine ops_end ?_
                                 refine then_n ⟨⟨fun _ _ => (AtE.of hh (by intro p hp; rw [List.mem_singleton.1 hp]; simp)), trivial⟩, ?_⟩
                                 refine mc_e rfl fun Q1 => ?_
                                 refine o_call hf Try.en_17 rfl rfl rfl (p17 (renC c σ) ob cb (σ x1 : Nat) (σ y1 : Nat) _ (hDB _ (fun q hq => hh.get q (by simp [hq])))) ?_; clear hf a; intro v a w hR hf
                                 obtain ⟨rfl, hx⟩ := hR; replace hh := hh.more hx; clear hx
                                 refine ops_end ?_
                                 refine then_n ⟨⟨fun _ _ => (AtE.of hh (by intro p hp; rw [List.mem_singleton.1 hp]; simp)), trivial⟩, ?_⟩
                                 refine mc_p rfl   hf (yv_move rfl) (.inl rfl) rfl rfl ?_; clear hf a; intro a hf
                                 refine mc_p rfl   hf (yv_extract rfl rfl) (.inl rfl) rfl rfl ?_; clear hf a; intro a hf
                                 refine mc_p rfl   hf (yv_extract rfl rfl) (.inl rfl) rfl rfl ?_; clear hf a; intro a hf
                                 refine mc_p rfl   hf (yv_extract rfl rfl) (.inl rfl) rfl rfl ?_; clear hf a; intro a hf
                                 refine mc_e rfl fun Q1 => ?_
                                 refine o_store hf hh Try.sz_28 fun w hh => ?_
                                 refine ops_end ?_
                                 refine then_n ⟨⟨fun _ _ => (AtE.of hh (by intro p hp; rw [List.mem_singleton.1 hp]; simp)), trivial⟩, ?_⟩
                                 refine mc_e rfl fun Q1 => ?_
                                 refine o_store hf hh Try.sz_28 fun w hh => ?_
                                 refine ops_end ?_
                                 refine then_n ⟨⟨fun _ _ => (AtE.of hh (by intro p hp; rw [List.mem_singleton.1 hp]; simp)), trivial⟩, ?_⟩
                                 refine mc_p rfl   hf (yv_assign rfl) (.inl rfl) rfl rfl ?_; clear hf a; intro a hf
                                 refine mc_end ?_
                                 refine then_n ?_
                                 exact ⟨(B42, B43), by first | exact hh.pick [0, 1, 2, 3, 4, 5] | exact hh.pick [1, 0, 2, 3, 4, 5], hf.head ⟨rfl, rfl, rfl, True.intro⟩ (Keep.cons rfl (Keep.cons rfl (Keep.cons rfl (Keep.cons rfl (Keep.cons rfl (Keep.cons rfl (Keep.cons rfl (Keep.cons rfl (Keep.cons rfl (Keep.cons rfl (Keep.cons rfl (Keep.cons rfl (Keep.cons rfl (Keep.cons rfl (Keep.cons rfl (Keep.base))))))))))))))))⟩
                               ·refine mc_e rfl fun Q1 => ?_
                                refine o_alloc hf hh Try.ze_28 ?_; clear hf hh a; intro B42 a w hf hh
                                refine ops_end ?_
                                refine then_n ⟨⟨fun _ _ => (AtE.of hh (by intro p hp; rw [List.mem_singleton.1 hp]; simp)), trivial⟩, ?_⟩
                                refine mc_e rfl fun Q1 => ?_
                                refine o_call hf Try.en_38 rfl rfl rfl (p38 (y1 : Nat) zn nn B7 B9 _ (by first | exact hh.at (i := 8) rfl | exact hh.at (i := 9) rfl | exact hh.at (i := 10) rfl) (by first | exact hh.at (i := 7) rfl | exact hh.at (i := 8) rfl | exact hh.at (i := 9) rfl) ⟨by omega, by omega⟩ (by omega) ⟨by omega, by omega⟩) ?_; clear hf a; intro v a w hR hf
                                rw [← hσ, Int.toNat_natCast] at hR
                                obtain ⟨rfl, hx⟩ := hR; replace hh := hh.more hx; clear hx
                                refine ops_end ?_
                                refine then_n ⟨⟨fun _ _ => (AtE.of hh (by intro p hp; rw [List.mem_singleton.1 hp]; simp)), trivial⟩, ?_⟩
                                refine mc_e rfl fun Q1 => ?_
                                refine o_call hf Try.en_17 rfl rfl rfl (p17 (renC c σ) ob cb (σ x1 : Nat) (σ y1 : Nat) _ (hDB _ (fun q hq => hh.get q (by simp [hq])))) ?_; clear hf a; intro v a w hR hf
                                obtain ⟨rfl, hx⟩ := hR; replace hh := hh.more hx; clear hx
                                refine ops_end ?_
                                refine then_n ⟨⟨fun _ _ => (AtE.of hh (by intro p hp; rw [List.mem_singleton.1 hp]; simp)), trivial⟩, ?_⟩
                                refine mc_p rfl   hf (yv_move rfl) (.inl rfl) rfl rfl ?_; clear hf a; intro a hf
                                refine mc_p rfl   hf (yv_extract rfl rfl) (.inl rfl) rfl rfl ?_; clear hf a; intro a hf
                                refine mc_p rfl   hf (yv_extract rfl rfl) (.inl rfl) rfl rfl ?_; clear hf a; intro a hf
                                refine mc_p rfl   hf (yv_extract rfl rfl) (.inl rfl) rfl rfl ?_; clear hf a; intro a hf
                                refine mc_e rfl fun Q1 => ?_
                                refine o_store hf hh Try.sz_28 fun w hh => ?_
                                refine ops_end ?_
                                refine then_n ⟨⟨fun _ _ => (AtE.of hh (by intro p hp; rw [List.mem_singleton.1 hp]; simp)), trivial⟩, ?_⟩
                                refine mc_e rfl fun Q1 => ?_
                                refine o_store hf hh Try.sz_28 fun w hh => ?_
                                refine ops_end ?_
                                refine then_n ⟨⟨fun _ _ => (AtE.of hh (by intro p hp; rw [List.mem_singleton.1 hp]; simp)), trivial⟩, ?_⟩
                                refine mc_p rfl   hf (yv_assign rfl) (.inl rfl) rfl rfl ?_; clear hf a; intro a hf
                                refine mc_end ?_
                                refine then_n ?_
                                exact ⟨(B42, B43), by first | exact hh.pick [0, 1, 2, 3, 4, 5] | exact hh.pick [1, 0, 2, 3, 4, 5], hf.head ⟨rfl, rfl, rfl, True.intro⟩ (Keep.cons rfl (Keep.cons rfl (Keep.cons rfl (Keep.cons rfl (Keep.cons rfl (Keep.cons rfl (Keep.cons rfl (Keep.cons rfl (Keep.cons rfl (Keep.cons rfl (Keep.cons rfl (Keep.cons rfl (Keep.cons rfl (Keep.cons rfl (Keep.cons rfl (Keep.base))))))))))))))))⟩
                             ·refine mc_e rfl fun Q1 => ?_
                              refine o_alloc hf hh Try.ze_28 ?_; clear hf hh a; intro B42 a w hf hh
                              refine ops_end ?_
                              refine then_n ⟨⟨fun _ _ => (AtE.of hh (by intro p hp; rw [List.mem_singleton.1 hp]; simp)), trivial⟩, ?_⟩
                              refine ⟨?_, ?_⟩
                              ·refine mc_e rfl fun Q1 => ?_
                               refine o_call hf Try.en_38 rfl rfl rfl (p38 (x1 : Nat) zn nn B7 B9 _ (by first | exact hh.at (i := 8) rfl | exact hh.at (i := 9) rfl | exact hh.at (i := 10) rfl) (by first | exact hh.at (i := 7) rfl | exact hh.at (i := 8) rfl | exact hh.at (i := 9) rfl) ⟨by omega, by omega⟩ (by omega) ⟨by omega, by omega⟩) ?_; clear hf a; intro v a w hR hf
                               rw [← hσ, Int.toNat_natCast] at hR
                               obtain ⟨rfl, hx⟩ := hR; replace hh := hh.more hx; clear hx
                               refine ops_end ?_
                               refine then_n ⟨⟨fun _ _ => (AtE.of hh (by intro p hp; rw [List.mem_singleton.1 hp]; simp)), trivial⟩, ?_⟩
                               refine ⟨?_, ?_⟩
                               ·refine mc_e rfl fun Q1 => ?_
                                refine o_call hf Try.en_38 rfl rfl rfl (p38 (y1 : Nat) zn nn B7 B9 _ (by first | exact hh.at (i := 8) rfl | exact hh.at (i := 9) rfl | exact hh.at (i := 10) rfl) (by first | exact hh.at (i := 7) rfl | exact hh.at (i := 8) rfl | exact hh.at (i := 9) rfl) ⟨by omega, by omega⟩ (by omega) ⟨by omega, by omega⟩) ?_; clear hf a; intro v a w hR hf
                                rw [← hσ, Int.toNat_natCast] at hR
                                obtain ⟨rfl, hx⟩ := hR; replace hh := hh.more hx; clear hx
                                refine ops_end ?_
                                refine then_n ⟨⟨fun _ _ => (AtE.of hh (by intro p hp; rw [List.mem_singleton.1 hp]; simp)), trivial⟩, ?_⟩
                                refine ⟨?_, ?_⟩
                                ·refine mc_e rfl fun Q1 => ?_
                                 refine o_call hf Try.en_17 rfl rfl rfl (p17 (renC c σ) ob cb (σ x1 : Nat) (σ y1 : Nat) _ (hDB _ (fun q hq => hh.get q (by simp [hq])))) ?_; clear hf a; intro v a w hR hf
                                 obtain ⟨rfl, hx⟩ := hR; replace hh := hh.more hx; clear hx
                                 refine ops_end ?_
                                 refine then_n ⟨⟨fun _ _ => (AtE.of hh (by intro p hp; rw [List.mem_singleton.1 hp]; simp)), trivial⟩, ?_⟩
                                 refine mc_p rfl   hf (yv_move rfl) (.inl rfl) rfl rfl ?_; clear hf a; intro a hf
                                 refine mc_p rfl   hf (yv_extract rfl rfl) (.inl rfl) rfl rfl ?_; clear hf a; intro a hf
                                 refine mc_p rfl   hf (yv_extract rfl rfl) (.inl rfl) rfl rfl ?_; clear hf a; intro a hf
                                 refine mc_p rfl   hf (yv_extract rfl rfl) (.inl rfl) rfl rfl ?_; clear hf a; intro a hf
                                 refine mc_e rfl fun Q1 => ?_
                                 refine o_alloc hf hh Try.ze_28 ?_; clear hf hh a; intro B43 a w hf hh
                                 refine ops_end ?_
                                 refine then_n ⟨⟨fun _ _ => (AtE.of hh (by intro p hp; rw [List.mem_singleton.1 hp]; simp)), trivial⟩, ?_⟩
                                 refine mc_e rfl fun Q1 => ?_
                                 refine o_store hf hh Try.sz_28 fun w hh => ?_
                                 refine ops_end ?_
                                 refine then_n ⟨⟨fun _ _ => (AtE.of hh (by intro p hp; rw [List.mem_singleton.1 hp]; simp)), trivial⟩, ?_⟩
                                 refine mc_e rfl fun Q1 => ?_
                                 refine o_store hf hh Try.sz_28 fun w hh => ?_
                                 refine ops_end ?_
                                 refine then_n ⟨⟨fun _ _ => (AtE.of hh (by intro p hp; rw [List.mem_singleton.1 hp]; simp)), trivial⟩, ?_⟩
                                 refine mc_p rfl   hf (yv_assign rfl) (.inl rfl) rfl rfl ?_; clear hf a; intro a hf
                                 refine mc_end ?_
                                 refine then_n ?_
                                 exact ⟨(B42, B43), by first | exact hh.pick [0, 1, 2, 3, 4, 5] | exact hh.pick [1, 0, 2, 3, 4, 5], hf.head ⟨rfl, rfl, rfl, True.intro⟩ (Keep.cons rfl (Keep.cons rfl (Keep.cons rfl (Keep.cons rfl (Keep.cons rfl (Keep.cons rfl (Keep.cons rfl (Keep.cons rfl (Keep.cons rfl (Keep.cons rfl (Keep.cons rfl (Keep.cons rfl (Keep.cons rfl (Keep.cons rfl (Keep.cons rfl (Keep.base))))))))))))))))⟩
                                ·refine mc_e rfl fun Q1 => ?_
                                 refine o_alloc hf hh Try.ze_28 ?_; clear hf hh a; intro B43 a w hf hh
                                 refine ops_end ?_
                                 refine then_n ⟨⟨fun _ _ => (AtE.of hh (by intro p hp; rw [List.mem_singleton.1 hp]; simp)), trivial⟩, ?_⟩
                                 refine mc_e rfl fun Q1 => ?_
                                 refine o_call hf Try.en_17 rfl rfl rfl (p17 (renC c σ) ob cb (σ x1 : Nat) (σ y1 : Nat) _ (hDB _ (fun q hq => hh.get q (by simp [hq])))) ?_; clear hf a; intro v a w hR hf
                                 obtain ⟨rfl, hx⟩ := hR; replace hh := hh.more hx; clear hx
                                 refine ops_end ?_
                                 refine then_n ⟨⟨fun _ _ => (AtE.of hh (by intro p hp; rw [List.mem_singleton.1 hp]; simp)), trivial⟩, ?_⟩
                                 refine mc_p rfl   hf (yv_move rfl) (.inl rfl) rfl rfl ?_; clear hf a; intro a hf
                                 refine mc_p rfl   hf (yv_extract rfl rfl) (.inl rfl) rfl rfl ?_; clear hf a; intro a hf
                                 refine mc_p rfl   hf (yv_extract rfl rfl) (.inl rfl) rfl rfl ?_; clear hf a; intro a hf
                                 refine mc_p rfl   hf (yv_extract rfl rfl) (.inl rfl) rfl rfl ?_; clear hf a; intro a hf
                                 refine mc_e rfl fun Q1 => ?_
                                 refine o_store hf hh Try.sz_28 fun w hh => ?_
                                 refine ops_end ?_
                                 refine then_n ⟨⟨fun _ _ => (AtE.of hh (by intro p hp; rw [List.mem_singleton.1 hp]; simp)), trivial⟩, ?_⟩
                                 refine mc_e rfl fun Q1 => ?_
                                 refine o_store hf hh Try.sz_28 fun w hh => ?_
                                 refine ops_end ?_
                                 refine then_n ⟨⟨fun _ _ => (AtE.of hh (by intro p hp; rw [List.mem_singleton.1 hp]; simp)), trivial⟩, ?_⟩
                                 refine mc_p rfl   hf (yv_assign rfl) (.inl rfl) rfl rfl ?_; clear hf a; intro a hf
                                 refine mc_end ?_
                                 refine then_n ?_
                                 exact ⟨(B42, B43), by first | exact hh.pick [0, 1, 2, 3, 4, 5] | exact hh.pick [1, 0, 2, 3, 4, 5], hf.head ⟨rfl, rfl, rfl, True.intro⟩ (Keep.cons rfl (Keep.cons rfl (Keep.cons rfl (Keep.cons rfl (Keep.cons rfl (Keep.cons rfl (Keep.cons rfl (Keep.cons rfl (Keep.cons rfl (Keep.cons rfl (Keep.cons rfl (Keep.cons rfl (Keep.cons rfl (Keep.cons rfl (Keep.cons rfl (Keep.base))))))))))))))))⟩
                               ·refine mc_e rfl fun Q1 => ?_
                                refine o_alloc hf hh Try.ze_28 ?_; clear hf hh a; intro B43 a w hf hh
                                refine ops_end ?_
                                refine then_n ⟨⟨fun _ _ => (AtE.of hh (by intro p hp; rw [List.mem_singleton.1 hp]; simp)), trivial⟩, ?_⟩
                                refine mc_e rfl fun Q1 => ?_
                                refine o_call hf Try.en_38 rfl rfl rfl (p38 (y1 : Nat) zn nn B7 B9 _ (by first | exact hh.at (i := 8) rfl | exact hh.at (i := 9) rfl | exact hh.at (i := 10) rfl) (by first | exact hh.at (i := 7) rfl | exact hh.at (i := 8) rfl | exact hh.at (i := 9) rfl) ⟨by omega, by omega⟩ (by omega) ⟨by omega, by omega⟩) ?_; clear hf a; intro v a w hR hf
                                rw [← hσ, Int.toNat_natCast] at hR
                                obtain ⟨rfl, hx⟩ := hR; replace hh := hh.more hx; clear hx
                                refine ops_end ?_
                                refine then_n ⟨⟨fun _ _ => (AtE.of hh (by intro p hp; rw [List.mem_singleton.1 hp]; simp)), trivial⟩, ?_⟩
                                refine mc_e rfl fun Q1 => ?_
                                refine o_call hf Try.en_17 rfl rfl rfl (p17 (renC c σ) ob cb (σ x1 : Nat) (σ y1 : Nat) _ (hDB _ (fun q hq => hh.get q (by simp [hq])))) ?_; clear hf a; intro v a w hR hf
                                obtain ⟨rfl, hx⟩ := hR; replace hh := hh.more hx; clear hx
                                refine ops_end ?_
                                refine then_n ⟨⟨fun _ _ => (AtE.of hh (by intro p hp; rw [List.mem_singleton.1 hp]; simp)), trivial⟩, ?_⟩
                                refine mc_p rfl   hf (yv_move rfl) (.inl rfl) rfl rfl ?_; clear hf a; intro a hf
                                refine mc_p rfl   hf (yv_extract rfl rfl) (.inl rfl) rfl rfl ?_; clear hf a; intro a hf
                                refine mc_p rfl   hf (yv_extract rfl rfl) (.inl rfl) rfl rfl ?_; clear hf a; intro a hf
                                refine mc_p rfl   hf (yv_extract rfl rfl) (.inl rfl) rfl rfl ?_; clear hf a; intro a hf
                                refine mc_e rfl fun Q1 => ?_
                                refine o_store hf hh Try.sz_28 fun w hh => ?_
                                refine ops_end ?_
                                refine then_n ⟨⟨fun _ _ => (AtE.of hh (by intro p hp; rw [List.mem_singleton.1 hp]; simp)), trivial⟩, ?_⟩
                                refine mc_e rfl fun Q1 => ?_
                                refine o_store hf hh Try.sz_28 fun w hh => ?_
                                refine ops_end ?_
                                refine then_n ⟨⟨fun _ _ => (AtE.of hh (by intro p hp; rw [List.mem_singleton.1 hp]; simp)), trivial⟩, ?_⟩
                                refine mc_p rfl   hf (yv_assign rfl) (.inl rfl) rfl rfl ?_; clear hf a; intro a hf
                                refine mc_end ?_
                                refine then_n ?_
                                exact ⟨(B42, B43), by first | exact hh.pick [0, 1, 2, 3, 4, 5] | exact hh.pick [1, 0, 2, 3, 4, 5], hf.head ⟨rfl, rfl, rfl, True.intro⟩ (Keep.cons rfl (Keep.cons rfl (Keep.cons rfl (Keep.cons rfl (Keep.cons rfl (Keep.cons rfl (Keep.cons rfl (Keep.cons rfl (Keep.cons rfl (Keep.cons rfl (Keep.cons rfl (Keep.cons rfl (Keep.cons rfl (Keep.cons rfl (Keep.cons rfl (Keep.base))))))))))))))))⟩
                              ·refine mc_e rfl fun Q1 => ?_
                               refine o_alloc hf hh Try.ze_28 ?_; clear hf hh a; intro B43 a w hf hh
                               refine ops_end ?_
                               refine then_n ⟨⟨fun _ _ => (AtE.of hh (by intro p hp; rw [List.mem_singleton.1 hp]; simp)), trivial⟩, ?_⟩
                               refine mc_e rfl fun Q1 => ?_
                               refine o_call hf Try.en_38 rfl rfl rfl (p38 (x1 : Nat) zn nn B7 B9 _ (by first | exact hh.at (i := 8) rfl | exact hh.at (i := 9) rfl | exact hh.at (i := 10) rfl) (by first | exact hh.at (i := 7) rfl | exact hh.at (i := 8) rfl | exact hh.at (i := 9) rfl) ⟨by omega, by omega⟩ (by omega) ⟨by omega, by omega⟩) ?_; clear hf a; intro v a w hR hf
                               rw [← hσ, Int.toNat_natCast] at hR
                               obtain ⟨rfl, hx⟩ := hR; replace hh := hh.more hx; clear hx
                               refine ops_end ?_
                               refine then_n ⟨⟨fun _ _ => (AtE.of hh (by intro p hp; rw [List.mem_singleton.1 hp]; simp)), trivial⟩, ?_⟩
                               refine mc_e rfl fun Q1 => ?_
                               refine o_call hf Try.en_38 rfl rfl rfl (p38 (y1 : Nat) zn nn B7 B9 _ (by first | exact hh.at (i := 8) rfl | exact hh.at (i := 9) rfl | exact hh.at (i := 10) rfl) (by first | exact hh.at (i := 7) rfl | exact hh.at (i := 8) rfl | exact hh.at (i := 9) rfl) ⟨by omega, by omega⟩ (by omega) ⟨by omega, by omega⟩) ?_; clear hf a; intro v a w hR hf
                               rw [← hσ, Int.toNat_natCast] at hR
                               obtain ⟨rfl, hx⟩ := hR; replace hh := hh.more hx; clear hx
                               refine ops_end ?_
                               refine then_n ⟨⟨fun _ _ => (AtE.of hh (by intro p hp; rw [List.mem_singleton.1 hp]; simp)), trivial⟩, ?_⟩
                               refine mc_e rfl fun Q1 => ?_
                               refine o_call hf Try.en_17 rfl rfl rfl (p17 (renC c σ) ob cb (σ x1 : Nat) (σ y1 : Nat) _ (hDB _ (fun q hq => hh.get q (by simp [hq])))) ?_; clear hf a; intro v a w hR hf
                               obtain ⟨rfl, hx⟩ := hR; replace hh := hh.more hx; clear hx
                               refine ops_end ?_
                               refine then_n ⟨⟨fun _ _ => (AtE.of hh (by intro p hp; rw [List.mem_singleton.1 hp]; simp)), trivial⟩, ?_⟩
                               refine mc_p rfl   hf (yv_move rfl) (.inl rfl) rfl rfl ?_; clear hf a; intro a hf
                               refine mc_p rfl   hf (yv_extract rfl rfl) (.inl rfl) rfl rfl ?_; clear hf a; intro a hf
                               refine mc_p rfl   hf (yv_extract rfl rfl) (.inl rfl) rfl rfl ?_; clear hf a; intro a hf
                               refine mc_p rfl   hf (yv_extract rfl rfl) (.inl rfl) rfl rfl ?_; clear hf a; intro a hf
                               refine mc_e rfl fun Q1 => ?_
                               refine o_store hf hh Try.sz_28 fun w hh => ?_
                               refine ops_end ?_
                               refine then_n ⟨⟨fun _ _ => (AtE.of hh (by intro p hp; rw [List.mem_singleton.1 hp]; simp)), trivial⟩, ?_⟩
                               refine mc_e rfl fun Q1 => ?_
                               refine o_store hf hh Try.sz_28 fun w hh => ?_
                               refine ops_end ?_
                               refine then_n ⟨⟨fun _ _ => (AtE.of hh (by intro p hp; rw [List.mem_singleton.1 hp]; simp)), trivial⟩, ?_⟩
                               refine mc_p rfl   hf (yv_assign rfl) (.inl rfl) rfl rfl ?_; clear hf a; intro a hf
                               refine mc_end ?_
                               refine then_n ?_
                               exact ⟨(B42, B43), by first | exact hh.pick [0, 1, 2, 3, 4, 5] | exact hh.pick [1, 0, 2, 3, 4, 5], hf.head ⟨rfl, rfl, rfl, True.intro⟩ (Keep.cons rfl (Keep.cons rfl (Keep.cons rfl (Keep.cons rfl (Keep.cons rfl (Keep.cons rfl (Keep.cons rfl (Keep.cons rfl (Keep.cons rfl (Keep.cons rfl (Keep.cons rfl (Keep.cons rfl (Keep.cons rfl (Keep.cons rfl (Keep.cons rfl (Keep.base))))))))))))))))⟩
                             ·refine mc_e rfl fun Q1 => ?_
                              refine o_alloc hf hh Try.ze_28 ?_; clear hf hh a; intro B43 a w hf hh
                              refine ops_end ?_
                              refine then_n ⟨⟨fun _ _ => (AtE.of hh (by intro p hp; rw [List.mem_singleton.1 hp]; simp)), trivial⟩, ?_⟩
                              refine ⟨?_, ?_⟩
                              ·refine mc_e rfl fun Q1 => ?_
                               refine o_call hf Try.en_38 rfl rfl rfl (p38 (x1 : Nat) zn nn B7 B9 _ (by first | exact hh.at (i := 8) rfl | exact hh.at (i := 9) rfl | exact hh.at (i := 10) rfl) (by first | exact hh.at (i := 7) rfl | exact hh.at (i := 8) rfl | exact hh.at (i := 9) rfl) ⟨by omega, by omega⟩ (by omega) ⟨by omega, by omega⟩) ?_; clear hf a; intro v a w hR hf
                               rw [← hσ, Int.toNat_natCast] at hR
                               obtain ⟨rfl, hx⟩ := hR; replace hh := hh.more hx; clear hx
                               refine ops_end ?_
                               refine then_n ⟨⟨fun _ _ => (AtE.of hh (by intro p hp; rw [List.mem_singleton.1 hp]; simp)), trivial⟩, ?_⟩
                               refine ⟨?_, ?_⟩
                               ·refine mc_e rfl fun Q1 => ?_
                                refine o_call hf Try.en_38 rfl rfl rfl (p38 (y1 : Nat) zn nn B7 B9 _ (by first | exact hh.at (i := 8) rfl | exact hh.at (i := 9) rfl | exact hh.at (i := 10) rfl) (by first | exact hh.at (i := 7) rfl | exact hh.at (i := 8) rfl | exact hh.at (i := 9) rfl) ⟨by omega, by omega⟩ (by omega) ⟨by omega, by omega⟩) ?_; clear hf a; intro v a w hR hf
                                rw [← hσ, Int.toNat_natCast] at hR
                                obtain ⟨rfl, hx⟩ := hR; replace hh := hh.more hx; clear hx
                                refine ops_end ?_
                                refine then_n ⟨⟨fun _ _ => (AtE.of hh (by intro p hp; rw [List.mem_singleton.1 hp]; simp)), trivial⟩, ?_⟩
                                refine ⟨?_, ?_⟩
                                ·refine mc_e rfl fun Q1 => ?_
                                 refine o_call hf Try.en_17 rfl rfl rfl (p17 (renC c σ) ob cb (σ x1 : Nat) (σ y1 : Nat) _ (hDB _ (fun q hq => hh.get q (by simp [hq])))) ?_; clear hf a; intro v a w hR hf
                                 obtain ⟨rfl, hx⟩ := hR; replace hh := hh.more hx; clear hx
                                 refine ops_end ?_
                                 refine then_n ⟨⟨fun _ _ => (AtE.of hh (by intro p hp; rw [List.mem_singleton.1 hp]; simp)), trivial⟩, ?_⟩
                                 refine mc_p rfl   hf (yv_move rfl) (.inl rfl) rfl rfl ?_; clear hf a; intro a hf
                                 refine mc_p rfl   hf (yv_extract rfl rfl) (.inl rfl) rfl rfl ?_; clear hf a; intro a hf
                                 refine mc_p rfl   hf (yv_extract rfl rfl) (.inl rfl) rfl rfl ?_; clear hf a; intro a hf
                                 refine mc_p rfl   hf (yv_extract rfl rfl) (.inl rfl) rfl rfl ?_; clear hf a; intro a hf
                                 refine mc_e rfl fun Q1 => ?_
                                 refine o_alloc hf hh Try.ze_28 ?_; clear hf hh a; intro B42 a w hf hh
                                 refine ops_end ?_
                                 refine then_n ⟨⟨fun _ _ => (AtE.of hh (by intro p hp; rw [List.mem_singleton.1 hp]; simp)), trivial⟩, ?_⟩
                                 refine mc_e rfl fun Q1 => ?_
                                 refine o_store hf hh Try.sz_28 fun w hh => ?_
                                 refine ops_end ?_
                                 refine then_n ⟨⟨fun _ _ => (AtE.of hh (by intro p hp; rw [List.mem_singleton.1 hp]; simp)), trivial⟩, ?_⟩
                                 refine mc_e rfl fun Q1 => ?_
                                 refine o_store hf hh Try.sz_28 fun w hh => ?_
                                 refine ops_end ?_
                                 refine then_n ⟨⟨fun _ _ => (AtE.of hh (by intro p hp; rw [List.mem_singleton.1 hp]; simp)), trivial⟩, ?_⟩
                                 refine mc_p rfl   hf (yv_assign rfl) (.inl rfl) rfl rfl ?_; clear hf a; intro a hf
                                 refine mc_end ?_
                                 refine then_n ?_
                                 exact ⟨(B42, B43), by first | exact hh.pick [0, 1, 2, 3, 4, 5] | exact hh.pick [1, 0, 2, 3, 4, 5], hf.head ⟨rfl, rfl, rfl, True.intro⟩ (Keep.cons rfl (Keep.cons rfl (Keep.cons rfl (Keep.cons rfl (Keep.cons rfl (Keep.cons rfl (Keep.cons rfl (Keep.cons rfl (Keep.cons rfl (Keep.cons rfl (Keep.cons rfl (Keep.cons rfl (Keep.cons rfl (Keep.cons rfl (Keep.cons rfl (Keep.base))))))))))))))))⟩
                                ·refine mc_e rfl fun Q1 => ?_
                                 refine o_alloc hf hh Try.ze_28 ?_; clear hf hh a; intro B42 a w hf hh
                                 refine ops_end ?_
                                 refine then_n ⟨⟨fun _ _ => (AtE.of hh (by intro p hp; rw [List.mem_singleton.1 hp]; simp)), trivial⟩, ?_⟩
                                 refine mc_e rfl fun Q1 => ?_
                                 refine o_call hf Try.en_17 rfl rfl rfl (p17 (renC c σ) ob cb (σ x1 : Nat) (σ y1 : Nat) _ (hDB _ (fun q hq => hh.get q (by simp [hq])))) ?_; clear hf a; intro v a w hR hf
                                 obtain ⟨rfl, hx⟩ := hR; replace hh := hh.more hx; clear hx
                                 refine ops_end ?_
                                 refine then_n ⟨⟨fun _ _ => (AtE.of hh (by intro p hp; rw [List.mem_singleton.1 hp]; simp)), trivial⟩, ?_⟩
                                 refine mc_p rfl   hf (yv_move rfl) (.inl rfl) rfl rfl ?_; clear hf a; intro a hf
                                 refine mc_p rfl   hf (yv_extract rfl rfl) (.inl rfl) rfl rfl ?_; clear hf a; intro a hf
                                 refine mc_p rfl   hf (yv_extract rfl rfl) (.inl rfl) rfl rfl ?_; clear hf a; intro a hf
                                 refine mc_p rfl   hf (yv_extract rfl rfl) (.inl rfl) rfl rfl ?_; clear hf a; intro a hf
                                 refine mc_e rfl fun Q1 => ?_
                                 refine o_store hf hh Try.sz_28 fun w hh => ?_
                                 refine ops_end ?_
                                 refine then_n ⟨⟨fun _ _ => (AtE.of hh (by intro p hp; rw [List.mem_singleton.1 hp]; simp)), trivial⟩, ?_⟩
                                 refine mc_e rfl fun Q1 => ?_
                                 refine o_store hf hh Try.sz_28 fun w hh => ?_
                                 refine ops_end ?_
                                 refine then_n ⟨⟨fun _ _ => (AtE.of hh (by intro p hp; rw [List.mem_singleton.1 hp]; simp)), trivial⟩, ?_⟩
                                 refine mc_p rfl   hf (yv_assign rfl) (.inl rfl) rfl rfl ?_; clear hf a; intro a hf
                                 refine mc_end ?_
                                 refine then_n ?_
                                 exact ⟨(B42, B43), by first | exact hh.pick [0, 1, 2, 3, 4, 5] | exact hh.pick [1, 0, 2, 3, 4, 5], hf.head ⟨rfl, rfl, rfl, True.intro⟩ (Keep.cons rfl (Keep.cons rfl (Keep.cons rfl (Keep.cons rfl (Keep.cons rfl (Keep.cons rfl (Keep.cons rfl (Keep.cons rfl (Keep.cons rfl (Keep.cons rfl (Keep.cons rfl (Keep.cons rfl (Keep.cons rfl (Keep.cons rfl (Keep.cons rfl (Keep.base))))))))))))))))⟩
                               ·refine mc_e rfl fun Q1 => ?_
                                refine o_alloc hf hh Try.ze_28 ?_; clear hf hh a; intro B42 a w hf hh
                                refine ops_end ?_
                                refine then_n ⟨⟨fun _ _ => (AtE.of hh (by intro p hp; rw [List.mem_singleton.1 hp]; simp)), trivial⟩, ?_⟩
                                refine mc_e rfl fun Q1 => ?_
                                refine o_call hf Try.en_38 rfl rfl rfl (p38 (y1 : Nat) zn nn B7 B9 _ (by first | exact hh.at (i := 8) rfl | exact hh.at (i := 9) rfl | exact hh.at (i := 10) rfl) (by first | exact hh.at (i := 7) rfl | exact hh.at (i := 8) rfl | exact hh.at (i := 9) rfl) ⟨by omega, by omega⟩ (by omega) ⟨by omega, by omega⟩) ?_; clear hf a; intro v a w hR hf
                                rw [← hσ, Int.toNat_natCast] at hR
                                obtain ⟨rfl, hx⟩ := hR; replace hh := hh.more hx; clear hx
                                refine ops_end ?_
                                refine then_n ⟨⟨fun _ _ => (AtE.of hh (by intro p hp; rw [List.mem_singleton.1 hp]; simp)), trivial⟩, ?_⟩
                                refine mc_e rfl fun Q1 => ?_
                                refine o_call hf Try.en_17 rfl rfl rfl (p17 (renC c σ) ob cb (σ x1 : Nat) (σ y1 : Nat) _ (hDB _ (fun q hq => hh.get q (by simp [hq])))) ?_; clear hf a; intro v a w hR hf
                                obtain ⟨rfl, hx⟩ := hR; replace hh := hh.more hx; clear hx
                                refine ops_end ?_
                                refine then_n ⟨⟨fun _ _ => (AtE.of hh (by intro p hp; rw [List.mem_singleton.1 hp]; simp)), trivial⟩, ?_⟩
                                refine mc_p rfl   hf (yv_move rfl) (.inl rfl) rfl rfl ?_; clear hf a; intro a hf
                                refine mc_p rfl   hf (yv_extract rfl rfl) (.inl rfl) rfl rfl ?_; clear hf a; intro a hf
                                refine mc_p rfl   hf (yv_extract rfl rfl) (.inl rfl) rfl rfl ?_; clear hf a; intro a hf
                                refine mc_p rfl   hf (yv_extract rfl rfl) (.inl rfl) rfl rfl ?_; clear hf a; intro a hf
                                refine mc_e rfl fun Q1 => ?_
                                refine o_store hf hh Try.sz_28 fun w hh => ?_
                                refine ops_end ?_
                                refine then_n ⟨⟨fun _ _ => (AtE.of hh (by intro p hp; rw [List.mem_singleton.1 hp]; simp)), trivial⟩, ?_⟩
                                refine mc_e rfl fun Q1 => ?_
                                refine o_store hf hh Try.sz_28 fun w hh => ?_
                                refine ops_end ?_
                                refine then_n ⟨⟨fun _ _ => (AtE.of hh (by intro p hp; rw [List.mem_singleton.1 hp]; simp)), trivial⟩, ?_⟩
                                refine mc_p rfl   hf (yv_assign rfl) (.inl rfl) rfl rfl ?_; clear hf a; intro a hf
                                refine mc_end ?_
                                refine then_n ?_
                                exact ⟨(B42, B43), by first | exact hh.pick [0, 1, 2, 3, 4, 5] | exact hh.pick [1, 0, 2, 3, 4, 5], hf.head ⟨rfl, rfl, rfl, True.intro⟩ (Keep.cons rfl (Keep.cons rfl (Keep.cons rfl (Keep.cons rfl (Keep.cons rfl (Keep.cons rfl (Keep.cons rfl (Keep.cons rfl (Keep.cons rfl (Keep.cons rfl (Keep.cons rfl (Keep.cons rfl (Keep.cons rfl (Keep.cons rfl (Keep.cons rfl (Keep.base))))))))))))))))⟩
                              ·refine mc_e rfl fun Q1 => ?_
                               refine o_alloc hf hh Try.ze_28 ?_; clear hf hh a; intro B42 a w hf hh
                               refine ops_end ?_
                               refine then_n ⟨⟨fun _ _ => (AtE.of hh (by intro p hp; rw [List.mem_singleton.1 hp]; simp)), trivial⟩, ?_⟩
                               refine mc_e rfl fun Q1 => ?_
                               refine o_call hf Try.en_38 rfl rfl rfl (p38 (x1 : Nat) zn nn B7 B9 _ (by first | exact hh.at (i := 8) rfl | exact hh.at (i := 9) rfl | exact hh.at (i := 10) rfl) (by first | exact hh.at (i := 7) rfl | exact hh.at (i := 8) rfl | exact hh.at (i := 9) rfl) ⟨by omega, by omega⟩ (by omega) ⟨by omega, by omega⟩) ?_; clear hf a; intro v a w hR hf
                               rw [← hσ, Int.toNat_natCast] at hR
                               obtain ⟨rfl, hx⟩ := hR; replace hh := hh.more hx; clear hx
                               refine ops_end ?_
                               refine then_n ⟨⟨fun _ _ => (AtE.of hh (by intro p hp; rw [List.mem_singleton.1 hp]; simp)), trivial⟩, ?_⟩
                               refine mc_e rfl fun Q1 => ?_
                               refine o_call hf Try.en_38 rfl rfl rfl (p38 (y1 : Nat) zn nn B7 B9 _ (by first | exact hh.at (i := 8) rfl | exact hh.at (i := 9) rfl | exact hh.at (i := 10) rfl) (by first | exact hh.at (i := 7) rfl | exact hh.at (i := 8) rfl | exact hh.at (i := 9) rfl) ⟨by omega, by omega⟩ (by omega) ⟨by omega, by omega⟩) ?_; clear hf a; intro v a w hR hf
                               rw [← hσ, Int.toNat_natCast] at hR
                               obtain ⟨rfl, hx⟩ := hR; replace hh := hh.more hx; clear hx
                               refine ops_end ?_
                               refine then_n ⟨⟨fun _ _ => (AtE.of hh (by intro p hp; rw [List.mem_singleton.1 hp]; simp)), trivial⟩, ?_⟩
                               refine mc_e rfl fun Q1 => ?_
                               refine o_call hf Try.en_17 rfl rfl rfl (p17 (renC c σ) ob cb (σ x1 : Nat) (σ y1 : Nat) _ (hDB _ (fun q hq => hh.get q (by simp [hq])))) ?_; clear hf a; intro v a w hR hf
                               obtain ⟨rfl, hx⟩ := hR; replace hh := hh.more hx; clear hx
                               refine ops_end ?_
                               refine then_n ⟨⟨fun _ _ => (AtE.of hh (by intro p hp; rw [List.mem_singleton.1 hp]; simp)), trivial⟩, ?_⟩
                               refine mc_p rfl   hf (yv_move rfl) (.inl rfl) rfl rfl ?_; clear hf a; intro a hf
                               refine mc_p rfl   hf (yv_extract rfl rfl) (.inl rfl) rfl rfl ?_; clear hf a; intro a hf
                               refine mc_p rfl   hf (yv_extract rfl rfl) (.inl rfl) rfl rfl ?_; clear hf a; intro a hf
                               refine mc_p rfl   hf (yv_extract rfl rfl) (.inl rfl) rfl rfl ?_; clear hf a; intro a hf
                               refine mc_e rfl fun Q1 => ?_
                               refine o_store hf hh Try.sz_28 fun w hh => ?_
                               refine ops_end ?_
                               refine then_n ⟨⟨fun _ _ => (AtE.of hh (by intro p hp; rw [List.mem_singleton.1 hp]; simp)), trivial⟩, ?_⟩
                               refine mc_e rfl fun Q1 => ?_
                               refine o_store hf hh Try.sz_28 fun w hh => ?_
                               refine ops_end ?_
                               refine then_n ⟨⟨fun _ _ => (AtE.of hh (by intro p hp; rw [List.mem_singleton.1 hp]; simp)), trivial⟩, ?_⟩
                               refine mc_p rfl   hf (yv_assign rfl) (.inl rfl) rfl rfl ?_; clear hf a; intro a hf
                               refine mc_end ?_
                               refine then_n ?_
                               exact ⟨(B42, B43), by first | exact hh.pick [0, 1, 2, 3, 4, 5] | exact hh.pick [1, 0, 2, 3, 4, 5], hf.head ⟨rfl, rfl, rfl, True.intro⟩ (Keep.cons rfl (Keep.cons rfl (Keep.cons rfl (Keep.cons rfl (Keep.cons rfl (Keep.cons rfl (Keep.cons rfl (Keep.cons rfl (Keep.cons rfl (Keep.cons rfl (Keep.cons rfl (Keep.cons rfl (Keep.cons rfl (Keep.cons rfl (Keep.cons rfl (Keep.base))))))))))))))))⟩
                            ·rintro q a w hh hf
                             obtain ⟨B42, B43⟩ := q; dsimp only at hh hf
                             refine sy_sq ?_
                             refine o_v hf hh (y_lds Try.ag_28 rfl) ?_; clear hf a; intro a hf
                             refine o_v hf hh (y_lds Try.ag_28 rfl) ?_; clear hf a; intro a hf
                             refine o_v hf hh (yv_cast (yv_eqF [(betV c false (x1 : Nat) (y1 : Nat)).1, (betV c false (x1 : Nat) (y1 : Nat)).2] [(betV (flipC c) false (x1 : Nat) (y1 : Nat)).1, (betV (flipC c) false (x1 : Nat) (y1 : Nat)).2] fl28 rfl rfl) (congrArg Value.bool (pair_dec (betV c false (x1 : Nat) (y1 : Nat)) (betV (flipC c) false (x1 : Nat) (y1 : Nat))))) ?_; clear hf a; intro a hf
                             refine o_v hf hh (yv_move rfl) ?_; clear hf a; intro a hf
                             refine guard_split hf (t := 301) rfl (fun hg194 => ?_) (fun hg194 => ?_)
                             ·have hG194 := hg194; try simp only [gS] at hG194
                              refine o_v hf hh (y_lds Try.ag_28 rfl) ?_; clear hf a; intro a hf
                              refine o_v hf hh (y_lds Try.ag_28 rfl) ?_; clear hf a; intro a hf
                              refine o_v hf hh (yv_cast (yv_eqF [(betV c true (x1 : Nat) (y1 : Nat)).1, (betV c true (x1 : Nat) (y1 : Nat)).2] [(betV (flipC c) true (x1 : Nat) (y1 : Nat)).1, (betV (flipC c) true (x1 : Nat) (y1 : Nat)).2] fl28 rfl rfl) (congrArg Value.bool (pair_dec (betV c true (x1 : Nat) (y1 : Nat)) (betV (flipC c) true (x1 : Nat) (y1 : Nat))))) ?_; clear hf a; intro a hf
                              refine o_v hf hh (y_pt rfl rfl) ?_; clear hf a; intro a hf
                              refine o_v hf hh (yv_move rfl) ?_; clear hf a; intro a hf
                              refine guard_split hf (t := 306) rfl (fun hg196 => ?_) (fun hg196 => ?_)
                              ·have hG196 := hg196; try simp only [gS] at hG196
                               refine o_v hf hh (yv_move rfl) ?_; clear hf a; intro a hf
                               refine o_v hf hh (yv_move rfl) ?_; clear hf a; intro a hf
                               refine o_v hf hh (yv_bin rfl rfl rfl) ?_; clear hf a; intro a hf
                               refine o_v hf hh (y_pt rfl rfl) ?_; clear hf a; intro a hf
                               refine o_v hf hh (yv_move rfl) ?_; clear hf a; intro a hf
                               refine guard_split hf (t := 311) rfl (fun hg198 => ?_) (fun hg198 => ?_)
                               ·have hG198 := hg198; try simp only [gS] at hG198
                                refine o_v hf hh (y_lds Try.ag_28 rfl) ?_; clear hf a; intro a hf
                                refine o_v hf hh (y_lds Try.ag_28 rfl) ?_; clear hf a; intro a hf
                                refine o_v hf hh (yv_cast (yv_eqF [(betV c false (x1 : Nat) (y1 : Nat)).1, (betV c false (x1 : Nat) (y1 : Nat)).2] [(betV (renC c σ) false (σ x1 : Nat) (σ y1 : Nat)).1, (betV (renC c σ) false (σ x1 : Nat) (σ y1 : Nat)).2] fl28 rfl rfl) (congrArg Value.bool (pair_dec (betV c false (x1 : Nat) (y1 : Nat)) (betV (renC c σ) false (σ x1 : Nat) (σ y1 : Nat))))) ?_; clear hf a; intro a hf
                                refine o_v hf hh (y_pt rfl rfl) ?_; clear hf a; intro a hf
                                refine o_v hf hh (yv_move rfl) ?_; clear hf a; intro a hf
                                refine guard_split hf (t := 316) rfl (fun hg200 => ?_) (fun hg200 => ?_)
                                ·have hG200 := hg200; try simp only [gS] at hG200
                                 refine o_v hf hh (y_lds Try.ag_28 rfl) ?_; clear hf a; intro a hf
                                 refine o_v hf hh (y_lds Try.ag_28 rfl) ?_; clear hf a; intro a hf
                                 refine o_v hf hh (yv_cast (yv_eqF [(betV c true (x1 : Nat) (y1 : Nat)).1, (betV c true (x1 : Nat) (y1 : Nat)).2] [(betV (renC c σ) true (σ x1 : Nat) (σ y1 : Nat)).1, (betV (renC c σ) true (σ x1 : Nat) (σ y1 : Nat)).2] fl28 rfl rfl) (congrArg Value.bool (pair_dec (betV c true (x1 : Nat) (y1 : Nat)) (betV (renC c σ) true (σ x1 : Nat) (σ y1 : Nat))))) ?_; clear hf a; intro a hf
                                 refine o_v hf hh (y_pt rfl rfl) ?_; clear hf a; intro a hf
                                 refine o_v hf hh (yv_move rfl) ?_; clear hf a; intro a hf
                                 refine guard_split hf (t := 321) rfl (fun hg202 => ?_) (fun hg202 => ?_)
                                 ·have hG202 := hg202; try simp only [gS] at hG202
                                  refine o_v hf hh (yv_move rfl) ?_; clear hf a; intro a hf
                                  refine o_v hf hh (yv_move rfl) ?_; clear hf a; intro a hf
                                  refine o_v hf hh (yv_bin rfl rfl rfl) ?_; clear hf a; intro a hf
                                  refine o_v hf hh (y_pt rfl rfl) ?_; clear hf a; intro a hf
                                  refine o_v hf hh (yv_move rfl) ?_; clear hf a; intro a hf
                                  refine guard_split hf (t := 326) rfl (fun hg204 => ?_) (fun hg204 => ?_)
                                  ·have hG204 := hg204; try simp only [gS] at hG204
                                   refine o_call hf Try.en_14 rfl rfl rfl (p14 _) ?_; clear hf a; intro v a w hR hf
                                   obtain ⟨rfl, hx⟩ := hR; replace hh := hh.more hx; clear hx
                                   refine o_v hf hh (y_pt rfl rfl) ?_; clear hf a; intro a hf
                                   refine o_v hf hh (yv_assign rfl) ?_; clear hf a; intro a hf
                                   refine o_end ?_
                                   refine sy_ret ?_
                                   refine ret_r hf rfl rfl ?_
                                   first
                                     | exact ⟨rfl, hh.ext⟩
                                     | (exfalso
                                        (repeat (rename Fr _ _ _ _ => z9; clear z9))
                                        (repeat (rename Hp _ _ _ _ => z9; clear z9))
                                        (try clear hcn); (try clear hat); (try clear hbe)
                                        first
                                          | (rcases hK with ⟨h1, h2, h3⟩ | ⟨h1, h2, h3⟩ | ⟨h1, h2, h3⟩ <;> first | (omega; done) | (simp_all; done))
                                          | (omega; done)
                                          | (simp_all; done)
                                          | (simp_all <;> omega))
                                  ·have hG204 := hg204; try simp only [gS] at hG204
                                   refine o_off hf ?_; clear hf a; intro a hf
                                   refine o_v hf hh (y_pf rfl rfl) ?_; clear hf a; intro a hf
                                   refine o_v hf hh (yv_assign rfl) ?_; clear hf a; intro a hf
                                   refine o_end ?_
                                   refine sy_ret ?_
                                   refine ret_r hf rfl rfl ?_
                                   first
                                     | exact ⟨rfl, hh.ext⟩
                                     | (exfalso
                                        (repeat (rename Fr _ _ _ _ => z9; clear z9))
                                        (repeat (rename Hp _ _ _ _ => z9; clear z9))
                                        (try clear hcn); (try clear hat); (try clear hbe)
                                        first
                                          | (rcases hK with ⟨h1, h2, h3⟩ | ⟨h1, h2, h3⟩ | ⟨h1, h2, h3⟩ <;> first | (omega; done) | (simp_all; done))
                                          | (omega; done)
                                          | (simp_all; done)
                                          | (simp_all <;> omega))
                                 ·have hG202 := hg202; try simp only [gS] at hG202
                                  refine o_off hf ?_; clear hf a; intro a hf
                                  refine o_off hf ?_; clear hf a; intro a hf
                                  refine o_off hf ?_; clear hf a; intro a hf
                                  refine o_v hf hh (y_pf rfl rfl) ?_; clear hf a; intro a hf
                                  refine o_v hf hh (yv_move rfl) ?_; clear hf a; intro a hf
                                  refine o_off hf ?_; clear hf a; intro a hf
                                  refine o_v hf hh (y_pf rfl rfl) ?_; clear hf a; intro a hf
                                  refine o_v hf hh (yv_assign rfl) ?_; clear hf a; intro a hf
                                  refine o_end ?_
                                  refine sy_ret ?_
                                  refine ret_r hf rfl rfl ?_
                                  first
                                    | exact ⟨rfl, hh.ext⟩
                                    | (exfalso
                                       (repeat (rename Fr _ _ _ _ => z9; clear z9))
                                       (repeat (rename Hp _ _ _ _ => z9; clear z9))
                                       (try clear hcn); (try clear hat); (try clear hbe)
                                       first
                                         | (rcases hK with ⟨h1, h2, h3⟩ | ⟨h1, h2, h3⟩ | ⟨h1, h2, h3⟩ <;> first | (omega; done) | (simp_all; done))
                                         | (omega; done)
                                         | (simp_all; done)
                                         | (simp_all <;> omega))
                                ·have hG200 := hg200; try simp only [gS] at hG200
                                 refine o_off hf ?_; clear hf a; intro a hf
                                 refine o_off hf ?_; clear hf a; intro a hf
                                 refine o_off hf ?_; clear hf a; intro a hf
                                 refine o_v hf hh (y_pf rfl rfl) ?_; clear hf a; intro a hf
                                 refine o_v hf hh (yv_move rfl) ?_; clear hf a; intro a hf
                                 refine o_off hf ?_; clear hf a; intro a hf
                                 refine o_off hf ?_; clear hf a; intro a hf
                                 refine o_off hf ?_; clear hf a; intro a hf
                                 refine o_v hf hh (y_pf rfl rfl) ?_; clear hf a; intro a hf
                                 refine o_v hf hh (yv_move rfl) ?_; clear hf a; intro a hf
                                 refine o_off hf ?_; clear hf a; intro a hf
                                 refine o_v hf hh (y_pf rfl rfl) ?_; clear hf a; intro a hf
                                 refine o_v hf hh (yv_assign rfl) ?_; clear hf a; intro a hf
                                 refine o_end ?_
                                 refine sy_ret ?_
                                 refine ret_r hf rfl rfl ?_
                                 first
                                   | exact ⟨rfl, hh.ext⟩
                                   | (exfalso
                                      (repeat (rename Fr _ _ _ _ => z9; clear z9))
                                      (repeat (rename Hp _ _ _ _ => z9; clear z9))
                                      (try clear hcn); (try clear hat); (try clear hbe)
                                      first
                                        | (rcases hK with ⟨h1, h2, h3⟩ | ⟨h1, h2, h3⟩ | ⟨h1, h2, h3⟩ <;> first | (omega; done) | (simp_all; done))
                                        | (omega; done)
                                        | (simp_all; done)
                                        | (simp_all <;> omega))
                               ·have hG198 := hg198; try simp only [gS] at hG198
                                refine o_off hf ?_; clear hf a; intro a hf
                                refine o_off hf ?_; clear hf a; intro a hf
                                refine o_off hf ?_; clear hf a; intro a hf
                                refine o_v hf hh (y_pf rfl rfl) ?_; clear hf a; intro a hf
                                refine o_v hf hh (yv_move rfl) ?_; clear hf a; intro a hf
                                refine o_off hf ?_; clear hf a; intro a hf
                                refine o_off hf ?_; clear hf a; intro a hf
                                refine o_off hf ?_; clear hf a; intro a hf
                                refine o_v hf hh (y_pf rfl rfl) ?_; clear hf a; intro a hf
                                refine o_v hf hh (yv_move rfl) ?_; clear hf a; intro a hf
                                refine o_off hf ?_; clear hf a; intro a hf
                                refine o_off hf ?_; clear hf a; intro a hf
                                refine o_off hf ?_; clear hf a; intro a hf
                                refine o_v hf hh (y_pf rfl rfl) ?_; clear hf a; intro a hf
                                refine o_v hf hh (yv_move rfl) ?_; clear hf a; intro a hf
                                refine o_off hf ?_; clear hf a; intro a hf
                                refine o_v hf hh (y_pf rfl rfl) ?_; clear hf a; intro a hf
                                refine o_v hf hh (yv_assign rfl) ?_; clear hf a; intro a hf
                                refine o_end ?_
                                refine sy_ret ?_
                                refine ret_r hf rfl rfl ?_
                                first
                                  | exact ⟨rfl, hh.ext⟩
                                  | (exfalso
                                     (repeat (rename Fr _ _ _ _ => z9; clear z9))
                                     (repeat (rename Hp _ _ _ _ => z9; clear z9))
                                     (try clear hcn); (try clear hat); (try clear hbe)
                                     first
                                       | (rcases hK with ⟨h1, h2, h3⟩ | ⟨h1, h2, h3⟩ | ⟨h1, h2, h3⟩ <;> first | (omega; done) | (simp_all; done))
                                       | (omega; done)
                                       | (simp_all; done)
                                       | (simp_all <;> omega))
                              ·have hG196 := hg196; try simp only [gS] at hG196
                               refine o_off hf ?_; clear hf a; intro a hf
                               refine o_off hf ?_; clear hf a; intro a hf
                               refine o_off hf ?_; clear hf a; intro a hf
                               refine o_v hf hh (y_pf rfl rfl) ?_; clear hf a; intro a hf
                               refine o_v hf hh (yv_move rfl) ?_; clear hf a; intro a hf
                               refine o_off hf ?_; clear hf a; intro a hf
                               refine o_off hf ?_; clear hf a; intro a hf
                               refine o_off hf ?_; clear hf a; intro a hf
                               refine o_v hf hh (y_pf rfl rfl) ?_; clear hf a; intro a hf
                               refine o_v hf hh (yv_move rfl) ?_; clear hf a; intro a hf
                               refine o_off hf ?_; clear hf a; intro a hf
                               refine o_off hf ?_; clear hf a; intro a hf
                               refine o_off hf ?_; clear hf a; intro a hf
                               refine o_v hf hh (y_pf rfl rfl) ?_; clear hf a; intro a hf
                               refine o_v hf hh (yv_move rfl) ?_; clear hf a; intro a hf
                               refine o_off hf ?_; clear hf a; intro a hf
                               refine o_off hf ?_; clear hf a; intro a hf
                               refine o_off hf ?_; clear hf a; intro a hf
                               refine o_v hf hh (y_pf rfl rfl) ?_; clear hf a; intro a hf
                               refine o_v hf hh (yv_move rfl) ?_; clear hf a; intro a hf
                               refine o_off hf ?_; clear hf a; intro a hf
                               refine o_v hf hh (y_pf rfl rfl) ?_; clear hf a; intro a hf
                               refine o_v hf hh (yv_assign rfl) ?_; clear hf a; intro a hf
                               refine o_end ?_
                               refine sy_ret ?_
                               refine ret_r hf rfl rfl ?_
                               first
                                 | exact ⟨rfl, hh.ext⟩
                                 | (exfalso
                                    (repeat (rename Fr _ _ _ _ => z9; clear z9))
                                    (repeat (rename Hp _ _ _ _ => z9; clear z9))
                                    (try clear hcn); (try clear hat); (try clear hbe)
                                    first
                                      | (rcases hK with ⟨h1, h2, h3⟩ | ⟨h1, h2, h3⟩ | ⟨h1, h2, h3⟩ <;> first | (omega; done) | (simp_all; done))
                                      | (omega; done)
                                      | (simp_all; done)
                                      | (simp_all <;> omega))
                             ·have hG194 := hg194; try simp only [gS] at hG194
                              refine o_off hf ?_; clear hf a; intro a hf
                              refine o_off hf ?_; clear hf a; intro a hf
                              refine o_off hf ?_; clear hf a; intro a hf
                              refine o_v hf hh (y_pf rfl rfl) ?_; clear hf a; intro a hf
                              refine o_v hf hh (yv_move rfl) ?_; clear hf a; intro a hf
                              refine o_off hf ?_; clear hf a; intro a hf
                              refine o_off hf ?_; clear hf a; intro a hf
                              refine o_off hf ?_; clear hf a; intro a hf
                              refine o_v hf hh (y_pf rfl rfl) ?_; clear hf a; intro a hf
                              refine o_v hf hh (yv_move rfl) ?_; clear hf a; intro a hf
                              refine o_off hf ?_; clear hf a; intro a hf
                              refine o_off hf ?_; clear hf a; intro a hf
                              refine o_off hf ?_; clear hf a; intro a hf
                              refine o_v hf hh (y_pf rfl rfl) ?_; clear hf a; intro a hf
                              refine o_v hf hh (yv_move rfl) ?_; clear hf a; intro a hf
                              refine o_off hf ?_; clear hf a; intro a hf
                              refine o_off hf ?_; clear hf a; intro a hf
                              refine o_off hf ?_; clear hf a; intro a hf
                              refine o_v hf hh (y_pf rfl rfl) ?_; clear hf a; intro a hf
                              refine o_v hf hh (yv_move rfl) ?_; clear hf a; intro a hf
                              refine o_off hf ?_; clear hf a; intro a hf
                              refine o_off hf ?_; clear hf a; intro a hf
                              refine o_off hf ?_; clear hf a; intro a hf
                              refine o_v hf hh (y_pf rfl rfl) ?_; clear hf a; intro a hf
                              refine o_v hf hh (yv_move rfl) ?_; clear hf a; intro a hf
                              refine o_off hf ?_; clear hf a; intro a hf
                              refine o_v hf hh (y_pf rfl rfl) ?_; clear hf a; intro a hf
                              refine o_v hf hh (yv_assign rfl) ?_; clear hf a; intro a hf
                              refine o_end ?_
                              refine sy_ret ?_
                              refine ret_r hf rfl rfl ?_
                              first
                                | exact ⟨rfl, hh.ext⟩
                                | (exfalso
                                   (repeat (rename Fr _ _ _ _ => z9; clear z9))
                                   (repeat (rename Hp _ _ _ _ => z9; clear z9))
                                   (try clear hcn); (try clear hat); (try clear hbe)
                                   first
                                     | (rcases hK with ⟨h1, h2, h3⟩ | ⟨h1, h2, h3⟩ | ⟨h1, h2, h3⟩ <;> first | (omega; done) | (simp_all; done))
                                     | (omega; done)
                                     | (simp_all; done)
                                     | (simp_all <;> omega))
end Go.Proofs.Ytccjnjhlnpgocaa
namespace Go.Proofs.Ytccjnjhlnpgocaa
open Go Go.Sy Go.ChaM Go.ChangeShapes Go.WideShapes Go.Deep Go.RowKit
theorem hs24 : Try.prog.underlying 24 = some (.struct (Try.prog.fieldsOf 24)) := by kernel_rfl
theorem fs24 : (Try.prog.fieldsOf 24).map (fun f => (f.offset, f.type)) = #[(0, 3), (1, 22)] := by kernel_rfl
theorem co24 : Try.prog.cellsOf 24 = 2 := by kernel_rfl
theorem co22 : Try.prog.cellsOf 22 = 1 := by kernel_rfl
theorem co3 : Try.prog.cellsOf 3 = 1 := by kernel_rfl
theorem un22 : Try.prog.underlying 22 = some (.slice 46) := by kernel_rfl
theorem un42 : Try.prog.underlying 42 = some (.slice 56) := by kernel_rfl
theorem un56 : Try.prog.underlying 56 = some (.int .u16) := by kernel_rfl
theorem un5 : Try.prog.underlying 5 = some (.int .u8) := by kernel_rfl
theorem hs46 : Try.prog.underlying 46 = some (.struct (Try.prog.fieldsOf 46)) := by kernel_rfl
theorem co46 : Try.prog.cellsOf 46 = 6 := by kernel_rfl
theorem fk46 : flK Try.prog .i64 9 46 = some 6 := by kernel_rfl
theorem fk56 : flK Try.prog .u16 9 56 = some 1 := by kernel_rfl
theorem un4 : Try.prog.underlying 4 = some .bool := by kernel_rfl
theorem own : ownKnob Try.prog.godebug = none := by kernel_rfl
def toSi (p : List Int) : SiD := match p with
  | [a, b, c, d, e, f] => ⟨a, b, c, d, e, f⟩
  | _ => ⟨0, 0, 0, 0, 0, 0⟩
theorem toSi_enc {p : List Int} (h : p.length = 6) : siC (toSi p) = p.map (Value.int .i64) := by
  match p, h with
  | [a, b, c, d, e, f], _ => rfl
theorem toSi_bd {p : List Int} (h : p.length = 6) (hb : ∀ z ∈ p, I64 z) : SiI (toSi p) := by
  match p, h with
  | [a, b, c, d, e, f], _ => exact ⟨hb a (by simp), hb b (by simp), hb c (by simp), hb d (by simp), hb e (by simp), hb f (by simp)⟩
theorem tAt_flat {α : Type} {W : World} {sa : Option Addr} {l : List (List Int)} {n : Nat} {enc : α → List Value} {f : List Int → α} (hf : ∀ p ∈ l, enc (f p) = p.map (Value.int .i64)) (h : FlatAt W .i64 sa n l) : TAt n enc W sa (l.map f) := fun i s hi => by
  rw [List.getElem?_map] at hi
  cases hp : l[i]? with
  | none => rw [hp] at hi; cases hi
  | some p =>
    rw [hp] at hi
    cases hi
    obtain ⟨blk, off, c, T, fr, h1, h2, h3⟩ := h i p hp
    exact ⟨blk, off, c, T, fr, h1, h2, by rw [hf p (List.mem_of_getElem? hp)]; exact h3⟩
theorem len2 {l : List Value} (h : l.length = 2) : ∃ a b, l = [a, b] := by
  match l, h with
  | [a, b], _ => exact ⟨a, b, rfl⟩
section
variable {H : Type} {enc : TypeId × Value → H} {W : World} {base : Nat} {spare : Nat → Bool} {held : Bool}
set_option maxRecDepth 100000 in
theorem openCha {r : Reach} {b0 : Nat} {v : Value} {d : DataW H} {p : List MemPlace} (hv : Value.okWide Try.prog W r b0 24 v) (h : DataW.Trod enc Try.prog W base spare held 24 v d p) : ∃ (c : ChD) (sa : Option Addr) (cp : Nat), v = .agg (chC c sa cp) ∧ ChIn W c sa ∧ c.si.length ≤ cp := by
  obtain ⟨cs, rfl, hsz⟩ := okWide_struct hs24 hv
  obtain ⟨fuel, h⟩ := h
  obtain ⟨_, hf⟩ := trod_field hs24 h
  rw [fs24] at hf
  rw [co24] at hsz
  obtain ⟨l, rfl⟩ : ∃ l : List Value, cs = l.toArray := ⟨cs.toList, by simp⟩
  obtain ⟨c0, c1, rfl⟩ := len2 (by simpa using hsz)
  replace hf : ∀ (i o : Nat) (u : TypeId) (c : Nat), (#[(0, 3), (1, 22)] : Array (Nat × TypeId))[i]? = some (o, u) → Try.prog.cellsOf u = c → ∃ n y, DataW.trod enc Try.prog W base spare held n u (([c0, c1].drop o).take c) = some y := hf
  obtain ⟨_, y0, g0⟩ := hf 0 0 3 1 rfl co3
  obtain ⟨_, _, g1⟩ := hf 1 1 22 1 rfl co22
  obtain ⟨n, e1, _, hn⟩ := DataW.trod_int Try.un_3 g0
  obtain ⟨l1, s1, a1, e2, m1, b1, f1⟩ := trod_slices un22 fk46 (by omega) g1
  have hc1 := trod_cap un22 e2 g1
  simp at e1 e2
  subst e1; subst e2
  refine ⟨⟨n, l1.map toSi⟩, s1, a1, by simp, ⟨tAt_flat (fun p hp => toSi_enc (b1 p hp).1) f1, wf64 hn, fun s hs => ?_⟩, by simpa using hc1⟩
  obtain ⟨p, hp, rfl⟩ := List.mem_map.1 hs
  exact toSi_bd (b1 p hp).1 (fun z hz => wf64 ((b1 p hp).2 z hz))
set_option maxRecDepth 100000 in
theorem openSi {r : Reach} {b0 : Nat} {v : Value} {d : DataW H} {p : List MemPlace} (hv : Value.okWide Try.prog W r b0 46 v) (h : DataW.Trod enc Try.prog W base spare held 46 v d p) : ∃ t : SiD, v = siV t ∧ SiI t := by
  obtain ⟨cs, rfl, hsz⟩ := okWide_struct hs46 hv
  obtain ⟨fuel, h⟩ := h
  obtain ⟨p, h1, h2, h3⟩ := trod_fl fk46 h
  refine ⟨toSi p, ?_, toSi_bd h1 (fun z hz => wf64 (h3 z hz))⟩
  match p, h1 with
  | [x1, x2, x3, x4, x5, x6], _ =>
    have e : cs = #[.int .i64 x1, .int .i64 x2, .int .i64 x3, .int .i64 x4, .int .i64 x5, .int .i64 x6] := by
      apply Array.ext'
      have h4 : cs.toList = [x1, x2, x3, x4, x5, x6].map (Value.int .i64) := h2
      rw [h4]; rfl
    subst e
    rfl
end
end Go.Proofs.Ytccjnjhlnpgocaa
