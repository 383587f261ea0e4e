/- The reference's small functions, walked. -/
import Derived.Test.YtkolcbjghphjeaaDoorF1
import Derived.Test.YtkolcbjghphjeaaDoorM1
import Derived.Test.YtkolcbjghphjeaaDoorProg
namespace Go.Proofs.YtkolcbjghphjeaaDoor
open Go Go.Sy Go.BarM
theorem c44 (n lo hi : Int) (w : World) : Calls Tryd.prog 44 #[.int .i64 n, .int .i64 lo, .int .i64 hi] w (Ret fun v w' => v = .bool (decide (lo ≤ n ∧ n ≤ hi)) ∧ Ext [] w w') := by
  refine calls_of Tryd.func44 rfl rfl (fun a hf => ?_)
  have hh := Hp.init w []
  refine sy_seq ?_
  refine sy_ops ?_
  refine ops_v hf hh (yv_assign rfl) (.inl rfl) rfl rfl rfl ?_; clear hf; clear a; intro a hf
  refine ops_end ?_
  refine then_n ?_
  refine sy_seq ?_
  refine sy_ops ?_
  refine ops_v hf hh (yv_move rfl) (.inl rfl) rfl rfl rfl ?_; clear hf; clear a; intro a hf
  refine ops_v hf hh (yv_move rfl) (.inl rfl) rfl rfl rfl ?_; clear hf; clear a; intro a hf
  refine ops_v hf hh (yv_bin rfl rfl rfl) (.inl rfl) rfl rfl rfl ?_; clear hf; clear a; intro a hf
  refine ops_v hf hh (yv_move rfl) (.inl rfl) rfl rfl rfl ?_; clear hf; clear a; intro a hf
  refine guard_split hf (t := 10) rfl (fun hg2 => ?_) (fun hg2 => ?_)
  · have hG2 := hg2; try simp only [gS] at hG2
    refine ops_v hf hh (yv_move rfl) (gon rfl rfl rfl (by first | assumption | rfl | (simp; done))) rfl rfl rfl ?_; clear hf; clear a; intro a hf
    refine ops_v hf hh (yv_move rfl) (gon rfl rfl rfl (by first | assumption | rfl | (simp; done))) rfl rfl rfl ?_; clear hf; clear a; intro a hf
    refine ops_v hf hh (yv_bin rfl rfl rfl) (gon rfl rfl rfl (by first | assumption | rfl | (simp; done))) rfl rfl rfl ?_; clear hf; clear a; intro a hf
    refine ops_v hf hh (yv_pick_t rfl (by first | assumption | rfl | (simp; done)) rfl) (.inl rfl) rfl rfl rfl ?_; clear hf; clear a; intro a hf
    refine ops_v hf hh (yv_assign rfl) (.inl rfl) rfl rfl rfl ?_; clear hf; clear a; intro a hf
    refine ops_end ?_
    refine then_n ?_
    refine sy_ret ?_
    refine ret_r hf rfl rfl ?_
    refine ⟨?_, hh.ext⟩; simp [tup]; omega
  · have hG2 := hg2; try simp only [gS] at hG2
    refine ops_off hf (goff rfl rfl rfl (by first | assumption | rfl | (simp; done))) rfl rfl ?_; clear hf; clear a; intro a hf
    refine ops_off hf (goff rfl rfl rfl (by first | assumption | rfl | (simp; done))) rfl rfl ?_; clear hf; clear a; intro a hf
    refine ops_off hf (goff rfl rfl rfl (by first | assumption | rfl | (simp; done))) rfl rfl ?_; clear hf; clear a; intro a hf
    refine ops_v hf hh (yv_pick_f rfl (by first | assumption | rfl | (simp; done)) rfl) (.inl rfl) rfl rfl rfl ?_; clear hf; clear a; intro a hf
    refine ops_v hf hh (yv_assign rfl) (.inl rfl) rfl rfl rfl ?_; clear hf; clear a; intro a hf
    refine ops_end ?_
    refine then_n ?_
    refine sy_ret ?_
    refine ret_r hf rfl rfl ?_
    refine ⟨?_, hh.ext⟩; simp [tup]; omega
theorem c56n (n : Nat) (hn : n ≤ 62) (w : World) : Calls Tryd.prog 56 #[.int .i64 n] w (Ret fun v w' => v = .int .i64 (2 ^ n : Nat) ∧ Ext [] w w') := by
  refine calls_of Tryd.func56 rfl rfl (fun a hf => ?_)
  have hh := Hp.init w []
  refine sy_seq ?_
  refine sy_ops ?_
  refine ops_v hf hh (yv_assign rfl) (.inl rfl) rfl rfl rfl ?_; clear hf; clear a; intro a hf
  refine ops_end ?_
  refine then_n ?_
  refine sy_seq ?_
  refine sy_ops ?_
  refine ops_v hf hh (yv_assign rfl) (.inl rfl) rfl rfl rfl ?_; clear hf; clear a; intro a hf
  refine ops_end ?_
  refine then_n ?_
  refine sy_seq ?_
  refine sy_seq ?_
  refine sy_ops ?_
  refine ops_v hf hh (yv_assign rfl) (.inl rfl) rfl rfl rfl ?_; clear hf; clear a; intro a hf
  refine ops_end ?_
  refine then_n ?_
  refine sy_block ?_
  refine sy_loopF (σ := Nat) [3, 4, 5, 6, 7, 8, 9, 10, 11] (fun k => [(3, .int .i64 (2 ^ k : Nat)), (4, .int .i64 k)]) (fun k => k ≤ n) (fun k => n - k) (0) hf hh ?_ ?_ ?_
  · repeat' (first | exact True.intro | refine And.intro rfl ?_)
  · first | exact True.intro | omega | (simp; omega) | simp
  · rintro k a w hpr hf hh
    have hp62 : 2 ^ k ≤ 2 ^ 62 := Nat.pow_le_pow_right (by omega) (by omega)
    have hpl : k < n → 2 * 2 ^ k ≤ 2 ^ 62 := fun h => by rw [← Nat.pow_succ']; exact Nat.pow_le_pow_right (by omega) (by omega)
    refine sy_seq ?_
    refine sy_seq ?_
    refine sy_ops ?_
    refine ops_v hf hh (yv_move rfl) (.inl rfl) rfl rfl rfl ?_; clear hf; clear a; intro a hf
    refine ops_v hf hh (yv_move rfl) (.inl rfl) rfl rfl rfl ?_; clear hf; clear a; intro a hf
    refine ops_v hf hh (yv_bin rfl rfl rfl) (.inl rfl) rfl rfl rfl ?_; clear hf; clear a; intro a hf
    refine ops_end ?_
    refine then_n ?_
    refine sy_cond hf rfl (fun hg2 => ?_) (fun hg2 => ?_)
    · have hG2 := hg2; try simp only [gS] at hG2
      refine sy_skip ?_
      refine then_n ?_
      refine sy_seq ?_
      refine sy_block ?_
      refine sy_ops ?_
      refine ops_v hf hh (yv_move rfl) (.inl rfl) rfl rfl rfl ?_; clear hf; clear a; intro a hf
      first | refine ops_v hf hh (yv_mul rfl rfl (by omega) (by omega)) (.inl rfl) rfl rfl rfl ?_; clear hf; clear a; intro a hf | refine ops_v hf hh (yv_bin rfl rfl rfl) (.inl rfl) rfl rfl rfl ?_; clear hf; clear a; intro a hf
      refine ops_v hf hh (yv_assign rfl) (.inl rfl) rfl rfl rfl ?_; clear hf; clear a; intro a hf
      refine ops_end ?_
      refine blk_n ?_
      refine then_n ?_
      refine sy_ops ?_
      refine ops_v hf hh (yv_move rfl) (.inl rfl) rfl rfl rfl ?_; clear hf; clear a; intro a hf
      first | refine ops_v hf hh (yv_add rfl rfl (by omega) (by omega)) (.inl rfl) rfl rfl rfl ?_; clear hf; clear a; intro a hf | refine ops_v hf hh (yv_bin rfl rfl rfl) (.inl rfl) rfl rfl rfl ?_; clear hf; clear a; intro a hf
      refine ops_v hf hh (yv_assign rfl) (.inl rfl) rfl rfl rfl ?_; clear hf; clear a; intro a hf
      refine ops_end ?_
      refine then_n ?_
      refine ⟨k + 1, ⟨by omega, ?_, hh⟩, by omega⟩
      refine hf.head ⟨congrArg (fun z => some (Value.int IntKind.i64 z)) ?_, rfl, True.intro⟩ (Keep.cons rfl (Keep.cons rfl (Keep.cons rfl (Keep.cons rfl (Keep.cons rfl (Keep.cons rfl (Keep.cons rfl (Keep.cons rfl (Keep.cons rfl (Keep.app rfl (Keep.rm rfl Keep.base)))))))))))
      rw [Nat.pow_succ]; push_cast; omega
    · have hG2 := hg2; try simp only [gS] at hG2
      refine sy_exit ?_
      refine then_e ?_
      refine then_e ?_
      refine blk_e ?_
      refine then_n ?_
      refine sy_seq ?_
      refine sy_ops ?_
      refine ops_v hf hh (yv_move rfl) (.inl rfl) rfl rfl rfl ?_; clear hf; clear a; intro a hf
      refine ops_v hf hh (yv_assign rfl) (.inl rfl) rfl rfl rfl ?_; clear hf; clear a; intro a hf
      refine ops_end ?_
      refine then_n ?_
      refine sy_ret ?_
      refine ret_r hf rfl rfl ?_
      refine ⟨?_, hh.ext⟩
      have : k = n := by omega
      subst this; rfl
theorem c56 (n : Int) (h0 : 0 ≤ n) (hn : n ≤ 62) (w : World) : Calls Tryd.prog 56 #[.int .i64 n] w (Ret fun v w' => v = .int .i64 (2 ^ n.toNat : Nat) ∧ Ext [] w w') := by
  obtain ⟨m, rfl⟩ := Int.eq_ofNat_of_zero_le h0
  exact c56n m (by omega) w
theorem pow_pos_i (n : Nat) : (1 : Int) ≤ ((2 ^ n : Nat) : Int) := by have := Nat.two_pow_pos n; omega
theorem bit_eq (s n : Nat) : decide (((s : Int) / ((2 ^ n : Nat) : Int)) % 2 = 1) = s.testBit n := by
  rw [Nat.testBit_eq_decide_div_mod_eq, decide_eq_decide]
  have : ((s : Int) / ((2 ^ n : Nat) : Int)) % 2 = ((s / 2 ^ n % 2 : Nat) : Int) := by push_cast; rfl
  rw [this]; omega
theorem c55n (s n : Nat) (hs : s ≤ 9223372036854775807) (hn : n ≤ 62) (w : World) : Calls Tryd.prog 55 #[.int .i64 s, .int .i64 n] w (Ret fun v w' => v = .bool (s.testBit n) ∧ Ext [] w w') := by
  refine calls_of Tryd.func55 rfl rfl (fun a hf => ?_)
  have hh := Hp.init w []
  have hp := pow_pos_i n
  refine sy_seq ?_
  refine sy_ops ?_
  refine ops_v hf hh (yv_assign rfl) (.inl rfl) rfl rfl rfl ?_; clear hf; clear a; intro a hf
  refine ops_end ?_
  refine then_n ?_
  refine sy_seq ?_
  refine sy_ops ?_
  refine ops_v hf hh (yv_move rfl) (.inl rfl) rfl rfl rfl ?_; clear hf; clear a; intro a hf
  refine ops_v hf hh (yv_move rfl) (.inl rfl) rfl rfl rfl ?_; clear hf; clear a; intro a hf
  refine ops_call hf Tryd.en_56 rfl rfl rfl (.inl rfl) rfl (c56n n hn _) ?_; clear hf; clear a; intro v a w hR hf
  obtain ⟨rfl, hx⟩ := hR; replace hh := hh.more hx; clear hx
  refine ops_v hf hh (yv_quo rfl rfl (by omega) (by omega) (by omega)) (.inl rfl) rfl rfl rfl ?_; clear hf; clear a; intro a hf
  refine ops_v hf hh (yv_rem rfl rfl (Int.ediv_nonneg (by omega) (by omega)) (by omega)) (.inl rfl) rfl rfl rfl fun a hf => ?_
  refine ops_v hf hh (yv_bin rfl rfl rfl) (.inl rfl) rfl rfl rfl ?_; clear hf; clear a; intro a hf
  refine ops_v hf hh (yv_assign rfl) (.inl rfl) rfl rfl rfl ?_; clear hf; clear a; intro a hf
  refine ops_end ?_
  refine then_n ?_
  refine sy_ret ?_
  refine ret_r hf rfl rfl ?_
  refine ⟨?_, hh.ext⟩
  rw [← bit_eq]; rfl
theorem c55 (s n : Int) (h0 : 0 ≤ s) (hs : s ≤ 9223372036854775807) (h1 : 0 ≤ n) (hn : n ≤ 62) (w : World) : Calls Tryd.prog 55 #[.int .i64 s, .int .i64 n] w (Ret fun v w' => v = .bool (s.toNat.testBit n.toNat) ∧ Ext [] w w') := by
  obtain ⟨m, rfl⟩ := Int.eq_ofNat_of_zero_le h0
  obtain ⟨k, rfl⟩ := Int.eq_ofNat_of_zero_le h1
  exact c55n m k (by omega) (by omega) w
theorem c31n (s : Nat) (hs : s ≤ 9223372036854775807) (w : World) : Calls Tryd.prog 31 #[.int .i64 s] w (Ret fun v w' => v = .int .i64 (pc s) ∧ Ext [] w w') := by
  refine calls_of Tryd.func31 rfl rfl (fun a hf => ?_)
  have hh := Hp.init w []
  have hle := pc_le s
  refine sy_seq ?_
  refine sy_ops ?_
  refine ops_v hf hh (yv_assign rfl) (.inl rfl) rfl rfl rfl ?_; clear hf; clear a; intro a hf
  refine ops_end ?_
  refine then_n ?_
  refine sy_seq ?_
  refine sy_ops ?_
  refine ops_v hf hh (yv_assign rfl) (.inl rfl) rfl rfl rfl ?_; clear hf; clear a; intro a hf
  refine ops_end ?_
  refine then_n ?_
  refine sy_seq ?_
  refine sy_block ?_
  refine sy_loopF (σ := Nat × Nat) [0, 3, 4, 5, 6, 7, 8, 9, 10, 11] (fun k => [(3, .int .i64 k.2), (0, .int .i64 k.1)]) (fun k => k.2 + pc k.1 = pc s ∧ k.1 ≤ s) (fun k => k.1) ((s, 0)) hf hh ?_ ?_ ?_
  · repeat' (first | exact True.intro | refine And.intro rfl ?_)
  · exact ⟨by simp, Nat.le_refl _⟩
  · rintro k a w ⟨hp1, hp2⟩ hf hh
    obtain ⟨t, m⟩ := k
    simp only at hp1 hp2
    have hst := pc_step (n := t) (by omega)
    have hr0 : (0 : Int) ≤ (t : Int) % 2 := Int.emod_nonneg _ (by omega)
    have hr2 : (t : Int) % 2 < 2 := Int.emod_lt_of_pos _ (by omega)
    refine sy_seq ?_
    refine sy_seq ?_
    refine sy_ops ?_
    refine ops_v hf hh (yv_move rfl) (.inl rfl) rfl rfl rfl ?_; clear hf; clear a; intro a hf
    refine ops_v hf hh (yv_bin rfl rfl rfl) (.inl rfl) rfl rfl rfl ?_; clear hf; clear a; intro a hf
    refine ops_end ?_
    refine then_n ?_
    refine sy_cond hf rfl (fun hg2 => ?_) (fun hg2 => ?_)
    · have hG2 := hg2; try simp only [gS] at hG2
      refine sy_skip ?_
      refine then_n ?_
      refine sy_block ?_
      refine sy_seq ?_
      refine sy_ops ?_
      refine ops_v hf hh (yv_move rfl) (.inl rfl) rfl rfl rfl ?_; clear hf; clear a; intro a hf
      refine ops_v hf hh (yv_move rfl) (.inl rfl) rfl rfl rfl ?_; clear hf; clear a; intro a hf
      refine ops_v hf hh (yv_rem rfl rfl (by omega) (by omega)) (.inl rfl) rfl rfl rfl ?_; clear hf; clear a; intro a hf
      first | refine ops_v hf hh (yv_add rfl rfl (by omega) (by omega)) (.inl rfl) rfl rfl rfl ?_; clear hf; clear a; intro a hf | refine ops_v hf hh (yv_bin rfl rfl rfl) (.inl rfl) rfl rfl rfl ?_; clear hf; clear a; intro a hf
      refine ops_v hf hh (yv_assign rfl) (.inl rfl) rfl rfl rfl ?_; clear hf; clear a; intro a hf
      refine ops_end ?_
      refine then_n ?_
      refine sy_ops ?_
      refine ops_v hf hh (yv_move rfl) (.inl rfl) rfl rfl rfl ?_; clear hf; clear a; intro a hf
      refine ops_v hf hh (yv_quo rfl rfl (by omega) (by omega) (by omega)) (.inl rfl) rfl rfl rfl ?_; clear hf; clear a; intro a hf
      refine ops_v hf hh (yv_assign rfl) (.inl rfl) rfl rfl rfl ?_; clear hf; clear a; intro a hf
      refine ops_end ?_
      refine blk_n ?_
      refine then_n ?_
      refine ⟨(t / 2, m + t % 2), ⟨⟨by simp only; omega, by simp only; omega⟩, hf.head ⟨congrArg (fun z => some (Value.int IntKind.i64 z)) (by push_cast; omega), congrArg (fun z => some (Value.int IntKind.i64 z)) (by push_cast; omega), True.intro⟩ (Keep.cons rfl (Keep.cons rfl (Keep.cons rfl (Keep.cons rfl (Keep.cons rfl (Keep.cons rfl (Keep.cons rfl (Keep.cons rfl (Keep.cons rfl (Keep.cons rfl (Keep.app rfl (Keep.rm rfl Keep.base)))))))))))), hh⟩, by simp only; omega⟩
    · have hG2 := hg2; try simp only [gS] at hG2
      refine sy_exit ?_
      refine then_e ?_
      refine then_e ?_
      refine blk_e ?_
      refine then_n ?_
      refine sy_seq ?_
      refine sy_ops ?_
      refine ops_v hf hh (yv_move rfl) (.inl rfl) rfl rfl rfl ?_; clear hf; clear a; intro a hf
      refine ops_v hf hh (yv_assign rfl) (.inl rfl) rfl rfl rfl ?_; clear hf; clear a; intro a hf
      refine ops_end ?_
      refine then_n ?_
      refine sy_ret ?_
      refine ret_r hf rfl rfl ?_
      refine ⟨?_, hh.ext⟩
      have : t = 0 := by omega
      subst this
      rw [pc_zero] at hp1
      exact congrArg (Value.int IntKind.i64) (by omega)
theorem c31 (s : Int) (h0 : 0 ≤ s) (hs : s ≤ 9223372036854775807) (w : World) : Calls Tryd.prog 31 #[.int .i64 s] w (Ret fun v w' => v = .int .i64 (pc s.toNat) ∧ Ext [] w w') := by
  obtain ⟨m, rfl⟩ := Int.eq_ofNat_of_zero_le h0
  exact c31n m (by omega) w
theorem c68 (p l r : Nat) (hp : p ≤ 9223372036854775807) (hr : r ≤ 62) (hl : l < r) (w : World) : Calls Tryd.prog 68 #[.int .i64 p, .int .i64 l, .int .i64 r] w (Ret fun v w' => v = .int .i64 (between p l r) ∧ Ext [] w w') := by
  refine calls_of Tryd.func68 rfl rfl (fun a hf => ?_)
  have hh := Hp.init w []
  refine sy_seq ?_
  refine sy_ops ?_
  refine ops_v hf hh (yv_assign rfl) (.inl rfl) rfl rfl rfl ?_; clear hf; clear a; intro a hf
  refine ops_end ?_
  refine then_n ?_
  refine sy_seq ?_
  refine sy_ops ?_
  refine ops_v hf hh (yv_assign rfl) (.inl rfl) rfl rfl rfl ?_; clear hf; clear a; intro a hf
  refine ops_end ?_
  refine then_n ?_
  refine sy_seq ?_
  refine sy_seq ?_
  refine sy_ops ?_
  refine ops_v hf hh (yv_move rfl) (.inl rfl) rfl rfl rfl ?_; clear hf; clear a; intro a hf
  first | refine ops_v hf hh (yv_add rfl rfl (by omega) (by omega)) (.inl rfl) rfl rfl rfl ?_; clear hf; clear a; intro a hf | refine ops_v hf hh (yv_bin rfl rfl rfl) (.inl rfl) rfl rfl rfl ?_; clear hf; clear a; intro a hf
  refine ops_v hf hh (yv_assign rfl) (.inl rfl) rfl rfl rfl ?_; clear hf; clear a; intro a hf
  refine ops_end ?_
  refine then_n ?_
  refine sy_block ?_
  refine sy_loopF (σ := Nat) [7, 8, 11, 12, 13, 14, 15, 16, 17, 18, 19, 20] (fun k => [(7, .int .i64 (between p l k)), (8, .int .i64 k)]) (fun k => l + 1 ≤ k ∧ k ≤ r) (fun k => r - k) (l + 1) hf hh ?_ ?_ ?_
  · exact ⟨by rw [between_start]; rfl, rfl, True.intro⟩
  · omega
  · rintro k a w ⟨hp1, hp2⟩ hf hh
    have hbl := between_le p l k
    have hbs := between_step p l k (by omega)
    refine sy_seq ?_
    refine sy_seq ?_
    refine sy_ops ?_
    refine ops_v hf hh (yv_move rfl) (.inl rfl) rfl rfl rfl ?_; clear hf; clear a; intro a hf
    refine ops_v hf hh (yv_move rfl) (.inl rfl) rfl rfl rfl ?_; clear hf; clear a; intro a hf
    refine ops_v hf hh (yv_bin rfl rfl rfl) (.inl rfl) rfl rfl rfl ?_; clear hf; clear a; intro a hf
    refine ops_end ?_
    refine then_n ?_
    refine sy_cond hf rfl (fun hg2 => ?_) (fun hg2 => ?_)
    · have hG2 := hg2; try simp only [gS] at hG2
      refine sy_skip ?_
      refine then_n ?_
      refine sy_seq ?_
      refine sy_block ?_
      refine sy_seq ?_
      refine sy_ops ?_
      refine ops_v hf hh (yv_move rfl) (.inl rfl) rfl rfl rfl ?_; clear hf; clear a; intro a hf
      refine ops_v hf hh (yv_move rfl) (.inl rfl) rfl rfl rfl ?_; clear hf; clear a; intro a hf
      refine ops_call hf Tryd.en_55 rfl rfl rfl (.inl rfl) rfl (c55 _ _ (by omega) (by omega) (by omega) (by omega) _) ?_; clear hf; clear a; intro v a w hR hf
      obtain ⟨rfl, hx⟩ := hR; replace hh := hh.more hx; clear hx
      refine ops_end ?_
      refine then_n ?_
      refine sy_cond hf rfl (fun hg4 => ?_) (fun hg4 => ?_)
      · have hG4 := hg4; try simp only [gS] at hG4
        refine sy_ops ?_
        refine ops_v hf hh (yv_move rfl) (.inl rfl) rfl rfl rfl ?_; clear hf; clear a; intro a hf
        first | refine ops_v hf hh (yv_add rfl rfl (by omega) (by omega)) (.inl rfl) rfl rfl rfl ?_; clear hf; clear a; intro a hf | refine ops_v hf hh (yv_bin rfl rfl rfl) (.inl rfl) rfl rfl rfl ?_; clear hf; clear a; intro a hf
        refine ops_v hf hh (yv_assign rfl) (.inl rfl) rfl rfl rfl ?_; clear hf; clear a; intro a hf
        refine ops_end ?_
        refine blk_n ?_
        refine then_n ?_
        refine sy_ops ?_
        refine ops_v hf hh (yv_move rfl) (.inl rfl) rfl rfl rfl ?_; clear hf; clear a; intro a hf
        first | refine ops_v hf hh (yv_add rfl rfl (by omega) (by omega)) (.inl rfl) rfl rfl rfl ?_; clear hf; clear a; intro a hf | refine ops_v hf hh (yv_bin rfl rfl rfl) (.inl rfl) rfl rfl rfl ?_; clear hf; clear a; intro a hf
        refine ops_v hf hh (yv_assign rfl) (.inl rfl) rfl rfl rfl ?_; clear hf; clear a; intro a hf
        refine ops_end ?_
        refine then_n ?_
        refine ⟨k + 1, ⟨by omega, hf.head ⟨congrArg (fun z => some (Value.int IntKind.i64 z)) ?_, rfl, True.intro⟩ (Keep.cons rfl (Keep.cons rfl (Keep.cons rfl (Keep.cons rfl (Keep.cons rfl (Keep.cons rfl (Keep.cons rfl (Keep.cons rfl (Keep.cons rfl (Keep.cons rfl (Keep.cons rfl (Keep.cons rfl (Keep.app rfl (Keep.rm rfl Keep.base)))))))))))))), hh⟩, by omega⟩
        simp only [Int.toNat_natCast] at *
        rw [hbs]; simp [*]
      · have hG4 := hg4; try simp only [gS] at hG4
        refine sy_skip ?_
        refine blk_n ?_
        refine then_n ?_
        refine sy_ops ?_
        refine ops_v hf hh (yv_move rfl) (.inl rfl) rfl rfl rfl ?_; clear hf; clear a; intro a hf
        first | refine ops_v hf hh (yv_add rfl rfl (by omega) (by omega)) (.inl rfl) rfl rfl rfl ?_; clear hf; clear a; intro a hf | refine ops_v hf hh (yv_bin rfl rfl rfl) (.inl rfl) rfl rfl rfl ?_; clear hf; clear a; intro a hf
        refine ops_v hf hh (yv_assign rfl) (.inl rfl) rfl rfl rfl ?_; clear hf; clear a; intro a hf
        refine ops_end ?_
        refine then_n ?_
        refine ⟨k + 1, ⟨by omega, hf.head ⟨congrArg (fun z => some (Value.int IntKind.i64 z)) ?_, rfl, True.intro⟩ (Keep.cons rfl (Keep.cons rfl (Keep.cons rfl (Keep.cons rfl (Keep.cons rfl (Keep.cons rfl (Keep.cons rfl (Keep.cons rfl (Keep.cons rfl (Keep.app rfl (Keep.rm rfl Keep.base))))))))))), hh⟩, by omega⟩
        simp only [Int.toNat_natCast] at *
        rw [hbs]; simp [*]
    · have hG2 := hg2; try simp only [gS] at hG2
      refine sy_exit ?_
      refine then_e ?_
      refine then_e ?_
      refine blk_e ?_
      refine then_n ?_
      refine sy_seq ?_
      refine sy_ops ?_
      refine ops_v hf hh (yv_move rfl) (.inl rfl) rfl rfl rfl ?_; clear hf; clear a; intro a hf
      refine ops_v hf hh (yv_assign rfl) (.inl rfl) rfl rfl rfl ?_; clear hf; clear a; intro a hf
      refine ops_end ?_
      refine then_n ?_
      refine sy_ret ?_
      refine ret_r hf rfl rfl ?_
      refine ⟨?_, hh.ext⟩
      have : k = r := by omega
      subst this; rfl
end Go.Proofs.YtkolcbjghphjeaaDoor
