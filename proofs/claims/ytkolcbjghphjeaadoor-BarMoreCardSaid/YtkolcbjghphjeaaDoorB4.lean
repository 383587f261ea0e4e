/- The program's small functions, walked. -/
import Derived.Test.YtkolcbjghphjeaaDoorB3
import Derived.Shelf.Spec.TrailingZeros
namespace Go.Proofs.YtkolcbjghphjeaaDoor
open Go Go.Sy Go.BarM
theorem c40 (n lo hi : Int) (w : World) : Calls Tryd.prog 40 #[.int .i64 n, .int .i64 lo, .int .i64 hi] w (Ret fun v w' => v = .bool (decide (lo ≤ n ∧ n ≤ hi)) ∧ Ext [] w w') := by
  refine calls_of Tryd.func40 rfl rfl (fun a hf => ?_)
  have hh := Hp.init w []
  refine sy_seq ?_
  refine sy_ops ?_
  refine ops_v hf hh (yv_assign rfl) (.inl rfl) rfl rfl rfl ?_; clear hf; clear a; intro a hf
  refine ops_end ?_
  refine then_n ?_
  refine sy_seq ?_
  refine sy_ops ?_
  refine ops_v hf hh (yv_move rfl) (.inl rfl) rfl rfl rfl ?_; clear hf; clear a; intro a hf
  refine ops_v hf hh (yv_move rfl) (.inl rfl) rfl rfl rfl ?_; clear hf; clear a; intro a hf
  refine ops_v hf hh (yv_bin rfl rfl rfl) (.inl rfl) rfl rfl rfl ?_; clear hf; clear a; intro a hf
  refine ops_v hf hh (yv_move rfl) (.inl rfl) rfl rfl rfl ?_; clear hf; clear a; intro a hf
  refine guard_split hf (t := 10) rfl (fun hg2 => ?_) (fun hg2 => ?_)
  · have hG2 := hg2; try simp only [gS] at hG2
    refine ops_v hf hh (yv_move rfl) (gon rfl rfl rfl (by first | assumption | rfl | (simp; done))) rfl rfl rfl ?_; clear hf; clear a; intro a hf
    refine ops_v hf hh (yv_move rfl) (gon rfl rfl rfl (by first | assumption | rfl | (simp; done))) rfl rfl rfl ?_; clear hf; clear a; intro a hf
    refine ops_v hf hh (yv_bin rfl rfl rfl) (gon rfl rfl rfl (by first | assumption | rfl | (simp; done))) rfl rfl rfl ?_; clear hf; clear a; intro a hf
    refine ops_v hf hh (yv_pick_t rfl (by first | assumption | rfl | (simp; done)) rfl) (.inl rfl) rfl rfl rfl ?_; clear hf; clear a; intro a hf
    refine ops_v hf hh (yv_assign rfl) (.inl rfl) rfl rfl rfl ?_; clear hf; clear a; intro a hf
    refine ops_end ?_
    refine then_n ?_
    refine sy_ret ?_
    refine ret_r hf rfl rfl ?_
    refine ⟨?_, hh.ext⟩; simp [tup]; omega
  · have hG2 := hg2; try simp only [gS] at hG2
    refine ops_off hf (goff rfl rfl rfl (by first | assumption | rfl | (simp; done))) rfl rfl ?_; clear hf; clear a; intro a hf
    refine ops_off hf (goff rfl rfl rfl (by first | assumption | rfl | (simp; done))) rfl rfl ?_; clear hf; clear a; intro a hf
    refine ops_off hf (goff rfl rfl rfl (by first | assumption | rfl | (simp; done))) rfl rfl ?_; clear hf; clear a; intro a hf
    refine ops_v hf hh (yv_pick_f rfl (by first | assumption | rfl | (simp; done)) rfl) (.inl rfl) rfl rfl rfl ?_; clear hf; clear a; intro a hf
    refine ops_v hf hh (yv_assign rfl) (.inl rfl) rfl rfl rfl ?_; clear hf; clear a; intro a hf
    refine ops_end ?_
    refine then_n ?_
    refine sy_ret ?_
    refine ret_r hf rfl rfl ?_
    refine ⟨?_, hh.ext⟩; simp [tup]; omega
theorem c72 (x : Nat) (hx : x < 65536) (w : World) : Calls Tryd.prog 72 #[.int .u64 x] w (Ret fun v w' => v = .int .i64 (pc x) ∧ Ext [] w w') := by
  refine calls_of Tryd.func72 rfl rfl (fun a hf => ?_)
  have hh := Hp.init w []
  have k1 := sw1_le x hx; have k2 := sw2_le x hx; have k3 := sw3_le x hx; have k4 := sw4_le x hx; have k5 := sw5_le x hx; have k6 := sw6_le x hx
  have n0 := @Nat.and_le_left (x / 2) 6148914691236517205
  have n1 := @Nat.and_le_left (x) 6148914691236517205
  have n2 := @Nat.and_le_left (sw1 x / 4) 3689348814741910323
  have n3 := @Nat.and_le_left (sw1 x) 3689348814741910323
  refine sy_seq ?_
  refine sy_ops ?_
  refine ops_v hf hh (yv_assign rfl) (.inl rfl) rfl rfl rfl ?_; clear hf; clear a; intro a hf
  refine ops_end ?_
  refine then_n ?_
  refine sy_seq ?_
  refine sy_ops ?_
  refine ops_v hf hh (yv_move rfl) (.inl rfl) rfl rfl rfl ?_; clear hf; clear a; intro a hf
  refine ops_v hf hh (yv_cast (yv_shrx (.inr rfl) rfl rfl (by omega) (by omega) (by omega)) (intv (b := (((x) / 2 : Nat) : Int)) (by simp [Nat.shiftRight_eq_div_pow]))) (.inl rfl) rfl rfl rfl ?_; clear hf; clear a; intro a hf
  refine ops_v hf hh (yv_cast (yv_and (.inr rfl) rfl rfl (by omega) (by simp only [IntKind.top]; omega) (by omega) (by simp only [IntKind.top]; omega)) (intv (b := ((x / 2 &&& 6148914691236517205 : Nat) : Int)) rfl)) (.inl rfl) rfl rfl rfl ?_; clear hf; clear a; intro a hf
  refine ops_v hf hh (yv_move rfl) (.inl rfl) rfl rfl rfl ?_; clear hf; clear a; intro a hf
  refine ops_v hf hh (yv_cast (yv_and (.inr rfl) rfl rfl (by omega) (by simp only [IntKind.top]; omega) (by omega) (by simp only [IntKind.top]; omega)) (intv (b := ((x &&& 6148914691236517205 : Nat) : Int)) rfl)) (.inl rfl) rfl rfl rfl ?_; clear hf; clear a; intro a hf
  first | refine ops_v hf hh (yv_addx (.inr rfl) rfl rfl (by omega) (by simp only [IntKind.top]; omega)) (.inl rfl) rfl rfl rfl ?_; clear hf; clear a; intro a hf | refine ops_v hf hh (yv_bin rfl rfl rfl) (.inl rfl) rfl rfl rfl ?_; clear hf; clear a; intro a hf
  refine ops_v hf hh (yv_cast (yv_assign rfl) (intv (b := ((sw1 x : Nat) : Int)) rfl)) (.inl rfl) rfl rfl rfl ?_; clear hf; clear a; intro a hf
  refine ops_end ?_
  refine then_n ?_
  refine sy_seq ?_
  refine sy_ops ?_
  refine ops_v hf hh (yv_move rfl) (.inl rfl) rfl rfl rfl ?_; clear hf; clear a; intro a hf
  refine ops_v hf hh (yv_cast (yv_shrx (.inr rfl) rfl rfl (by omega) (by omega) (by omega)) (intv (b := ((((sw1 x)) / 4 : Nat) : Int)) (by simp [Nat.shiftRight_eq_div_pow]))) (.inl rfl) rfl rfl rfl ?_; clear hf; clear a; intro a hf
  refine ops_v hf hh (yv_cast (yv_and (.inr rfl) rfl rfl (by omega) (by simp only [IntKind.top]; omega) (by omega) (by simp only [IntKind.top]; omega)) (intv (b := ((sw1 x / 4 &&& 3689348814741910323 : Nat) : Int)) rfl)) (.inl rfl) rfl rfl rfl ?_; clear hf; clear a; intro a hf
  refine ops_v hf hh (yv_move rfl) (.inl rfl) rfl rfl rfl ?_; clear hf; clear a; intro a hf
  refine ops_v hf hh (yv_cast (yv_and (.inr rfl) rfl rfl (by omega) (by simp only [IntKind.top]; omega) (by omega) (by simp only [IntKind.top]; omega)) (intv (b := ((sw1 x &&& 3689348814741910323 : Nat) : Int)) rfl)) (.inl rfl) rfl rfl rfl ?_; clear hf; clear a; intro a hf
  first | refine ops_v hf hh (yv_addx (.inr rfl) rfl rfl (by omega) (by simp only [IntKind.top]; omega)) (.inl rfl) rfl rfl rfl ?_; clear hf; clear a; intro a hf | refine ops_v hf hh (yv_bin rfl rfl rfl) (.inl rfl) rfl rfl rfl ?_; clear hf; clear a; intro a hf
  refine ops_v hf hh (yv_cast (yv_assign rfl) (intv (b := ((sw2 (sw1 x) : Nat) : Int)) rfl)) (.inl rfl) rfl rfl rfl ?_; clear hf; clear a; intro a hf
  refine ops_end ?_
  refine then_n ?_
  refine sy_seq ?_
  refine sy_ops ?_
  refine ops_v hf hh (yv_move rfl) (.inl rfl) rfl rfl rfl ?_; clear hf; clear a; intro a hf
  refine ops_v hf hh (yv_cast (yv_shrx (.inr rfl) rfl rfl (by omega) (by omega) (by omega)) (intv (b := ((((sw2 (sw1 x))) / 16 : Nat) : Int)) (by simp [Nat.shiftRight_eq_div_pow]))) (.inl rfl) rfl rfl rfl ?_; clear hf; clear a; intro a hf
  refine ops_v hf hh (yv_move rfl) (.inl rfl) rfl rfl rfl ?_; clear hf; clear a; intro a hf
  first | refine ops_v hf hh (yv_addx (.inr rfl) rfl rfl (by omega) (by simp only [IntKind.top]; omega)) (.inl rfl) rfl rfl rfl ?_; clear hf; clear a; intro a hf | refine ops_v hf hh (yv_bin rfl rfl rfl) (.inl rfl) rfl rfl rfl ?_; clear hf; clear a; intro a hf
  first | refine ops_v hf hh (yv_and (.inr rfl) rfl rfl (by omega) (by simp only [IntKind.top]; omega) (by omega) (by simp only [IntKind.top]; omega)) (.inl rfl) rfl rfl rfl ?_; clear hf; clear a; intro a hf | refine ops_v hf hh (yv_bin rfl rfl rfl) (.inl rfl) rfl rfl rfl ?_; clear hf; clear a; intro a hf
  refine ops_v hf hh (yv_cast (yv_assign rfl) (intv (b := ((sw3 (sw2 (sw1 x)) : Nat) : Int)) rfl)) (.inl rfl) rfl rfl rfl ?_; clear hf; clear a; intro a hf
  refine ops_end ?_
  refine then_n ?_
  refine sy_seq ?_
  refine sy_ops ?_
  refine ops_v hf hh (yv_move rfl) (.inl rfl) rfl rfl rfl ?_; clear hf; clear a; intro a hf
  refine ops_v hf hh (yv_move rfl) (.inl rfl) rfl rfl rfl ?_; clear hf; clear a; intro a hf
  refine ops_v hf hh (yv_cast (yv_shrx (.inr rfl) rfl rfl (by omega) (by omega) (by omega)) (intv (b := ((((sw3 (sw2 (sw1 x)))) / 256 : Nat) : Int)) (by simp [Nat.shiftRight_eq_div_pow]))) (.inl rfl) rfl rfl rfl ?_; clear hf; clear a; intro a hf
  first | refine ops_v hf hh (yv_addx (.inr rfl) rfl rfl (by omega) (by simp only [IntKind.top]; omega)) (.inl rfl) rfl rfl rfl ?_; clear hf; clear a; intro a hf | refine ops_v hf hh (yv_bin rfl rfl rfl) (.inl rfl) rfl rfl rfl ?_; clear hf; clear a; intro a hf
  refine ops_v hf hh (yv_cast (yv_assign rfl) (intv (b := ((sw4 (sw3 (sw2 (sw1 x))) : Nat) : Int)) rfl)) (.inl rfl) rfl rfl rfl ?_; clear hf; clear a; intro a hf
  refine ops_end ?_
  refine then_n ?_
  refine sy_seq ?_
  refine sy_ops ?_
  refine ops_v hf hh (yv_move rfl) (.inl rfl) rfl rfl rfl ?_; clear hf; clear a; intro a hf
  refine ops_v hf hh (yv_move rfl) (.inl rfl) rfl rfl rfl ?_; clear hf; clear a; intro a hf
  refine ops_v hf hh (yv_cast (yv_shrx (.inr rfl) rfl rfl (by omega) (by omega) (by omega)) (intv (b := ((((sw4 (sw3 (sw2 (sw1 x))))) / 65536 : Nat) : Int)) (by simp [Nat.shiftRight_eq_div_pow]))) (.inl rfl) rfl rfl rfl ?_; clear hf; clear a; intro a hf
  first | refine ops_v hf hh (yv_addx (.inr rfl) rfl rfl (by omega) (by simp only [IntKind.top]; omega)) (.inl rfl) rfl rfl rfl ?_; clear hf; clear a; intro a hf | refine ops_v hf hh (yv_bin rfl rfl rfl) (.inl rfl) rfl rfl rfl ?_; clear hf; clear a; intro a hf
  refine ops_v hf hh (yv_cast (yv_assign rfl) (intv (b := ((sw5 (sw4 (sw3 (sw2 (sw1 x)))) : Nat) : Int)) rfl)) (.inl rfl) rfl rfl rfl ?_; clear hf; clear a; intro a hf
  refine ops_end ?_
  refine then_n ?_
  refine sy_seq ?_
  refine sy_ops ?_
  refine ops_v hf hh (yv_move rfl) (.inl rfl) rfl rfl rfl ?_; clear hf; clear a; intro a hf
  refine ops_v hf hh (yv_move rfl) (.inl rfl) rfl rfl rfl ?_; clear hf; clear a; intro a hf
  refine ops_v hf hh (yv_cast (yv_shrx (.inr rfl) rfl rfl (by omega) (by omega) (by omega)) (intv (b := ((((sw5 (sw4 (sw3 (sw2 (sw1 x)))))) / 4294967296 : Nat) : Int)) (by simp [Nat.shiftRight_eq_div_pow]))) (.inl rfl) rfl rfl rfl ?_; clear hf; clear a; intro a hf
  first | refine ops_v hf hh (yv_addx (.inr rfl) rfl rfl (by omega) (by simp only [IntKind.top]; omega)) (.inl rfl) rfl rfl rfl ?_; clear hf; clear a; intro a hf | refine ops_v hf hh (yv_bin rfl rfl rfl) (.inl rfl) rfl rfl rfl ?_; clear hf; clear a; intro a hf
  refine ops_v hf hh (yv_cast (yv_assign rfl) (intv (b := ((sw6 (sw5 (sw4 (sw3 (sw2 (sw1 x))))) : Nat) : Int)) rfl)) (.inl rfl) rfl rfl rfl ?_; clear hf; clear a; intro a hf
  refine ops_end ?_
  refine then_n ?_
  refine sy_seq ?_
  refine sy_ops ?_
  refine ops_v hf hh (yv_move rfl) (.inl rfl) rfl rfl rfl ?_; clear hf; clear a; intro a hf
  first | refine ops_v hf hh (yv_convx (.inl rfl) (by kernel_rfl) Tryd.un_3 rfl (by omega) (by simp only [IntKind.top]; omega)) (.inl rfl) rfl rfl rfl ?_; clear hf; clear a; intro a hf | refine ops_v hf hh (yv_conv (by kernel_rfl) Tryd.un_3 rfl) (.inl rfl) rfl rfl rfl ?_; clear hf; clear a; intro a hf
  first | refine ops_v hf hh (yv_and (.inl rfl) rfl rfl (by omega) (by simp only [IntKind.top]; omega) (by omega) (by simp only [IntKind.top]; omega)) (.inl rfl) rfl rfl rfl ?_; clear hf; clear a; intro a hf | refine ops_v hf hh (yv_bin rfl rfl rfl) (.inl rfl) rfl rfl rfl ?_; clear hf; clear a; intro a hf
  refine ops_v hf hh (yv_assign rfl) (.inl rfl) rfl rfl rfl ?_; clear hf; clear a; intro a hf
  refine ops_end ?_
  refine then_n ?_
  refine sy_ret ?_
  refine ret_r hf rfl rfl ?_
  refine ⟨?_, hh.ext⟩
  rw [← sw_pc hx]
  exact intv (by unfold sw; rfl)
/-- The library's table for lowest bits lies in its variable. -/
def GTab (w : World) : Prop := ∃ c T fr, w.heap[1]? = some (.cells c T fr) ∧ ∀ j, j < 64 → c[j]? = some (.int .u8 (Lib.deBruijn64tab.getD j 0))
theorem GTab.ext {w w' : World} {M : List Nat} (h : GTab w) (e : Ext M w w') (hm : 1 ∉ M) : GTab w' :=
  let ⟨c, T, fr, h1, h2⟩ := h
  ⟨c, T, fr, e.getM h1 hm, h2⟩
theorem tz_idx (x : Nat) (hx : x < 65536) (hx0 : x ≠ 0) : (IntKind.u64.wrap (IntKind.u64.wrap ((BitVec.ofInt IntKind.u64.bits (x : Int) &&& BitVec.ofInt IntKind.u64.bits (IntKind.u64.wrap (0 - (x : Int)))).toNat : Int) * 285870213051353865)).fdiv (2 ^ (58 : Int).toNat) =
    ((2 ^ Lib.ctz 64 x * 285870213051353865 % 18446744073709551616 / 288230376151711744 : Nat) : Int) := by
  obtain ⟨hlow, _⟩ := Lib.lowest_bit 64 x hx0 (by omega)
  have h := tz64_key x _ (by omega) hx0 hlow
  rw [Int.zero_sub, Int.fdiv_eq_ediv_of_nonneg _ (Int.pow_nonneg (by omega))]
  exact h
theorem c57 (x : Nat) (hx : x < 65536) (w : World) : Calls Tryd.prog 57 #[.int .u64 x] w (Ret fun v w' => v = .int .i64 (pc x) ∧ Ext [] w w') := by
  refine calls_of Tryd.func57 rfl rfl (fun a hf => ?_)
  have hh := Hp.init w []
  refine sy_seq ?_
  refine sy_ops ?_
  refine ops_v hf hh (yv_assign rfl) (.inl rfl) rfl rfl rfl ?_; clear hf; clear a; intro a hf
  refine ops_end ?_
  refine then_n ?_
  refine sy_seq ?_
  refine sy_cf hf rfl (by first | assumption | rfl | (simp; done)) ?_
  refine sy_skip ?_
  refine then_n ?_
  refine sy_seq ?_
  refine sy_ops ?_
  refine ops_v hf hh (yv_move rfl) (.inl rfl) rfl rfl rfl ?_; clear hf; clear a; intro a hf
  refine ops_call hf Tryd.en_72 rfl rfl rfl (.inl rfl) rfl (c72 x hx _) ?_; clear hf; clear a; intro v a w hR hf
  obtain ⟨rfl, hx⟩ := hR; replace hh := hh.more hx; clear hx
  refine ops_v hf hh (yv_assign rfl) (.inl rfl) rfl rfl rfl ?_; clear hf; clear a; intro a hf
  refine ops_end ?_
  refine then_n ?_
  refine sy_ret ?_
  refine ret_r hf rfl rfl ?_
  exact ⟨rfl, hh.ext⟩
theorem c53 (x : Nat) (hx : x < 65536) (w : World) : Calls Tryd.prog 53 #[.int .u64 x] w (Ret fun v w' => v = .int .i64 (pc x) ∧ Ext [] w w') := by
  refine calls_of Tryd.func53 rfl rfl (fun a hf => ?_)
  have hh := Hp.init w []
  refine sy_seq ?_
  refine sy_ops ?_
  refine ops_v hf hh (yv_assign rfl) (.inl rfl) rfl rfl rfl ?_; clear hf; clear a; intro a hf
  refine ops_end ?_
  refine then_n ?_
  refine sy_seq ?_
  refine sy_ops ?_
  refine ops_v hf hh (yv_move rfl) (.inl rfl) rfl rfl rfl ?_; clear hf; clear a; intro a hf
  refine ops_call hf Tryd.en_57 rfl rfl rfl (.inl rfl) rfl (c57 x hx _) ?_; clear hf; clear a; intro v a w hR hf
  obtain ⟨rfl, hx⟩ := hR; replace hh := hh.more hx; clear hx
  refine ops_v hf hh (yv_assign rfl) (.inl rfl) rfl rfl rfl ?_; clear hf; clear a; intro a hf
  refine ops_end ?_
  refine then_n ?_
  refine sy_ret ?_
  refine ret_r hf rfl rfl ?_
  exact ⟨rfl, hh.ext⟩
theorem c53i (x : Int) (h0 : 0 ≤ x) (hx : x < 65536) (w : World) : Calls Tryd.prog 53 #[.int .u64 x] w (Ret fun v w' => v = .int .i64 (pc x.toNat) ∧ Ext [] w w') := by
  obtain ⟨m, rfl⟩ := Int.eq_ofNat_of_zero_le h0
  exact c53 m (by omega) w
theorem tz_all (x : Nat) (hx : x < 65536) (hx0 : x ≠ 0) (w : World) (hT : GTab w) : ∃ (n1 n2 n3 : Int) (idx : Nat) (c : Array Value) (T : TypeId) (fr : Nat × Nat),
    IntKind.u64.wrap (0 - (x : Int)) = n1 ∧ IntKind.u64.wrap ((BitVec.ofInt IntKind.u64.bits (x : Int) &&& BitVec.ofInt IntKind.u64.bits n1).toNat : Int) = n2 ∧ IntKind.u64.wrap (n2 * 285870213051353865) = n3 ∧
    n3.fdiv (2 ^ (58 : Int).toNat) = (idx : Int) ∧ idx < 64 ∧ w.heap[1]? = some (.cells c T fr) ∧ c[0 + idx * 1]? = some (.int .u8 (Lib.ctz 64 x)) ∧ Lib.ctz 64 x < 64 := by
  obtain ⟨c, T, fr, hb, hc⟩ := hT
  obtain ⟨_, hk⟩ := Lib.lowest_bit 64 x hx0 (by omega)
  obtain ⟨hi, htab⟩ := Lib.deBruijn64_at _ hk
  have hcc := hc _ hi
  rw [htab] at hcc
  exact ⟨_, _, _, _, c, T, fr, rfl, rfl, rfl, tz_idx x hx hx0, hi, hb, by rw [Nat.zero_add, Nat.mul_one]; exact hcc, hk⟩
theorem c76 (x : Nat) (hx : x < 65536) (hx0 : x ≠ 0) (w : World) (hT : GTab w) : Calls Tryd.prog 76 #[.int .u64 x] w (Ret fun v w' => v = .int .i64 (Lib.ctz 64 x) ∧ Ext [] w w') := by
  refine calls_of Tryd.func76 rfl rfl (fun a hf => ?_)
  have hh := Hp.init w []
  obtain ⟨n1, n2, n3, idx, c, T, fr, h1, h2, h3, hid, hi, hb, hcd, hk⟩ := tz_all x hx hx0 w hT
  refine sy_seq ?_
  refine sy_ops ?_
  refine ops_v hf hh (yv_assign rfl) (.inl rfl) rfl rfl rfl ?_; clear hf; clear a; intro a hf
  refine ops_end ?_
  refine then_n ?_
  refine sy_seq ?_
  refine sy_seq ?_
  refine sy_ops ?_
  refine ops_v hf hh (yv_move rfl) (.inl rfl) rfl rfl rfl ?_; clear hf; clear a; intro a hf
  refine ops_v hf hh (yv_bin rfl rfl rfl) (.inl rfl) rfl rfl rfl ?_; clear hf; clear a; intro a hf
  refine ops_end ?_
  refine then_n ?_
  refine sy_cond hf rfl (fun hg2 => ?_) (fun hg2 => ?_)
  · have hG2 := hg2; try simp only [gS] at hG2
    refine sy_seq ?_
    refine sy_ops ?_
    refine ops_v hf hh (yv_assign rfl) (.inl rfl) rfl rfl rfl ?_; clear hf; clear a; intro a hf
    refine ops_end ?_
    refine then_n ?_
    refine sy_ret ?_
    refine then_r ?_
    refine ret_r hf rfl rfl ?_
    first | exact ⟨rfl, hh.ext⟩ | (exfalso; omega)
  · have hG2 := hg2; try simp only [gS] at hG2
    refine sy_skip ?_
    refine then_n ?_
    refine sy_seq ?_
    refine sy_ops ?_
    refine ops_v hf hh (yv_move rfl) (.inl rfl) rfl rfl rfl ?_; clear hf; clear a; intro a hf
    refine ops_v hf hh (yv_move rfl) (.inl rfl) rfl rfl rfl ?_; clear hf; clear a; intro a hf
    refine ops_v hf hh (yv_cast (yv_negw rfl) (intv h1)) (.inl rfl) rfl rfl rfl ?_; clear hf; clear a; intro a hf
    refine ops_v hf hh (yv_cast (yv_bin rfl rfl rfl) (intv h2)) (.inl rfl) rfl rfl rfl ?_; clear hf; clear a; intro a hf
    refine ops_v hf hh (yv_cast (yv_bin rfl rfl rfl) (intv h3)) (.inl rfl) rfl rfl rfl ?_; clear hf; clear a; intro a hf
    refine ops_v hf hh (yv_cast (yv_shr rfl rfl (by omega) (by simp only [IntKind.bits]; omega)) (intv hid)) (.inl rfl) rfl rfl rfl ?_; clear hf; clear a; intro a hf
    refine ops_v hf hh (yv_indexArr Tryd.ae_107 rfl rfl (by omega) (by omega)) (.inl rfl) rfl rfl rfl ?_; clear hf; clear a; intro a hf
    refine ops_v hf hh (yv_load Tryd.sc_5 rfl (fun _ h => by first | exact h.at (i := 0) rfl | exact h.at (i := 1) rfl | exact h.at (i := 2) rfl | exact h.at (i := 3) rfl | exact h.old hb) (by first | rfl | assumption)) (.inl rfl) rfl rfl rfl ?_; clear hf; clear a; intro a hf
    first | refine ops_v hf hh (yv_convx (.inl rfl) (by kernel_rfl) Tryd.un_3 rfl (by omega) (by simp only [IntKind.top]; omega)) (.inl rfl) rfl rfl rfl ?_; clear hf; clear a; intro a hf | refine ops_v hf hh (yv_conv (by kernel_rfl) Tryd.un_3 rfl) (.inl rfl) rfl rfl rfl ?_; clear hf; clear a; intro a hf
    refine ops_v hf hh (yv_assign rfl) (.inl rfl) rfl rfl rfl ?_; clear hf; clear a; intro a hf
    refine ops_end ?_
    refine then_n ?_
    refine sy_ret ?_
    refine ret_r hf rfl rfl ?_
    first | exact ⟨rfl, hh.ext⟩ | (exfalso; omega)
theorem c63 (x : Nat) (hx : x < 65536) (hx0 : x ≠ 0) (w : World) (hT : GTab w) : Calls Tryd.prog 63 #[.int .u64 x] w (Ret fun v w' => v = .int .i64 (Lib.ctz 64 x) ∧ Ext [] w w') := by
  refine calls_of Tryd.func63 rfl rfl (fun a hf => ?_)
  have hh := Hp.init w []
  refine sy_seq ?_
  refine sy_ops ?_
  refine ops_v hf hh (yv_assign rfl) (.inl rfl) rfl rfl rfl ?_; clear hf; clear a; intro a hf
  refine ops_end ?_
  refine then_n ?_
  refine sy_seq ?_
  refine sy_cf hf rfl (by first | assumption | rfl | (simp; done)) ?_
  refine sy_skip ?_
  refine then_n ?_
  refine sy_seq ?_
  refine sy_ops ?_
  refine ops_v hf hh (yv_move rfl) (.inl rfl) rfl rfl rfl ?_; clear hf; clear a; intro a hf
  refine ops_call hf Tryd.en_76 rfl rfl rfl (.inl rfl) rfl (c76 x hx hx0 _ (hT.ext hh.ext (by simp))) ?_; clear hf; clear a; intro v a w hR hf
  obtain ⟨rfl, hx⟩ := hR; replace hh := hh.more hx; clear hx
  refine ops_v hf hh (yv_assign rfl) (.inl rfl) rfl rfl rfl ?_; clear hf; clear a; intro a hf
  refine ops_end ?_
  refine then_n ?_
  refine sy_ret ?_
  refine ret_r hf rfl rfl ?_
  exact ⟨rfl, hh.ext⟩
theorem c60 (x y : Nat) (hx : x ≤ 4294967295) (hy : y ≤ 4294967295) (B cap : Nat) (T : TypeId) (w : World) (hB : w.heap[B]? = some (.cells #[.int .u64 x, .int .u64 y] T (0, 0))) : Calls Tryd.prog 60 #[.slice (some ⟨B, 0, none⟩) 2 cap] w (Ret fun v w' => v = .int .u64 ((x ||| y : Nat) : Int) ∧ Ext [] w w') := by
  refine calls_of Tryd.func60 rfl rfl (fun a hf => ?_)
  have hh := Hp.init w []
  have hxy : x ||| y ≤ 4294967295 := by
    have h1 := @Nat.or_lt_two_pow x y 32 (by omega) (by omega)
    omega
  obtain ⟨acc, hacc⟩ : ∃ acc : Nat → Nat, acc = fun k => if k = 0 then 0 else if k = 1 then x else x ||| y := ⟨_, rfl⟩
  obtain ⟨el, hel⟩ : ∃ el : Nat → Nat, el = fun k => if k = 0 then x else y := ⟨_, rfl⟩
  have hle : ∀ k, acc k ≤ 4294967295 := by intro k; subst hacc; simp only; split <;> (try split) <;> omega
  have hel1 : ∀ k, el k ≤ 4294967295 := by intro k; subst hel; simp only; split <;> omega
  refine sy_seq ?_
  refine sy_ops ?_
  refine ops_v hf hh (yv_assign rfl) (.inl rfl) rfl rfl rfl ?_; clear hf; clear a; intro a hf
  refine ops_end ?_
  refine then_n ?_
  refine sy_seq ?_
  refine sy_seq ?_
  refine sy_ops ?_
  refine ops_v hf hh (yv_move rfl) (.inl rfl) rfl rfl rfl ?_; clear hf; clear a; intro a hf
  refine ops_v hf hh (yv_len Tryd.se_104 rfl) (.inl rfl) rfl rfl rfl ?_; clear hf; clear a; intro a hf
  refine ops_v hf hh (yv_move rfl) (.inl rfl) rfl rfl rfl ?_; clear hf; clear a; intro a hf
  refine ops_end ?_
  refine then_n ?_
  refine sy_block ?_
  refine sy_loopF (σ := Nat) [2, 4, 7, 8, 9, 10, 11, 12, 13, 14] (fun k => [(2, .int .u64 (acc k)), (7, .int .i64 k)]) (fun k => k ≤ 2) (fun k => 2 - k) (0) hf hh ?_ ?_ ?_
  · exact ⟨by subst hacc; rfl, rfl, True.intro⟩
  · first | exact True.intro | omega | (simp; omega) | simp
  · rintro k a w hpr hf hh
    have h1 := hle k
    have h2 := hel1 k
    refine sy_seq ?_
    refine sy_ops ?_
    refine ops_v hf hh (yv_bin rfl rfl rfl) (.inl rfl) rfl rfl rfl ?_; clear hf; clear a; intro a hf
    refine ops_end ?_
    refine then_n ?_
    refine sy_seq ?_
    refine sy_cond hf rfl (fun hg2 => ?_) (fun hg2 => ?_)
    · have hG2 := hg2; try simp only [gS] at hG2
      refine sy_skip ?_
      refine then_n ?_
      refine sy_seq ?_
      refine sy_block ?_
      refine sy_seq ?_
      have hcd : (#[.int .u64 x, .int .u64 y] : Array Value)[0 + k * 1]? = some (.int .u64 (el k)) := by
        have : k = 0 ∨ k = 1 := by omega
        subst hel; rcases this with rfl | rfl <;> rfl
      refine sy_ops ?_
      refine ops_v hf hh (yv_indexAddr Tryd.se_104 rfl rfl (by omega) (by omega)) (.inl rfl) rfl rfl rfl ?_; clear hf; clear a; intro a hf
      refine ops_v hf hh (yv_load Tryd.sc_54 rfl (fun _ h => by first | exact h.at (i := 0) rfl | exact h.at (i := 1) rfl | exact h.at (i := 2) rfl | exact h.at (i := 3) rfl | exact h.old hB) (by first | rfl | assumption)) (.inl rfl) rfl rfl rfl ?_; clear hf; clear a; intro a hf
      refine ops_v hf hh (yv_assign rfl) (.inl rfl) rfl rfl rfl ?_; clear hf; clear a; intro a hf
      refine ops_end ?_
      refine then_n ?_
      refine sy_ops ?_
      refine ops_v hf hh (yv_move rfl) (.inl rfl) rfl rfl rfl ?_; clear hf; clear a; intro a hf
      refine ops_v hf hh (yv_move rfl) (.inl rfl) rfl rfl rfl ?_; clear hf; clear a; intro a hf
      first | refine ops_v hf hh (yv_or (.inr rfl) rfl rfl (by omega) (by simp only [IntKind.top]; omega) (by omega) (by simp only [IntKind.top]; omega)) (.inl rfl) rfl rfl rfl ?_; clear hf; clear a; intro a hf | refine ops_v hf hh (yv_bin rfl rfl rfl) (.inl rfl) rfl rfl rfl ?_; clear hf; clear a; intro a hf
      refine ops_v hf hh (yv_assign rfl) (.inl rfl) rfl rfl rfl ?_; clear hf; clear a; intro a hf
      refine ops_end ?_
      refine blk_n ?_
      refine then_n ?_
      refine sy_ops ?_
      first | refine ops_v hf hh (yv_add rfl rfl (by omega) (by omega)) (.inl rfl) rfl rfl rfl ?_; clear hf; clear a; intro a hf | refine ops_v hf hh (yv_bin rfl rfl rfl) (.inl rfl) rfl rfl rfl ?_; clear hf; clear a; intro a hf
      refine ops_v hf hh (yv_move rfl) (.inl rfl) rfl rfl rfl ?_; clear hf; clear a; intro a hf
      refine ops_end ?_
      refine then_n ?_
      have hacc1 : acc (k + 1) = acc k ||| el k := by
        have : k = 0 ∨ k = 1 := by omega
        subst hacc; subst hel; rcases this with rfl | rfl <;> simp
      refine ⟨k + 1, ⟨by omega, hf.head ⟨congrArg (fun z => some (Value.int IntKind.u64 z)) (by rw [hacc1]; rfl), rfl, True.intro⟩ (Keep.cons rfl (Keep.cons rfl (Keep.cons rfl (Keep.cons rfl (Keep.cons rfl (Keep.cons rfl (Keep.cons rfl (Keep.cons rfl (Keep.cons rfl (Keep.cons rfl (Keep.app rfl (Keep.rm rfl Keep.base)))))))))))), hh⟩, by omega⟩
    · have hG2 := hg2; try simp only [gS] at hG2
      refine sy_exit ?_
      refine then_e ?_
      refine then_e ?_
      refine blk_e ?_
      refine then_n ?_
      refine sy_seq ?_
      refine sy_ops ?_
      refine ops_v hf hh (yv_move rfl) (.inl rfl) rfl rfl rfl ?_; clear hf; clear a; intro a hf
      refine ops_v hf hh (yv_assign rfl) (.inl rfl) rfl rfl rfl ?_; clear hf; clear a; intro a hf
      refine ops_end ?_
      refine then_n ?_
      refine sy_ret ?_
      refine ret_r hf rfl rfl ?_
      have : k = 2 := by omega
      subst this
      exact ⟨by subst hacc; rfl, hh.ext⟩
theorem c54 (x y : Nat) (hx : x ≤ 4294967295) (hy : y ≤ 4294967295) (B cap : Nat) (T : TypeId) (w : World) (hB : w.heap[B]? = some (.cells #[.int .u64 x, .int .u64 y] T (0, 0))) : Calls Tryd.prog 54 #[.slice (some ⟨B, 0, none⟩) 2 cap] w (Ret fun v w' => v = .int .u64 ((x ||| y : Nat) : Int) ∧ Ext [] w w') := by
  refine calls_of Tryd.func54 rfl rfl (fun a hf => ?_)
  have hh := Hp.init w []
  have hxy : x ||| y ≤ 4294967295 := by
    have h1 := @Nat.or_lt_two_pow x y 32 (by omega) (by omega)
    omega
  obtain ⟨acc, hacc⟩ : ∃ acc : Nat → Nat, acc = fun k => if k = 0 then 0 else if k = 1 then x else x ||| y := ⟨_, rfl⟩
  obtain ⟨el, hel⟩ : ∃ el : Nat → Nat, el = fun k => if k = 0 then x else y := ⟨_, rfl⟩
  have hle : ∀ k, acc k ≤ 4294967295 := by intro k; subst hacc; simp only; split <;> (try split) <;> omega
  have hel1 : ∀ k, el k ≤ 4294967295 := by intro k; subst hel; simp only; split <;> omega
  refine sy_seq ?_
  refine sy_ops ?_
  refine ops_v hf hh (yv_assign rfl) (.inl rfl) rfl rfl rfl ?_; clear hf; clear a; intro a hf
  refine ops_end ?_
  refine then_n ?_
  refine sy_seq ?_
  refine sy_seq ?_
  refine sy_ops ?_
  refine ops_v hf hh (yv_move rfl) (.inl rfl) rfl rfl rfl ?_; clear hf; clear a; intro a hf
  refine ops_v hf hh (yv_len Tryd.se_97 rfl) (.inl rfl) rfl rfl rfl ?_; clear hf; clear a; intro a hf
  refine ops_v hf hh (yv_move rfl) (.inl rfl) rfl rfl rfl ?_; clear hf; clear a; intro a hf
  refine ops_end ?_
  refine then_n ?_
  refine sy_block ?_
  refine sy_loopF (σ := Nat) [2, 4, 7, 8, 9, 10, 11, 12, 13, 14] (fun k => [(2, .int .u64 (acc k)), (7, .int .i64 k)]) (fun k => k ≤ 2) (fun k => 2 - k) (0) hf hh ?_ ?_ ?_
  · exact ⟨by subst hacc; rfl, rfl, True.intro⟩
  · first | exact True.intro | omega | (simp; omega) | simp
  · rintro k a w hpr hf hh
    have h1 := hle k
    have h2 := hel1 k
    refine sy_seq ?_
    refine sy_ops ?_
    refine ops_v hf hh (yv_bin rfl rfl rfl) (.inl rfl) rfl rfl rfl ?_; clear hf; clear a; intro a hf
    refine ops_end ?_
    refine then_n ?_
    refine sy_seq ?_
    refine sy_cond hf rfl (fun hg2 => ?_) (fun hg2 => ?_)
    · have hG2 := hg2; try simp only [gS] at hG2
      refine sy_skip ?_
      refine then_n ?_
      refine sy_seq ?_
      refine sy_block ?_
      refine sy_seq ?_
      have hcd : (#[.int .u64 x, .int .u64 y] : Array Value)[0 + k * 1]? = some (.int .u64 (el k)) := by
        have : k = 0 ∨ k = 1 := by omega
        subst hel; rcases this with rfl | rfl <;> rfl
      refine sy_ops ?_
      refine ops_v hf hh (yv_indexAddr Tryd.se_97 rfl rfl (by omega) (by omega)) (.inl rfl) rfl rfl rfl ?_; clear hf; clear a; intro a hf
      refine ops_v hf hh (yv_load Tryd.sc_56 rfl (fun _ h => by first | exact h.at (i := 0) rfl | exact h.at (i := 1) rfl | exact h.at (i := 2) rfl | exact h.at (i := 3) rfl | exact h.old hB) (by first | rfl | assumption)) (.inl rfl) rfl rfl rfl ?_; clear hf; clear a; intro a hf
      refine ops_v hf hh (yv_assign rfl) (.inl rfl) rfl rfl rfl ?_; clear hf; clear a; intro a hf
      refine ops_end ?_
      refine then_n ?_
      refine sy_ops ?_
      refine ops_v hf hh (yv_move rfl) (.inl rfl) rfl rfl rfl ?_; clear hf; clear a; intro a hf
      refine ops_v hf hh (yv_move rfl) (.inl rfl) rfl rfl rfl ?_; clear hf; clear a; intro a hf
      first | refine ops_v hf hh (yv_or (.inr rfl) rfl rfl (by omega) (by simp only [IntKind.top]; omega) (by omega) (by simp only [IntKind.top]; omega)) (.inl rfl) rfl rfl rfl ?_; clear hf; clear a; intro a hf | refine ops_v hf hh (yv_bin rfl rfl rfl) (.inl rfl) rfl rfl rfl ?_; clear hf; clear a; intro a hf
      refine ops_v hf hh (yv_assign rfl) (.inl rfl) rfl rfl rfl ?_; clear hf; clear a; intro a hf
      refine ops_end ?_
      refine blk_n ?_
      refine then_n ?_
      refine sy_ops ?_
      first | refine ops_v hf hh (yv_add rfl rfl (by omega) (by omega)) (.inl rfl) rfl rfl rfl ?_; clear hf; clear a; intro a hf | refine ops_v hf hh (yv_bin rfl rfl rfl) (.inl rfl) rfl rfl rfl ?_; clear hf; clear a; intro a hf
      refine ops_v hf hh (yv_move rfl) (.inl rfl) rfl rfl rfl ?_; clear hf; clear a; intro a hf
      refine ops_end ?_
      refine then_n ?_
      have hacc1 : acc (k + 1) = acc k ||| el k := by
        have : k = 0 ∨ k = 1 := by omega
        subst hacc; subst hel; rcases this with rfl | rfl <;> simp
      refine ⟨k + 1, ⟨by omega, hf.head ⟨congrArg (fun z => some (Value.int IntKind.u64 z)) (by rw [hacc1]; rfl), rfl, True.intro⟩ (Keep.cons rfl (Keep.cons rfl (Keep.cons rfl (Keep.cons rfl (Keep.cons rfl (Keep.cons rfl (Keep.cons rfl (Keep.cons rfl (Keep.cons rfl (Keep.cons rfl (Keep.app rfl (Keep.rm rfl Keep.base)))))))))))), hh⟩, by omega⟩
    · have hG2 := hg2; try simp only [gS] at hG2
      refine sy_exit ?_
      refine then_e ?_
      refine then_e ?_
      refine blk_e ?_
      refine then_n ?_
      refine sy_seq ?_
      refine sy_ops ?_
      refine ops_v hf hh (yv_move rfl) (.inl rfl) rfl rfl rfl ?_; clear hf; clear a; intro a hf
      refine ops_v hf hh (yv_assign rfl) (.inl rfl) rfl rfl rfl ?_; clear hf; clear a; intro a hf
      refine ops_end ?_
      refine then_n ?_
      refine sy_ret ?_
      refine ret_r hf rfl rfl ?_
      have : k = 2 := by omega
      subst this
      exact ⟨by subst hacc; rfl, hh.ext⟩
end Go.Proofs.YtkolcbjghphjeaaDoor
