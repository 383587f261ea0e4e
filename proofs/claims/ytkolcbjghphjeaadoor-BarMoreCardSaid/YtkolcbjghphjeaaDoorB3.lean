/- The reference's plans and bars, walked. -/
import Derived.Test.YtkolcbjghphjeaaDoorB2
namespace Go.Proofs.YtkolcbjghphjeaaDoor
open Go Go.Sy Go.BarM
theorem shl_bd {n : Int} (h1 : 1 ≤ n) (h2 : n ≤ 16) : 2 ≤ ((2 ^ n.toNat : Nat) : Int) ∧ ((2 ^ n.toNat : Nat) : Int) ≤ 65536 := by
  have a : 2 ^ 1 ≤ 2 ^ n.toNat := Nat.pow_le_pow_right (by omega) (by omega)
  have b : 2 ^ n.toNat ≤ 2 ^ 16 := Nat.pow_le_pow_right (by omega) (by omega)
  omega
theorem cast_pow (n : Nat) : ((2 ^ n : Nat) : Int) = (2 : Int) ^ n := by push_cast; rfl
theorem testBit_lt {p k n : Nat} (h : p < 2 ^ n) (hk : n ≤ k) : p.testBit k = false := Nat.testBit_lt_two_pow (Nat.lt_of_lt_of_le h (Nat.pow_le_pow_right (by omega) hk))
theorem c39 (b : BarD) (sa : Option Addr) (sc : Nat) (p : Nat) (w : World) (hV : Valid b) (hS : ScAt w sa b.scenes) (hp : p ≤ 9223372036854775807) :
    Calls Tryd.prog 39 #[barV b sa sc, .int .i64 p] w (Ret fun v w' => v = .int .i64 (taken b p) ∧ Ext [] w w') := by
  refine calls_of Tryd.func39 rfl rfl (fun a hf => ?_)
  have hh := Hp.init w []
  have hn := hV.n
  refine sy_seq ?_
  refine sy_ops ?_
  refine ops_box hf hh rfl (.inl rfl) rfl ?_; clear hf hh; clear a; intro B2 a w hf hh
  refine ops_v hf hh (yv_assign rfl) (.inl rfl) rfl rfl rfl ?_; clear hf; clear a; intro a hf
  refine ops_end ?_
  refine then_n ?_
  refine sy_seq ?_
  refine sy_ops ?_
  refine ops_v hf hh (yv_assign rfl) (.inl rfl) rfl rfl rfl ?_; clear hf; clear a; intro a hf
  refine ops_end ?_
  refine then_n ?_
  refine sy_seq ?_
  refine sy_seq ?_
  refine sy_ops ?_
  refine ops_v hf hh (yv_assign rfl) (.inl rfl) rfl rfl rfl ?_; clear hf; clear a; intro a hf
  refine ops_end ?_
  refine then_n ?_
  refine sy_block ?_
  refine sy_loopF (σ := Nat) [5, 6, 7, 8, 9, 10, 11, 12, 13, 14, 15, 16, 17, 18, 19, 20, 21, 22, 23, 24, 25, 26, 27, 28] (fun k => [(5, .int .i64 (takenTo b p k)), (6, .int .i64 k)]) (fun k => k ≤ b.scenes.length) (fun k => b.scenes.length - k) (0) hf hh ?_ ?_ ?_
  · exact ⟨by rw [takenTo_zero]; rfl, rfl, True.intro⟩
  · first | exact True.intro | omega | (simp; omega) | simp
  · rintro k a w hpr hf hh
    have htl := takenTo_lt b p k
    have hp10 : 2 ^ k ≤ 2 ^ 10 := Nat.pow_le_pow_right (by omega) (by omega)
    refine sy_seq ?_
    refine sy_seq ?_
    refine sy_ops ?_
    refine ops_v hf hh (yv_move rfl) (.inl rfl) rfl rfl rfl ?_; clear hf; clear a; intro a hf
    refine ops_v hf hh (yv_fieldAddr Tryd.fo_24_4 rfl) (.inl rfl) rfl rfl rfl ?_; clear hf; clear a; intro a hf
    refine ops_v hf hh (yv_load Tryd.sc_22 rfl (fun _ h => by first | exact h.at (i := 0) rfl | exact h.at (i := 1) rfl | exact h.at (i := 2) rfl | exact h.at (i := 3) rfl) (by first | rfl | assumption)) (.inl rfl) rfl rfl rfl ?_; clear hf; clear a; intro a hf
    refine ops_v hf hh (yv_len Tryd.se_22 rfl) (.inl rfl) rfl rfl rfl ?_; clear hf; clear a; intro a hf
    refine ops_v hf hh (yv_bin rfl rfl rfl) (.inl rfl) rfl rfl rfl ?_; clear hf; clear a; intro a hf
    refine ops_end ?_
    refine then_n ?_
    refine sy_cond hf rfl (fun hg2 => ?_) (fun hg2 => ?_)
    · have hG2 := hg2; try simp only [gS] at hG2
      refine sy_skip ?_
      refine then_n ?_
      refine sy_seq ?_
      refine sy_block ?_
      refine sy_seq ?_
      obtain ⟨s, hs⟩ := scn_of (l := b.scenes) (i := k) (by omega)
      have hst := takenTo_step b p k s hs
      refine sy_ops ?_
      refine ops_v hf hh (yv_loads Tryd.ag_24 rfl (fun _ h => by first | exact h.at (i := 0) rfl | exact h.at (i := 1) rfl | exact h.at (i := 2) rfl | exact h.at (i := 3) rfl) (by first | assumption | rfl)) (.inl rfl) rfl rfl rfl ?_; clear hf; clear a; intro a hf
      refine ops_v hf hh (yv_move rfl) (.inl rfl) rfl rfl rfl ?_; clear hf; clear a; intro a hf
      refine ops_v hf hh (yv_move rfl) (.inl rfl) rfl rfl rfl ?_; clear hf; clear a; intro a hf
      refine ops_call hf Tryd.en_45 rfl rfl rfl (.inl rfl) rfl (c45 b sa sc p k s _ hs (hS.ext hh.ext) hp (by have := hV.p1; omega) hV.p2 hV.s1 hV.s2) ?_; clear hf; clear a; intro v a w hR hf
      obtain ⟨rfl, hx⟩ := hR; replace hh := hh.more hx; clear hx
      refine ops_v hf hh (yv_move rfl) (.inl rfl) rfl rfl rfl ?_; clear hf; clear a; intro a hf
      refine ops_v hf hh (yv_extract rfl rfl) (.inl rfl) rfl rfl rfl ?_; clear hf; clear a; intro a hf
      refine ops_v hf hh (yv_extract rfl rfl) (.inl rfl) rfl rfl rfl ?_; clear hf; clear a; intro a hf
      refine ops_v hf hh (yv_assign rfl) (.inl rfl) rfl rfl rfl ?_; clear hf; clear a; intro a hf
      refine ops_v hf hh (yv_assign rfl) (.inl rfl) rfl rfl rfl ?_; clear hf; clear a; intro a hf
      refine ops_end ?_
      refine then_n ?_
      refine sy_seq ?_
      refine sy_ops ?_
      refine ops_v hf hh (yv_move rfl) (.inl rfl) rfl rfl rfl ?_; clear hf; clear a; intro a hf
      refine ops_v hf hh (yv_bin rfl rfl rfl) (.inl rfl) rfl rfl rfl ?_; clear hf; clear a; intro a hf
      refine ops_end ?_
      refine then_n ?_
      refine sy_cond hf rfl (fun hg7 => ?_) (fun hg7 => ?_)
      · have hG7 := hg7; try simp only [gS] at hG7
        refine sy_ops ?_
        refine ops_v hf hh (yv_move rfl) (.inl rfl) rfl rfl rfl ?_; clear hf; clear a; intro a hf
        refine ops_v hf hh (yv_move rfl) (.inl rfl) rfl rfl rfl ?_; clear hf; clear a; intro a hf
        refine ops_call hf Tryd.en_56 rfl rfl rfl (.inl rfl) rfl (c56n k (by omega) _) ?_; clear hf; clear a; intro v a w hR hf
        obtain ⟨rfl, hx⟩ := hR; replace hh := hh.more hx; clear hx
        first | refine ops_v hf hh (yv_add rfl rfl (by omega) (by omega)) (.inl rfl) rfl rfl rfl ?_; clear hf; clear a; intro a hf | refine ops_v hf hh (yv_bin rfl rfl rfl) (.inl rfl) rfl rfl rfl ?_; clear hf; clear a; intro a hf
        refine ops_v hf hh (yv_assign rfl) (.inl rfl) rfl rfl rfl ?_; clear hf; clear a; intro a hf
        refine ops_end ?_
        refine blk_n ?_
        refine then_n ?_
        refine sy_ops ?_
        refine ops_v hf hh (yv_move rfl) (.inl rfl) rfl rfl rfl ?_; clear hf; clear a; intro a hf
        first | refine ops_v hf hh (yv_add rfl rfl (by omega) (by omega)) (.inl rfl) rfl rfl rfl ?_; clear hf; clear a; intro a hf | refine ops_v hf hh (yv_bin rfl rfl rfl) (.inl rfl) rfl rfl rfl ?_; clear hf; clear a; intro a hf
        refine ops_v hf hh (yv_assign rfl) (.inl rfl) rfl rfl rfl ?_; clear hf; clear a; intro a hf
        refine ops_end ?_
        refine then_n ?_
        try simp only [Int.toNat_natCast] at *
        first
          | (have hu : takenTo b p (k + 1) = takenTo b p k + 2 ^ k := by rw [hst, if_pos (enc_isSome (by assumption))]
             exact ⟨k + 1, ⟨by omega, hf.head ⟨congrArg (fun z => some (Value.int IntKind.i64 z)) (by rw [hu]; push_cast; rfl), rfl, True.intro⟩ (Keep.cons rfl (Keep.cons rfl (Keep.cons rfl (Keep.cons rfl (Keep.cons rfl (Keep.cons rfl (Keep.cons rfl (Keep.cons rfl (Keep.cons rfl (Keep.cons rfl (Keep.cons rfl (Keep.cons rfl (Keep.cons rfl (Keep.cons rfl (Keep.cons rfl (Keep.cons rfl (Keep.cons rfl (Keep.cons rfl (Keep.cons rfl (Keep.cons rfl (Keep.cons rfl (Keep.cons rfl (Keep.cons rfl (Keep.cons rfl (Keep.app rfl (Keep.rm rfl Keep.base)))))))))))))))))))))))))), hh⟩, by omega⟩)
          | (have hu : takenTo b p (k + 1) = takenTo b p k := by rw [hst, if_neg (enc_isNone (by assumption))]
             exact ⟨k + 1, ⟨by omega, hf.head ⟨congrArg (fun z => some (Value.int IntKind.i64 z)) (by rw [hu]), rfl, True.intro⟩ (Keep.cons rfl (Keep.cons rfl (Keep.cons rfl (Keep.cons rfl (Keep.cons rfl (Keep.cons rfl (Keep.cons rfl (Keep.cons rfl (Keep.cons rfl (Keep.cons rfl (Keep.cons rfl (Keep.cons rfl (Keep.cons rfl (Keep.cons rfl (Keep.cons rfl (Keep.cons rfl (Keep.cons rfl (Keep.cons rfl (Keep.cons rfl (Keep.cons rfl (Keep.cons rfl (Keep.cons rfl (Keep.cons rfl (Keep.cons rfl (Keep.app rfl (Keep.rm rfl Keep.base)))))))))))))))))))))))))), hh⟩, by omega⟩)
      · have hG7 := hg7; try simp only [gS] at hG7
        refine sy_skip ?_
        refine blk_n ?_
        refine then_n ?_
        refine sy_ops ?_
        refine ops_v hf hh (yv_move rfl) (.inl rfl) rfl rfl rfl ?_; clear hf; clear a; intro a hf
        first | refine ops_v hf hh (yv_add rfl rfl (by omega) (by omega)) (.inl rfl) rfl rfl rfl ?_; clear hf; clear a; intro a hf | refine ops_v hf hh (yv_bin rfl rfl rfl) (.inl rfl) rfl rfl rfl ?_; clear hf; clear a; intro a hf
        refine ops_v hf hh (yv_assign rfl) (.inl rfl) rfl rfl rfl ?_; clear hf; clear a; intro a hf
        refine ops_end ?_
        refine then_n ?_
        try simp only [Int.toNat_natCast] at *
        first
          | (have hu : takenTo b p (k + 1) = takenTo b p k + 2 ^ k := by rw [hst, if_pos (enc_isSome (by assumption))]
             exact ⟨k + 1, ⟨by omega, hf.head ⟨congrArg (fun z => some (Value.int IntKind.i64 z)) (by rw [hu]; push_cast; rfl), rfl, True.intro⟩ (Keep.cons rfl (Keep.cons rfl (Keep.cons rfl (Keep.cons rfl (Keep.cons rfl (Keep.cons rfl (Keep.cons rfl (Keep.cons rfl (Keep.cons rfl (Keep.cons rfl (Keep.cons rfl (Keep.cons rfl (Keep.cons rfl (Keep.cons rfl (Keep.cons rfl (Keep.cons rfl (Keep.cons rfl (Keep.cons rfl (Keep.cons rfl (Keep.app rfl (Keep.rm rfl Keep.base))))))))))))))))))))), hh⟩, by omega⟩)
          | (have hu : takenTo b p (k + 1) = takenTo b p k := by rw [hst, if_neg (enc_isNone (by assumption))]
             exact ⟨k + 1, ⟨by omega, hf.head ⟨congrArg (fun z => some (Value.int IntKind.i64 z)) (by rw [hu]), rfl, True.intro⟩ (Keep.cons rfl (Keep.cons rfl (Keep.cons rfl (Keep.cons rfl (Keep.cons rfl (Keep.cons rfl (Keep.cons rfl (Keep.cons rfl (Keep.cons rfl (Keep.cons rfl (Keep.cons rfl (Keep.cons rfl (Keep.cons rfl (Keep.cons rfl (Keep.cons rfl (Keep.cons rfl (Keep.cons rfl (Keep.cons rfl (Keep.cons rfl (Keep.app rfl (Keep.rm rfl Keep.base))))))))))))))))))))), hh⟩, by omega⟩)
    · have hG2 := hg2; try simp only [gS] at hG2
      refine sy_exit ?_
      refine then_e ?_
      refine then_e ?_
      refine blk_e ?_
      refine then_n ?_
      refine sy_seq ?_
      refine sy_ops ?_
      refine ops_v hf hh (yv_move rfl) (.inl rfl) rfl rfl rfl ?_; clear hf; clear a; intro a hf
      refine ops_v hf hh (yv_assign rfl) (.inl rfl) rfl rfl rfl ?_; clear hf; clear a; intro a hf
      refine ops_end ?_
      refine then_n ?_
      refine sy_ret ?_
      refine ret_r hf rfl rfl ?_
      have hkk : k = b.scenes.length := by omega
      subst hkk
      exact ⟨by unfold taken; rfl, hh.ext⟩
theorem c38 (b : BarD) (sa : Option Addr) (sc : Nat) (p : Int) (w : World) (hV : Valid b) (h1 : p ≤ 9223372036854775807) :
    Calls Tryd.prog 38 #[barV b sa sc, .int .i64 p] w (Ret fun v w' => v = .bool (isPlanI b p) ∧ Ext [] w w') := by
  refine calls_of Tryd.func38 rfl rfl (fun a hf => ?_)
  have hh := Hp.init w []
  have hs1 := hV.s1; have hs2 := hV.s2; have hk1 := hV.k1; have hk2 := hV.k2
  have hpw := shl_bd hs1 hs2
  have hpw2 := cast_pow b.slots.toNat
  refine sy_seq ?_
  refine sy_ops ?_
  refine ops_box hf hh rfl (.inl rfl) rfl ?_; clear hf hh; clear a; intro B2 a w hf hh
  refine ops_v hf hh (yv_assign rfl) (.inl rfl) rfl rfl rfl ?_; clear hf; clear a; intro a hf
  refine ops_end ?_
  refine then_n ?_
  refine sy_seq ?_
  refine sy_seq ?_
  refine sy_quiet (C := Hp _ _ _) Tryd.follows (by kernel_rfl) (hh.drawn _) ?_
  refine q_v hf (yv_move rfl) (.inl rfl) rfl rfl ?_; clear hf; clear a; intro a hf
  refine q_v hf (yv_fieldAddr Tryd.fo_24_0 rfl) (.inl rfl) rfl rfl ?_; clear hf; clear a; intro a hf
  refine q_v hf (yv_load Tryd.sc_3 rfl (fun _ h => by first | exact h.at (i := 0) rfl | exact h.at (i := 1) rfl | exact h.at (i := 2) rfl | exact h.at (i := 3) rfl) (by first | rfl | assumption)) (.inl rfl) rfl rfl ?_; clear hf; clear a; intro a hf
  refine q_callE hf Tryd.en_56 rfl rfl rfl (.inl rfl) rfl (fun w hh => c56 _ (by omega) (by omega) _) ?_; clear hf; clear a; intro a hf
  first | refine q_v hf (yv_sub rfl rfl (by omega) (by omega)) (.inl rfl) rfl rfl ?_; clear hf; clear a; intro a hf | refine q_v hf (yv_bin rfl rfl rfl) (.inl rfl) rfl rfl ?_; clear hf; clear a; intro a hf
  refine q_callE hf Tryd.en_44 rfl rfl rfl (.inl rfl) rfl (fun w hh => c44 _ _ _ _) ?_; clear hf; clear a; intro a hf
  refine q_v hf (yv_not rfl) (.inl rfl) rfl rfl ?_; clear hf; clear a; intro a hf
  refine q_v hf (yv_move rfl) (.inl rfl) rfl rfl ?_; clear hf; clear a; intro a hf
  refine guard_splitq hf (t := 13) rfl (fun hg3 => ?_) (fun hg3 => ?_)
  · have hG3 := hg3; try simp only [gS] at hG3
    refine q_off hf (goff rfl rfl rfl (by first | assumption | rfl | (simp; done))) rfl rfl ?_; clear hf; clear a; intro a hf
    refine q_off hf (goff rfl rfl rfl (by first | assumption | rfl | (simp; done))) rfl rfl ?_; clear hf; clear a; intro a hf
    refine q_off hf (goff rfl rfl rfl (by first | assumption | rfl | (simp; done))) rfl rfl ?_; clear hf; clear a; intro a hf
    refine q_off hf (goff rfl rfl rfl (by first | assumption | rfl | (simp; done))) rfl rfl ?_; clear hf; clear a; intro a hf
    refine q_off hf (goff rfl rfl rfl (by first | assumption | rfl | (simp; done))) rfl rfl ?_; clear hf; clear a; intro a hf
    refine q_v hf (yv_pick_t rfl (by first | assumption | rfl | (simp; done)) rfl) (.inl rfl) rfl rfl ?_; clear hf; clear a; intro a hf
    refine q_end fun w hh => ?_
    refine then_n ?_
    refine sy_ct hf rfl (by first | assumption | rfl | (simp; done)) ?_
    refine sy_seq ?_
    refine sy_ops ?_
    refine ops_v hf hh (yv_assign rfl) (.inl rfl) rfl rfl rfl ?_; clear hf; clear a; intro a hf
    refine ops_end ?_
    refine then_n ?_
    refine sy_ret ?_
    refine then_r ?_
    refine ret_r hf rfl rfl ?_
    try simp only [Int.toNat_natCast] at *
    refine ⟨congrArg Value.bool ?_, hh.ext⟩
    first
      | (refine isPlanI_no fun h0 hip => ?_
         have hi := (isPlan_iff b p.toNat).1 hip
         have hi1 := hi.1; have hi2 := hi.2.1
         omega)
      | (refine isPlanI_no fun h0 hip => ?_
         have hi := (isPlan_iff b p.toNat).1 hip
         exact hi.2.2 k (by omega) ⟨by assumption, by assumption⟩)
      | (refine isPlanI_yes (by omega) ((isPlan_iff b p.toNat).2 ⟨by omega, by omega, fun j hj => hq2 j (by omega)⟩))
  · have hG3 := hg3; try simp only [gS] at hG3
    refine q_v hf (yv_move rfl) (gon rfl rfl rfl (by first | assumption | rfl | (simp; done))) rfl rfl ?_; clear hf; clear a; intro a hf
    refine q_callE hf Tryd.en_31 rfl rfl rfl (gon rfl rfl rfl (by first | assumption | rfl | (simp; done))) rfl (fun w hh => c31 _ (by omega) (by omega) _) ?_; clear hf; clear a; intro a hf
    refine q_v hf (yv_fieldAddr Tryd.fo_24_3 rfl) (gon rfl rfl rfl (by first | assumption | rfl | (simp; done))) rfl rfl ?_; clear hf; clear a; intro a hf
    refine q_v hf (yv_load Tryd.sc_3 rfl (fun _ h => by first | exact h.at (i := 0) rfl | exact h.at (i := 1) rfl | exact h.at (i := 2) rfl | exact h.at (i := 3) rfl) (by first | rfl | assumption)) (gon rfl rfl rfl (by first | assumption | rfl | (simp; done))) rfl rfl ?_; clear hf; clear a; intro a hf
    refine q_v hf (yv_bin rfl rfl rfl) (gon rfl rfl rfl (by first | assumption | rfl | (simp; done))) rfl rfl ?_; clear hf; clear a; intro a hf
    refine q_v hf (yv_pick_f rfl (by first | assumption | rfl | (simp; done)) rfl) (.inl rfl) rfl rfl ?_; clear hf; clear a; intro a hf
    refine q_end fun w hh => ?_
    refine then_n ?_
    refine sy_cond hf rfl (fun hg6 => ?_) (fun hg6 => ?_)
    · have hG6 := hg6; try simp only [gS] at hG6
      refine sy_seq ?_
      refine sy_ops ?_
      refine ops_v hf hh (yv_assign rfl) (.inl rfl) rfl rfl rfl ?_; clear hf; clear a; intro a hf
      refine ops_end ?_
      refine then_n ?_
      refine sy_ret ?_
      refine then_r ?_
      refine ret_r hf rfl rfl ?_
      try simp only [Int.toNat_natCast] at *
      refine ⟨congrArg Value.bool ?_, hh.ext⟩
      first
        | (refine isPlanI_no fun h0 hip => ?_
           have hi := (isPlan_iff b p.toNat).1 hip
           have hi1 := hi.1; have hi2 := hi.2.1
           omega)
        | (refine isPlanI_no fun h0 hip => ?_
           have hi := (isPlan_iff b p.toNat).1 hip
           exact hi.2.2 k (by omega) ⟨by assumption, by assumption⟩)
        | (refine isPlanI_yes (by omega) ((isPlan_iff b p.toNat).2 ⟨by omega, by omega, fun j hj => hq2 j (by omega)⟩))
    · have hG6 := hg6; try simp only [gS] at hG6
      refine sy_skip ?_
      refine then_n ?_
      refine sy_seq ?_
      refine sy_seq ?_
      refine sy_ops ?_
      refine ops_v hf hh (yv_assign rfl) (.inl rfl) rfl rfl rfl ?_; clear hf; clear a; intro a hf
      refine ops_end ?_
      refine then_n ?_
      refine sy_block ?_
      refine sy_loopF (σ := Nat) [4, 5, 20, 21, 22, 23, 24, 25, 26, 27, 28, 29, 30, 31, 32, 33, 34] (fun k => [(5, .int .i64 k)]) (fun k => k ≤ b.slots.toNat ∧ ∀ j, j < k → ¬ (p.toNat.testBit j = true ∧ b.broken.toNat.testBit j = true)) (fun k => b.slots.toNat - k) (0) hf hh ?_ ?_ ?_
      · repeat' (first | exact True.intro | refine And.intro rfl ?_)
      · exact ⟨by omega, fun j hj => by omega⟩
      · rintro k a w ⟨hq1, hq2⟩ hf hh
        refine sy_seq ?_
        refine sy_seq ?_
        refine sy_ops ?_
        refine ops_v hf hh (yv_move rfl) (.inl rfl) rfl rfl rfl ?_; clear hf; clear a; intro a hf
        refine ops_v hf hh (yv_fieldAddr Tryd.fo_24_0 rfl) (.inl rfl) rfl rfl rfl ?_; clear hf; clear a; intro a hf
        refine ops_v hf hh (yv_load Tryd.sc_3 rfl (fun _ h => by first | exact h.at (i := 0) rfl | exact h.at (i := 1) rfl | exact h.at (i := 2) rfl | exact h.at (i := 3) rfl) (by first | rfl | assumption)) (.inl rfl) rfl rfl rfl ?_; clear hf; clear a; intro a hf
        refine ops_v hf hh (yv_bin rfl rfl rfl) (.inl rfl) rfl rfl rfl ?_; clear hf; clear a; intro a hf
        refine ops_end ?_
        refine then_n ?_
        refine sy_cond hf rfl (fun hg8 => ?_) (fun hg8 => ?_)
        · have hG8 := hg8; try simp only [gS] at hG8
          refine sy_skip ?_
          refine then_n ?_
          refine sy_seq ?_
          refine sy_block ?_
          refine sy_seq ?_
          refine sy_ops ?_
          refine ops_v hf hh (yv_move rfl) (.inl rfl) rfl rfl rfl ?_; clear hf; clear a; intro a hf
          refine ops_v hf hh (yv_move rfl) (.inl rfl) rfl rfl rfl ?_; clear hf; clear a; intro a hf
          refine ops_call hf Tryd.en_55 rfl rfl rfl (.inl rfl) rfl (c55 _ _ (by omega) (by omega) (by omega) (by omega) _) ?_; clear hf; clear a; intro v a w hR hf
          obtain ⟨rfl, hx⟩ := hR; replace hh := hh.more hx; clear hx
          refine ops_v hf hh (yv_move rfl) (.inl rfl) rfl rfl rfl ?_; clear hf; clear a; intro a hf
          refine guard_split hf (t := 29) rfl (fun hg10 => ?_) (fun hg10 => ?_)
          · have hG10 := hg10; try simp only [gS] at hG10
            refine ops_v hf hh (yv_fieldAddr Tryd.fo_24_2 rfl) (gon rfl rfl rfl (by first | assumption | rfl | (simp; done))) rfl rfl rfl ?_; clear hf; clear a; intro a hf
            refine ops_v hf hh (yv_load Tryd.sc_3 rfl (fun _ h => by first | exact h.at (i := 0) rfl | exact h.at (i := 1) rfl | exact h.at (i := 2) rfl | exact h.at (i := 3) rfl) (by first | rfl | assumption)) (gon rfl rfl rfl (by first | assumption | rfl | (simp; done))) rfl rfl rfl ?_; clear hf; clear a; intro a hf
            refine ops_v hf hh (yv_move rfl) (gon rfl rfl rfl (by first | assumption | rfl | (simp; done))) rfl rfl rfl ?_; clear hf; clear a; intro a hf
            refine ops_call hf Tryd.en_55 rfl rfl rfl (gon rfl rfl rfl (by first | assumption | rfl | (simp; done))) rfl (c55 _ _ (by omega) (by omega) (by omega) (by omega) _) ?_; clear hf; clear a; intro v a w hR hf
            obtain ⟨rfl, hx⟩ := hR; replace hh := hh.more hx; clear hx
            refine ops_v hf hh (yv_pick_t rfl (by first | assumption | rfl | (simp; done)) rfl) (.inl rfl) rfl rfl rfl ?_; clear hf; clear a; intro a hf
            refine ops_end ?_
            refine then_n ?_
            refine sy_cond hf rfl (fun hg12 => ?_) (fun hg12 => ?_)
            · have hG12 := hg12; try simp only [gS] at hG12
              refine sy_seq ?_
              refine sy_ops ?_
              refine ops_v hf hh (yv_assign rfl) (.inl rfl) rfl rfl rfl ?_; clear hf; clear a; intro a hf
              refine ops_end ?_
              refine then_n ?_
              refine sy_ret ?_
              refine blk_r ?_
              refine then_r ?_
              refine then_r ?_
              refine blk_r ?_
              refine then_r ?_
              refine ret_r hf rfl rfl ?_
              try simp only [Int.toNat_natCast] at *
              refine ⟨congrArg Value.bool ?_, hh.ext⟩
              first
                | (refine isPlanI_no fun h0 hip => ?_
                   have hi := (isPlan_iff b p.toNat).1 hip
                   have hi1 := hi.1; have hi2 := hi.2.1
                   omega)
                | (refine isPlanI_no fun h0 hip => ?_
                   have hi := (isPlan_iff b p.toNat).1 hip
                   exact hi.2.2 k (by omega) ⟨by assumption, by assumption⟩)
                | (refine isPlanI_yes (by omega) ((isPlan_iff b p.toNat).2 ⟨by omega, by omega, fun j hj => hq2 j (by omega)⟩))
            · have hG12 := hg12; try simp only [gS] at hG12
              refine sy_skip ?_
              refine blk_n ?_
              refine then_n ?_
              refine sy_ops ?_
              refine ops_v hf hh (yv_move rfl) (.inl rfl) rfl rfl rfl ?_; clear hf; clear a; intro a hf
              first | refine ops_v hf hh (yv_add rfl rfl (by omega) (by omega)) (.inl rfl) rfl rfl rfl ?_; clear hf; clear a; intro a hf | refine ops_v hf hh (yv_bin rfl rfl rfl) (.inl rfl) rfl rfl rfl ?_; clear hf; clear a; intro a hf
              refine ops_v hf hh (yv_assign rfl) (.inl rfl) rfl rfl rfl ?_; clear hf; clear a; intro a hf
              refine ops_end ?_
              refine then_n ?_
              try simp only [Int.toNat_natCast] at *
              refine ⟨k + 1, ⟨⟨by omega, fun j hj => ?_⟩, hf.head ⟨rfl, True.intro⟩ (Keep.cons rfl (Keep.cons rfl (Keep.cons rfl (Keep.cons rfl (Keep.cons rfl (Keep.cons rfl (Keep.cons rfl (Keep.cons rfl (Keep.cons rfl (Keep.cons rfl (Keep.cons rfl (Keep.cons rfl (Keep.cons rfl (Keep.cons rfl (Keep.cons rfl (Keep.cons rfl (Keep.app rfl (Keep.rm rfl Keep.base)))))))))))))))))), hh⟩, by omega⟩
              by_cases hjk : j = k
              · subst hjk; rintro ⟨e1, e2⟩; simp_all
              · exact hq2 j (by omega)
          · have hG10 := hg10; try simp only [gS] at hG10
            refine ops_off hf (goff rfl rfl rfl (by first | assumption | rfl | (simp; done))) rfl rfl ?_; clear hf; clear a; intro a hf
            refine ops_off hf (goff rfl rfl rfl (by first | assumption | rfl | (simp; done))) rfl rfl ?_; clear hf; clear a; intro a hf
            refine ops_off hf (goff rfl rfl rfl (by first | assumption | rfl | (simp; done))) rfl rfl ?_; clear hf; clear a; intro a hf
            refine ops_off hf (goff rfl rfl rfl (by first | assumption | rfl | (simp; done))) rfl rfl ?_; clear hf; clear a; intro a hf
            refine ops_v hf hh (yv_pick_f rfl (by first | assumption | rfl | (simp; done)) rfl) (.inl rfl) rfl rfl rfl ?_; clear hf; clear a; intro a hf
            refine ops_end ?_
            refine then_n ?_
            refine sy_cf hf rfl (by first | assumption | rfl | (simp; done)) ?_
            refine sy_skip ?_
            refine blk_n ?_
            refine then_n ?_
            refine sy_ops ?_
            refine ops_v hf hh (yv_move rfl) (.inl rfl) rfl rfl rfl ?_; clear hf; clear a; intro a hf
            first | refine ops_v hf hh (yv_add rfl rfl (by omega) (by omega)) (.inl rfl) rfl rfl rfl ?_; clear hf; clear a; intro a hf | refine ops_v hf hh (yv_bin rfl rfl rfl) (.inl rfl) rfl rfl rfl ?_; clear hf; clear a; intro a hf
            refine ops_v hf hh (yv_assign rfl) (.inl rfl) rfl rfl rfl ?_; clear hf; clear a; intro a hf
            refine ops_end ?_
            refine then_n ?_
            try simp only [Int.toNat_natCast] at *
            refine ⟨k + 1, ⟨⟨by omega, fun j hj => ?_⟩, hf.head ⟨rfl, True.intro⟩ (Keep.cons rfl (Keep.cons rfl (Keep.cons rfl (Keep.cons rfl (Keep.cons rfl (Keep.cons rfl (Keep.cons rfl (Keep.cons rfl (Keep.cons rfl (Keep.cons rfl (Keep.cons rfl (Keep.cons rfl (Keep.cons rfl (Keep.cons rfl (Keep.cons rfl (Keep.cons rfl (Keep.app rfl (Keep.rm rfl Keep.base)))))))))))))))))), hh⟩, by omega⟩
            by_cases hjk : j = k
            · subst hjk; rintro ⟨e1, e2⟩; simp_all
            · exact hq2 j (by omega)
        · have hG8 := hg8; try simp only [gS] at hG8
          refine sy_exit ?_
          refine then_e ?_
          refine then_e ?_
          refine blk_e ?_
          refine then_n ?_
          refine sy_seq ?_
          refine sy_ops ?_
          refine ops_v hf hh (yv_assign rfl) (.inl rfl) rfl rfl rfl ?_; clear hf; clear a; intro a hf
          refine ops_end ?_
          refine then_n ?_
          refine sy_ret ?_
          refine ret_r hf rfl rfl ?_
          try simp only [Int.toNat_natCast] at *
          refine ⟨congrArg Value.bool ?_, hh.ext⟩
          first
            | (refine isPlanI_no fun h0 hip => ?_
               have hi := (isPlan_iff b p.toNat).1 hip
               have hi1 := hi.1; have hi2 := hi.2.1
               omega)
            | (refine isPlanI_no fun h0 hip => ?_
               have hi := (isPlan_iff b p.toNat).1 hip
               exact hi.2.2 k (by omega) ⟨by assumption, by assumption⟩)
            | (refine isPlanI_yes (by omega) ((isPlan_iff b p.toNat).2 ⟨by omega, by omega, fun j hj => hq2 j (by omega)⟩))
theorem c28 (b : BarD) (sa : Option Addr) (sc : Nat) (w : World) (hS : ScAt w sa b.scenes) :
    Calls Tryd.prog 28 #[barV b sa sc] w (Ret fun v w' => v = .bool (okBar b) ∧ Ext [] w w') := by
  refine calls_of Tryd.func28 rfl rfl (fun a hf => ?_)
  have hh := Hp.init w []
  have hpw := @shl_bd b.slots
  have hpw2 := cast_pow b.slots.toNat
  refine sy_seq ?_
  refine sy_ops ?_
  refine ops_box hf hh rfl (.inl rfl) rfl ?_; clear hf hh; clear a; intro B1 a w hf hh
  refine ops_v hf hh (yv_assign rfl) (.inl rfl) rfl rfl rfl ?_; clear hf; clear a; intro a hf
  refine ops_end ?_
  refine then_n ?_
  refine sy_seq ?_
  refine sy_seq ?_
  refine sy_quiet (C := Hp _ _ _) Tryd.follows (by kernel_rfl) (hh.drawn _) ?_
  refine q_v hf (yv_fieldAddr Tryd.fo_24_0 rfl) (.inl rfl) rfl rfl ?_; clear hf; clear a; intro a hf
  refine q_v hf (yv_load Tryd.sc_3 rfl (fun _ h => by first | exact h.at (i := 0) rfl | exact h.at (i := 1) rfl | exact h.at (i := 2) rfl | exact h.at (i := 3) rfl | exact h.old hb) (by first | rfl | assumption)) (.inl rfl) rfl rfl ?_; clear hf; clear a; intro a hf
  refine q_callE hf Tryd.en_44 rfl rfl rfl (.inl rfl) rfl (fun w hh => c44 _ _ _ _) ?_; clear hf; clear a; intro a hf
  refine q_v hf (yv_not rfl) (.inl rfl) rfl rfl ?_; clear hf; clear a; intro a hf
  refine q_v hf (yv_move rfl) (.inl rfl) rfl rfl ?_; clear hf; clear a; intro a hf
  refine guard_splitq hf (t := 9) rfl (fun hg2 => ?_) (fun hg2 => ?_)
  · have hG2 := hg2; try simp only [gS] at hG2
    refine q_off hf (goff rfl rfl rfl (by first | assumption | rfl | (simp; done))) rfl rfl ?_; clear hf; clear a; intro a hf
    refine q_off hf (goff rfl rfl rfl (by first | assumption | rfl | (simp; done))) rfl rfl ?_; clear hf; clear a; intro a hf
    refine q_off hf (goff rfl rfl rfl (by first | assumption | rfl | (simp; done))) rfl rfl ?_; clear hf; clear a; intro a hf
    refine q_off hf (goff rfl rfl rfl (by first | assumption | rfl | (simp; done))) rfl rfl ?_; clear hf; clear a; intro a hf
    refine q_v hf (yv_pick_t rfl (by first | assumption | rfl | (simp; done)) rfl) (.inl rfl) rfl rfl ?_; clear hf; clear a; intro a hf
    refine q_v hf (yv_move rfl) (.inl rfl) rfl rfl ?_; clear hf; clear a; intro a hf
    refine q_off hf (goff rfl rfl rfl (by first | assumption | rfl | (simp; done))) rfl rfl ?_; clear hf; clear a; intro a hf
    refine q_off hf (goff rfl rfl rfl (by first | assumption | rfl | (simp; done))) rfl rfl ?_; clear hf; clear a; intro a hf
    refine q_off hf (goff rfl rfl rfl (by first | assumption | rfl | (simp; done))) rfl rfl ?_; clear hf; clear a; intro a hf
    refine q_off hf (goff rfl rfl rfl (by first | assumption | rfl | (simp; done))) rfl rfl ?_; clear hf; clear a; intro a hf
    refine q_off hf (goff rfl rfl rfl (by first | assumption | rfl | (simp; done))) rfl rfl ?_; clear hf; clear a; intro a hf
    refine q_off hf (goff rfl rfl rfl (by first | assumption | rfl | (simp; done))) rfl rfl ?_; clear hf; clear a; intro a hf
    refine q_off hf (goff rfl rfl rfl (by first | assumption | rfl | (simp; done))) rfl rfl ?_; clear hf; clear a; intro a hf
    refine q_off hf (goff rfl rfl rfl (by first | assumption | rfl | (simp; done))) rfl rfl ?_; clear hf; clear a; intro a hf
    refine q_v hf (yv_pick_t rfl (by first | assumption | rfl | (simp; done)) rfl) (.inl rfl) rfl rfl ?_; clear hf; clear a; intro a hf
    refine q_v hf (yv_move rfl) (.inl rfl) rfl rfl ?_; clear hf; clear a; intro a hf
    refine q_off hf (goff rfl rfl rfl (by first | assumption | rfl | (simp; done))) rfl rfl ?_; clear hf; clear a; intro a hf
    refine q_off hf (goff rfl rfl rfl (by first | assumption | rfl | (simp; done))) rfl rfl ?_; clear hf; clear a; intro a hf
    refine q_off hf (goff rfl rfl rfl (by first | assumption | rfl | (simp; done))) rfl rfl ?_; clear hf; clear a; intro a hf
    refine q_off hf (goff rfl rfl rfl (by first | assumption | rfl | (simp; done))) rfl rfl ?_; clear hf; clear a; intro a hf
    refine q_v hf (yv_pick_t rfl (by first | assumption | rfl | (simp; done)) rfl) (.inl rfl) rfl rfl ?_; clear hf; clear a; intro a hf
    refine q_v hf (yv_move rfl) (.inl rfl) rfl rfl ?_; clear hf; clear a; intro a hf
    refine q_off hf (goff rfl rfl rfl (by first | assumption | rfl | (simp; done))) rfl rfl ?_; clear hf; clear a; intro a hf
    refine q_off hf (goff rfl rfl rfl (by first | assumption | rfl | (simp; done))) rfl rfl ?_; clear hf; clear a; intro a hf
    refine q_off hf (goff rfl rfl rfl (by first | assumption | rfl | (simp; done))) rfl rfl ?_; clear hf; clear a; intro a hf
    refine q_off hf (goff rfl rfl rfl (by first | assumption | rfl | (simp; done))) rfl rfl ?_; clear hf; clear a; intro a hf
    refine q_v hf (yv_pick_t rfl (by first | assumption | rfl | (simp; done)) rfl) (.inl rfl) rfl rfl ?_; clear hf; clear a; intro a hf
    refine q_end fun w hh => ?_
    refine then_n ?_
    refine sy_ct hf rfl (by first | assumption | rfl | (simp; done)) ?_
    refine sy_seq ?_
    refine sy_ops ?_
    refine ops_v hf hh (yv_assign rfl) (.inl rfl) rfl rfl rfl ?_; clear hf; clear a; intro a hf
    refine ops_end ?_
    refine then_n ?_
    refine sy_ret ?_
    refine then_r ?_
    refine ret_r hf rfl rfl ?_
    refine ⟨congrArg Value.bool ?_, hh.ext⟩
    first
      | (refine okBar_no fun hV => ?_
         have h1 := hV.s1; have h2 := hV.s2; have h3 := hV.p1; have h4 := hV.p2; have h5 := hV.k1; have h6 := hV.k2; have h7 := hV.m1; have h8 := hV.m2; have h9 := hV.n
         have h10 := hpw h1 h2
         omega)
      | (refine okBar_no fun hV => ?_
         have hO := hV.sc s hms
         have h1 := hO.l1; have h2 := hO.l2; have h3 := hO.m1; have h4 := hO.m2; have h5 := hO.c1; have h6 := hO.c2
         omega)
      | (exact okBar_yes ⟨by omega, by omega, by omega, by omega, by omega, by omega, by omega, by omega, by omega, fun s hs => by
           obtain ⟨j, hj⟩ := List.getElem?_of_mem hs
           exact hq2 j s (by have := len_of hj; omega) hj⟩)
  · have hG2 := hg2; try simp only [gS] at hG2
    refine q_v hf (yv_fieldAddr Tryd.fo_24_1 rfl) (gon rfl rfl rfl (by first | assumption | rfl | (simp; done))) rfl rfl ?_; clear hf; clear a; intro a hf
    refine q_v hf (yv_load Tryd.sc_3 rfl (fun _ h => by first | exact h.at (i := 0) rfl | exact h.at (i := 1) rfl | exact h.at (i := 2) rfl | exact h.at (i := 3) rfl | exact h.old hb) (by first | rfl | assumption)) (gon rfl rfl rfl (by first | assumption | rfl | (simp; done))) rfl rfl ?_; clear hf; clear a; intro a hf
    refine q_callE hf Tryd.en_44 rfl rfl rfl (gon rfl rfl rfl (by first | assumption | rfl | (simp; done))) rfl (fun w hh => c44 _ _ _ _) ?_; clear hf; clear a; intro a hf
    refine q_v hf (yv_not rfl) (gon rfl rfl rfl (by first | assumption | rfl | (simp; done))) rfl rfl ?_; clear hf; clear a; intro a hf
    refine q_v hf (yv_pick_f rfl (by first | assumption | rfl | (simp; done)) rfl) (.inl rfl) rfl rfl ?_; clear hf; clear a; intro a hf
    refine q_v hf (yv_move rfl) (.inl rfl) rfl rfl ?_; clear hf; clear a; intro a hf
    refine guard_splitq hf (t := 15) rfl (fun hg4 => ?_) (fun hg4 => ?_)
    · have hG4 := hg4; try simp only [gS] at hG4
      refine q_off hf (goff rfl rfl rfl (by first | assumption | rfl | (simp; done))) rfl rfl ?_; clear hf; clear a; intro a hf
      refine q_off hf (goff rfl rfl rfl (by first | assumption | rfl | (simp; done))) rfl rfl ?_; clear hf; clear a; intro a hf
      refine q_off hf (goff rfl rfl rfl (by first | assumption | rfl | (simp; done))) rfl rfl ?_; clear hf; clear a; intro a hf
      refine q_off hf (goff rfl rfl rfl (by first | assumption | rfl | (simp; done))) rfl rfl ?_; clear hf; clear a; intro a hf
      refine q_off hf (goff rfl rfl rfl (by first | assumption | rfl | (simp; done))) rfl rfl ?_; clear hf; clear a; intro a hf
      refine q_off hf (goff rfl rfl rfl (by first | assumption | rfl | (simp; done))) rfl rfl ?_; clear hf; clear a; intro a hf
      refine q_off hf (goff rfl rfl rfl (by first | assumption | rfl | (simp; done))) rfl rfl ?_; clear hf; clear a; intro a hf
      refine q_off hf (goff rfl rfl rfl (by first | assumption | rfl | (simp; done))) rfl rfl ?_; clear hf; clear a; intro a hf
      refine q_v hf (yv_pick_t rfl (by first | assumption | rfl | (simp; done)) rfl) (.inl rfl) rfl rfl ?_; clear hf; clear a; intro a hf
      refine q_v hf (yv_move rfl) (.inl rfl) rfl rfl ?_; clear hf; clear a; intro a hf
      refine q_off hf (goff rfl rfl rfl (by first | assumption | rfl | (simp; done))) rfl rfl ?_; clear hf; clear a; intro a hf
      refine q_off hf (goff rfl rfl rfl (by first | assumption | rfl | (simp; done))) rfl rfl ?_; clear hf; clear a; intro a hf
      refine q_off hf (goff rfl rfl rfl (by first | assumption | rfl | (simp; done))) rfl rfl ?_; clear hf; clear a; intro a hf
      refine q_off hf (goff rfl rfl rfl (by first | assumption | rfl | (simp; done))) rfl rfl ?_; clear hf; clear a; intro a hf
      refine q_v hf (yv_pick_t rfl (by first | assumption | rfl | (simp; done)) rfl) (.inl rfl) rfl rfl ?_; clear hf; clear a; intro a hf
      refine q_v hf (yv_move rfl) (.inl rfl) rfl rfl ?_; clear hf; clear a; intro a hf
      refine q_off hf (goff rfl rfl rfl (by first | assumption | rfl | (simp; done))) rfl rfl ?_; clear hf; clear a; intro a hf
      refine q_off hf (goff rfl rfl rfl (by first | assumption | rfl | (simp; done))) rfl rfl ?_; clear hf; clear a; intro a hf
      refine q_off hf (goff rfl rfl rfl (by first | assumption | rfl | (simp; done))) rfl rfl ?_; clear hf; clear a; intro a hf
      refine q_off hf (goff rfl rfl rfl (by first | assumption | rfl | (simp; done))) rfl rfl ?_; clear hf; clear a; intro a hf
      refine q_v hf (yv_pick_t rfl (by first | assumption | rfl | (simp; done)) rfl) (.inl rfl) rfl rfl ?_; clear hf; clear a; intro a hf
      refine q_end fun w hh => ?_
      refine then_n ?_
      refine sy_ct hf rfl (by first | assumption | rfl | (simp; done)) ?_
      refine sy_seq ?_
      refine sy_ops ?_
      refine ops_v hf hh (yv_assign rfl) (.inl rfl) rfl rfl rfl ?_; clear hf; clear a; intro a hf
      refine ops_end ?_
      refine then_n ?_
      refine sy_ret ?_
      refine then_r ?_
      refine ret_r hf rfl rfl ?_
      refine ⟨congrArg Value.bool ?_, hh.ext⟩
      first
        | (refine okBar_no fun hV => ?_
           have h1 := hV.s1; have h2 := hV.s2; have h3 := hV.p1; have h4 := hV.p2; have h5 := hV.k1; have h6 := hV.k2; have h7 := hV.m1; have h8 := hV.m2; have h9 := hV.n
           have h10 := hpw h1 h2
           omega)
        | (refine okBar_no fun hV => ?_
           have hO := hV.sc s hms
           have h1 := hO.l1; have h2 := hO.l2; have h3 := hO.m1; have h4 := hO.m2; have h5 := hO.c1; have h6 := hO.c2
           omega)
        | (exact okBar_yes ⟨by omega, by omega, by omega, by omega, by omega, by omega, by omega, by omega, by omega, fun s hs => by
             obtain ⟨j, hj⟩ := List.getElem?_of_mem hs
             exact hq2 j s (by have := len_of hj; omega) hj⟩)
    · have hG4 := hg4; try simp only [gS] at hG4
      refine q_v hf (yv_fieldAddr Tryd.fo_24_2 rfl) (gon rfl rfl rfl (by first | assumption | rfl | (simp; done))) rfl rfl ?_; clear hf; clear a; intro a hf
      refine q_v hf (yv_load Tryd.sc_3 rfl (fun _ h => by first | exact h.at (i := 0) rfl | exact h.at (i := 1) rfl | exact h.at (i := 2) rfl | exact h.at (i := 3) rfl | exact h.old hb) (by first | rfl | assumption)) (gon rfl rfl rfl (by first | assumption | rfl | (simp; done))) rfl rfl ?_; clear hf; clear a; intro a hf
      refine q_v hf (yv_fieldAddr Tryd.fo_24_0 rfl) (gon rfl rfl rfl (by first | assumption | rfl | (simp; done))) rfl rfl ?_; clear hf; clear a; intro a hf
      refine q_v hf (yv_load Tryd.sc_3 rfl (fun _ h => by first | exact h.at (i := 0) rfl | exact h.at (i := 1) rfl | exact h.at (i := 2) rfl | exact h.at (i := 3) rfl | exact h.old hb) (by first | rfl | assumption)) (gon rfl rfl rfl (by first | assumption | rfl | (simp; done))) rfl rfl ?_; clear hf; clear a; intro a hf
      refine q_callE hf Tryd.en_56 rfl rfl rfl (gon rfl rfl rfl (by first | assumption | rfl | (simp; done))) rfl (fun w hh => c56 _ (by omega) (by omega) _) ?_; clear hf; clear a; intro a hf
      first | refine q_v hf (yv_sub rfl rfl (by omega) (by omega)) (gon rfl rfl rfl (by first | assumption | rfl | (simp; done))) rfl rfl ?_; clear hf; clear a; intro a hf | refine q_v hf (yv_bin rfl rfl rfl) (gon rfl rfl rfl (by first | assumption | rfl | (simp; done))) rfl rfl ?_; clear hf; clear a; intro a hf
      refine q_callE hf Tryd.en_44 rfl rfl rfl (gon rfl rfl rfl (by first | assumption | rfl | (simp; done))) rfl (fun w hh => c44 _ _ _ _) ?_; clear hf; clear a; intro a hf
      refine q_v hf (yv_not rfl) (gon rfl rfl rfl (by first | assumption | rfl | (simp; done))) rfl rfl ?_; clear hf; clear a; intro a hf
      refine q_v hf (yv_pick_f rfl (by first | assumption | rfl | (simp; done)) rfl) (.inl rfl) rfl rfl ?_; clear hf; clear a; intro a hf
      refine q_v hf (yv_move rfl) (.inl rfl) rfl rfl ?_; clear hf; clear a; intro a hf
      refine guard_splitq hf (t := 25) rfl (fun hg7 => ?_) (fun hg7 => ?_)
      · have hG7 := hg7; try simp only [gS] at hG7
        refine q_off hf (goff rfl rfl rfl (by first | assumption | rfl | (simp; done))) rfl rfl ?_; clear hf; clear a; intro a hf
        refine q_off hf (goff rfl rfl rfl (by first | assumption | rfl | (simp; done))) rfl rfl ?_; clear hf; clear a; intro a hf
        refine q_off hf (goff rfl rfl rfl (by first | assumption | rfl | (simp; done))) rfl rfl ?_; clear hf; clear a; intro a hf
        refine q_off hf (goff rfl rfl rfl (by first | assumption | rfl | (simp; done))) rfl rfl ?_; clear hf; clear a; intro a hf
        refine q_v hf (yv_pick_t rfl (by first | assumption | rfl | (simp; done)) rfl) (.inl rfl) rfl rfl ?_; clear hf; clear a; intro a hf
        refine q_v hf (yv_move rfl) (.inl rfl) rfl rfl ?_; clear hf; clear a; intro a hf
        refine q_off hf (goff rfl rfl rfl (by first | assumption | rfl | (simp; done))) rfl rfl ?_; clear hf; clear a; intro a hf
        refine q_off hf (goff rfl rfl rfl (by first | assumption | rfl | (simp; done))) rfl rfl ?_; clear hf; clear a; intro a hf
        refine q_off hf (goff rfl rfl rfl (by first | assumption | rfl | (simp; done))) rfl rfl ?_; clear hf; clear a; intro a hf
        refine q_off hf (goff rfl rfl rfl (by first | assumption | rfl | (simp; done))) rfl rfl ?_; clear hf; clear a; intro a hf
        refine q_v hf (yv_pick_t rfl (by first | assumption | rfl | (simp; done)) rfl) (.inl rfl) rfl rfl ?_; clear hf; clear a; intro a hf
        refine q_end fun w hh => ?_
        refine then_n ?_
        refine sy_ct hf rfl (by first | assumption | rfl | (simp; done)) ?_
        refine sy_seq ?_
        refine sy_ops ?_
        refine ops_v hf hh (yv_assign rfl) (.inl rfl) rfl rfl rfl ?_; clear hf; clear a; intro a hf
        refine ops_end ?_
        refine then_n ?_
        refine sy_ret ?_
        refine then_r ?_
        refine ret_r hf rfl rfl ?_
        refine ⟨congrArg Value.bool ?_, hh.ext⟩
        first
          | (refine okBar_no fun hV => ?_
             have h1 := hV.s1; have h2 := hV.s2; have h3 := hV.p1; have h4 := hV.p2; have h5 := hV.k1; have h6 := hV.k2; have h7 := hV.m1; have h8 := hV.m2; have h9 := hV.n
             have h10 := hpw h1 h2
             omega)
          | (refine okBar_no fun hV => ?_
             have hO := hV.sc s hms
             have h1 := hO.l1; have h2 := hO.l2; have h3 := hO.m1; have h4 := hO.m2; have h5 := hO.c1; have h6 := hO.c2
             omega)
          | (exact okBar_yes ⟨by omega, by omega, by omega, by omega, by omega, by omega, by omega, by omega, by omega, fun s hs => by
               obtain ⟨j, hj⟩ := List.getElem?_of_mem hs
               exact hq2 j s (by have := len_of hj; omega) hj⟩)
      · have hG7 := hg7; try simp only [gS] at hG7
        refine q_v hf (yv_fieldAddr Tryd.fo_24_3 rfl) (gon rfl rfl rfl (by first | assumption | rfl | (simp; done))) rfl rfl ?_; clear hf; clear a; intro a hf
        refine q_v hf (yv_load Tryd.sc_3 rfl (fun _ h => by first | exact h.at (i := 0) rfl | exact h.at (i := 1) rfl | exact h.at (i := 2) rfl | exact h.at (i := 3) rfl | exact h.old hb) (by first | rfl | assumption)) (gon rfl rfl rfl (by first | assumption | rfl | (simp; done))) rfl rfl ?_; clear hf; clear a; intro a hf
        refine q_callE hf Tryd.en_44 rfl rfl rfl (gon rfl rfl rfl (by first | assumption | rfl | (simp; done))) rfl (fun w hh => c44 _ _ _ _) ?_; clear hf; clear a; intro a hf
        refine q_v hf (yv_not rfl) (gon rfl rfl rfl (by first | assumption | rfl | (simp; done))) rfl rfl ?_; clear hf; clear a; intro a hf
        refine q_v hf (yv_pick_f rfl (by first | assumption | rfl | (simp; done)) rfl) (.inl rfl) rfl rfl ?_; clear hf; clear a; intro a hf
        refine q_v hf (yv_move rfl) (.inl rfl) rfl rfl ?_; clear hf; clear a; intro a hf
        refine guard_splitq hf (t := 31) rfl (fun hg9 => ?_) (fun hg9 => ?_)
        · have hG9 := hg9; try simp only [gS] at hG9
          refine q_off hf (goff rfl rfl rfl (by first | assumption | rfl | (simp; done))) rfl rfl ?_; clear hf; clear a; intro a hf
          refine q_off hf (goff rfl rfl rfl (by first | assumption | rfl | (simp; done))) rfl rfl ?_; clear hf; clear a; intro a hf
          refine q_off hf (goff rfl rfl rfl (by first | assumption | rfl | (simp; done))) rfl rfl ?_; clear hf; clear a; intro a hf
          refine q_off hf (goff rfl rfl rfl (by first | assumption | rfl | (simp; done))) rfl rfl ?_; clear hf; clear a; intro a hf
          refine q_v hf (yv_pick_t rfl (by first | assumption | rfl | (simp; done)) rfl) (.inl rfl) rfl rfl ?_; clear hf; clear a; intro a hf
          refine q_end fun w hh => ?_
          refine then_n ?_
          refine sy_ct hf rfl (by first | assumption | rfl | (simp; done)) ?_
          refine sy_seq ?_
          refine sy_ops ?_
          refine ops_v hf hh (yv_assign rfl) (.inl rfl) rfl rfl rfl ?_; clear hf; clear a; intro a hf
          refine ops_end ?_
          refine then_n ?_
          refine sy_ret ?_
          refine then_r ?_
          refine ret_r hf rfl rfl ?_
          refine ⟨congrArg Value.bool ?_, hh.ext⟩
          first
            | (refine okBar_no fun hV => ?_
               have h1 := hV.s1; have h2 := hV.s2; have h3 := hV.p1; have h4 := hV.p2; have h5 := hV.k1; have h6 := hV.k2; have h7 := hV.m1; have h8 := hV.m2; have h9 := hV.n
               have h10 := hpw h1 h2
               omega)
            | (refine okBar_no fun hV => ?_
               have hO := hV.sc s hms
               have h1 := hO.l1; have h2 := hO.l2; have h3 := hO.m1; have h4 := hO.m2; have h5 := hO.c1; have h6 := hO.c2
               omega)
            | (exact okBar_yes ⟨by omega, by omega, by omega, by omega, by omega, by omega, by omega, by omega, by omega, fun s hs => by
                 obtain ⟨j, hj⟩ := List.getElem?_of_mem hs
                 exact hq2 j s (by have := len_of hj; omega) hj⟩)
        · have hG9 := hg9; try simp only [gS] at hG9
          refine q_v hf (yv_fieldAddr Tryd.fo_24_4 rfl) (gon rfl rfl rfl (by first | assumption | rfl | (simp; done))) rfl rfl ?_; clear hf; clear a; intro a hf
          refine q_v hf (yv_load Tryd.sc_22 rfl (fun _ h => by first | exact h.at (i := 0) rfl | exact h.at (i := 1) rfl | exact h.at (i := 2) rfl | exact h.at (i := 3) rfl | exact h.old hb) (by first | rfl | assumption)) (gon rfl rfl rfl (by first | assumption | rfl | (simp; done))) rfl rfl ?_; clear hf; clear a; intro a hf
          refine q_v hf (yv_len Tryd.se_22 rfl) (gon rfl rfl rfl (by first | assumption | rfl | (simp; done))) rfl rfl ?_; clear hf; clear a; intro a hf
          refine q_v hf (yv_bin rfl rfl rfl) (gon rfl rfl rfl (by first | assumption | rfl | (simp; done))) rfl rfl ?_; clear hf; clear a; intro a hf
          refine q_v hf (yv_pick_f rfl (by first | assumption | rfl | (simp; done)) rfl) (.inl rfl) rfl rfl ?_; clear hf; clear a; intro a hf
          refine q_end fun w hh => ?_
          refine then_n ?_
          refine sy_cond hf rfl (fun hg11 => ?_) (fun hg11 => ?_)
          · have hG11 := hg11; try simp only [gS] at hG11
            refine sy_seq ?_
            refine sy_ops ?_
            refine ops_v hf hh (yv_assign rfl) (.inl rfl) rfl rfl rfl ?_; clear hf; clear a; intro a hf
            refine ops_end ?_
            refine then_n ?_
            refine sy_ret ?_
            refine then_r ?_
            refine ret_r hf rfl rfl ?_
            refine ⟨congrArg Value.bool ?_, hh.ext⟩
            first
              | (refine okBar_no fun hV => ?_
                 have h1 := hV.s1; have h2 := hV.s2; have h3 := hV.p1; have h4 := hV.p2; have h5 := hV.k1; have h6 := hV.k2; have h7 := hV.m1; have h8 := hV.m2; have h9 := hV.n
                 have h10 := hpw h1 h2
                 omega)
              | (refine okBar_no fun hV => ?_
                 have hO := hV.sc s hms
                 have h1 := hO.l1; have h2 := hO.l2; have h3 := hO.m1; have h4 := hO.m2; have h5 := hO.c1; have h6 := hO.c2
                 omega)
              | (exact okBar_yes ⟨by omega, by omega, by omega, by omega, by omega, by omega, by omega, by omega, by omega, fun s hs => by
                   obtain ⟨j, hj⟩ := List.getElem?_of_mem hs
                   exact hq2 j s (by have := len_of hj; omega) hj⟩)
          · have hG11 := hg11; try simp only [gS] at hG11
            refine sy_skip ?_
            refine then_n ?_
            refine sy_seq ?_
            refine sy_seq ?_
            refine sy_ops ?_
            refine ops_v hf hh (yv_assign rfl) (.inl rfl) rfl rfl rfl ?_; clear hf; clear a; intro a hf
            refine ops_end ?_
            refine then_n ?_
            refine sy_block ?_
            refine sy_loopF (σ := Nat) [2, 3, 4, 37, 38, 39, 40, 41, 42, 43, 44, 45, 46, 47, 48, 49, 50, 51, 52, 53, 54, 55, 56, 57, 58, 59, 60, 61, 62, 63, 64, 65, 66] (fun k => [(3, .int .i64 k)]) (fun k => k ≤ b.scenes.length ∧ ∀ j s, j < k → b.scenes[j]? = some s → OkS s) (fun k => b.scenes.length - k) (0) hf hh ?_ ?_ ?_
            · repeat' (first | exact True.intro | refine And.intro rfl ?_)
            · exact ⟨by omega, fun j s hj => by omega⟩
            · rintro k a w ⟨hq1, hq2⟩ hf hh
              refine sy_seq ?_
              refine sy_seq ?_
              refine sy_ops ?_
              refine ops_v hf hh (yv_move rfl) (.inl rfl) rfl rfl rfl ?_; clear hf; clear a; intro a hf
              refine ops_v hf hh (yv_fieldAddr Tryd.fo_24_4 rfl) (.inl rfl) rfl rfl rfl ?_; clear hf; clear a; intro a hf
              refine ops_v hf hh (yv_load Tryd.sc_22 rfl (fun _ h => by first | exact h.at (i := 0) rfl | exact h.at (i := 1) rfl | exact h.at (i := 2) rfl | exact h.at (i := 3) rfl | exact h.old hb) (by first | rfl | assumption)) (.inl rfl) rfl rfl rfl ?_; clear hf; clear a; intro a hf
              refine ops_v hf hh (yv_len Tryd.se_22 rfl) (.inl rfl) rfl rfl rfl ?_; clear hf; clear a; intro a hf
              refine ops_v hf hh (yv_bin rfl rfl rfl) (.inl rfl) rfl rfl rfl ?_; clear hf; clear a; intro a hf
              refine ops_end ?_
              refine then_n ?_
              refine sy_cond hf rfl (fun hg13 => ?_) (fun hg13 => ?_)
              · have hG13 := hg13; try simp only [gS] at hG13
                refine sy_skip ?_
                refine then_n ?_
                refine sy_seq ?_
                refine sy_block ?_
                refine sy_seq ?_
                obtain ⟨s, hs⟩ := scn_of (l := b.scenes) (i := k) (by omega)
                have hms := List.mem_of_getElem? hs
                obtain ⟨blk, off, c, T, fr, e, hb, hc⟩ := hS k s hs; cases e
                refine sy_ops ?_
                refine ops_v hf hh (yv_fieldAddr Tryd.fo_24_4 rfl) (.inl rfl) rfl rfl rfl ?_; clear hf; clear a; intro a hf
                refine ops_v hf hh (yv_load Tryd.sc_22 rfl (fun _ h => by first | exact h.at (i := 0) rfl | exact h.at (i := 1) rfl | exact h.at (i := 2) rfl | exact h.at (i := 3) rfl | exact h.old hb) (by first | rfl | assumption)) (.inl rfl) rfl rfl rfl ?_; clear hf; clear a; intro a hf
                refine ops_v hf hh (yv_move rfl) (.inl rfl) rfl rfl rfl ?_; clear hf; clear a; intro a hf
                refine ops_v hf hh (yv_indexAddr Tryd.se_22 rfl rfl (by omega) (by omega)) (.inl rfl) rfl rfl rfl ?_; clear hf; clear a; intro a hf
                refine ops_v hf hh (yv_loads Tryd.ag_39 rfl (fun _ h => by first | exact h.at (i := 0) rfl | exact h.at (i := 1) rfl | exact h.at (i := 2) rfl | exact h.at (i := 3) rfl | exact h.old hb) (by first | assumption | rfl)) (.inl rfl) rfl rfl rfl ?_; clear hf; clear a; intro a hf
                refine ops_alloc hf hh Tryd.ze_39 (.inl rfl) rfl ?_; clear hf hh; clear a; intro B4 a w hf hh
                first | refine ops_store (i := 0) hf hh rfl rfl rfl Tryd.sz_39 rfl rfl rfl (.inl rfl) fun w hh => ?_ | refine ops_store (i := 1) hf hh rfl rfl rfl Tryd.sz_39 rfl rfl rfl (.inl rfl) fun w hh => ?_ | refine ops_store (i := 2) hf hh rfl rfl rfl Tryd.sz_39 rfl rfl rfl (.inl rfl) fun w hh => ?_ | refine ops_store (i := 3) hf hh rfl rfl rfl Tryd.sz_39 rfl rfl rfl (.inl rfl) fun w hh => ?_
                refine ops_end ?_
                refine then_n ?_
                refine sy_seq ?_
                refine sy_ops ?_
                refine ops_v hf hh (yv_fieldAddr Tryd.fo_39_0 rfl) (.inl rfl) rfl rfl rfl ?_; clear hf; clear a; intro a hf
                refine ops_v hf hh (yv_load Tryd.sc_3 rfl (fun _ h => by first | exact h.at (i := 0) rfl | exact h.at (i := 1) rfl | exact h.at (i := 2) rfl | exact h.at (i := 3) rfl | exact h.old hb) (by first | rfl | assumption)) (.inl rfl) rfl rfl rfl ?_; clear hf; clear a; intro a hf
                refine ops_call hf Tryd.en_44 rfl rfl rfl (.inl rfl) rfl (c44 _ _ _ _) ?_; clear hf; clear a; intro v a w hR hf
                obtain ⟨rfl, hx⟩ := hR; replace hh := hh.more hx; clear hx
                refine ops_v hf hh (yv_not rfl) (.inl rfl) rfl rfl rfl ?_; clear hf; clear a; intro a hf
                refine ops_v hf hh (yv_move rfl) (.inl rfl) rfl rfl rfl ?_; clear hf; clear a; intro a hf
                refine guard_split hf (t := 53) rfl (fun hg15 => ?_) (fun hg15 => ?_)
                · have hG15 := hg15; try simp only [gS] at hG15
                  refine ops_off hf (goff rfl rfl rfl (by first | assumption | rfl | (simp; done))) rfl rfl ?_; clear hf; clear a; intro a hf
                  refine ops_off hf (goff rfl rfl rfl (by first | assumption | rfl | (simp; done))) rfl rfl ?_; clear hf; clear a; intro a hf
                  refine ops_off hf (goff rfl rfl rfl (by first | assumption | rfl | (simp; done))) rfl rfl ?_; clear hf; clear a; intro a hf
                  refine ops_off hf (goff rfl rfl rfl (by first | assumption | rfl | (simp; done))) rfl rfl ?_; clear hf; clear a; intro a hf
                  refine ops_off hf (goff rfl rfl rfl (by first | assumption | rfl | (simp; done))) rfl rfl ?_; clear hf; clear a; intro a hf
                  refine ops_off hf (goff rfl rfl rfl (by first | assumption | rfl | (simp; done))) rfl rfl ?_; clear hf; clear a; intro a hf
                  refine ops_v hf hh (yv_pick_t rfl (by first | assumption | rfl | (simp; done)) rfl) (.inl rfl) rfl rfl rfl ?_; clear hf; clear a; intro a hf
                  refine ops_v hf hh (yv_move rfl) (.inl rfl) rfl rfl rfl ?_; clear hf; clear a; intro a hf
                  refine ops_off hf (goff rfl rfl rfl (by first | assumption | rfl | (simp; done))) rfl rfl ?_; clear hf; clear a; intro a hf
                  refine ops_off hf (goff rfl rfl rfl (by first | assumption | rfl | (simp; done))) rfl rfl ?_; clear hf; clear a; intro a hf
                  refine ops_off hf (goff rfl rfl rfl (by first | assumption | rfl | (simp; done))) rfl rfl ?_; clear hf; clear a; intro a hf
                  refine ops_off hf (goff rfl rfl rfl (by first | assumption | rfl | (simp; done))) rfl rfl ?_; clear hf; clear a; intro a hf
                  refine ops_v hf hh (yv_pick_t rfl (by first | assumption | rfl | (simp; done)) rfl) (.inl rfl) rfl rfl rfl ?_; clear hf; clear a; intro a hf
                  refine ops_end ?_
                  refine then_n ?_
                  refine sy_ct hf rfl (by first | assumption | rfl | (simp; done)) ?_
                  refine sy_seq ?_
                  refine sy_ops ?_
                  refine ops_v hf hh (yv_assign rfl) (.inl rfl) rfl rfl rfl ?_; clear hf; clear a; intro a hf
                  refine ops_end ?_
                  refine then_n ?_
                  refine sy_ret ?_
                  refine blk_r ?_
                  refine then_r ?_
                  refine then_r ?_
                  refine blk_r ?_
                  refine then_r ?_
                  refine ret_r hf rfl rfl ?_
                  refine ⟨congrArg Value.bool ?_, hh.ext⟩
                  first
                    | (refine okBar_no fun hV => ?_
                       have h1 := hV.s1; have h2 := hV.s2; have h3 := hV.p1; have h4 := hV.p2; have h5 := hV.k1; have h6 := hV.k2; have h7 := hV.m1; have h8 := hV.m2; have h9 := hV.n
                       have h10 := hpw h1 h2
                       omega)
                    | (refine okBar_no fun hV => ?_
                       have hO := hV.sc s hms
                       have h1 := hO.l1; have h2 := hO.l2; have h3 := hO.m1; have h4 := hO.m2; have h5 := hO.c1; have h6 := hO.c2
                       omega)
                    | (exact okBar_yes ⟨by omega, by omega, by omega, by omega, by omega, by omega, by omega, by omega, by omega, fun s hs => by
                         obtain ⟨j, hj⟩ := List.getElem?_of_mem hs
                         exact hq2 j s (by have := len_of hj; omega) hj⟩)
                · have hG15 := hg15; try simp only [gS] at hG15
                  refine ops_v hf hh (yv_fieldAddr Tryd.fo_39_1 rfl) (gon rfl rfl rfl (by first | assumption | rfl | (simp; done))) rfl rfl rfl ?_; clear hf; clear a; intro a hf
                  refine ops_v hf hh (yv_load Tryd.sc_3 rfl (fun _ h => by first | exact h.at (i := 0) rfl | exact h.at (i := 1) rfl | exact h.at (i := 2) rfl | exact h.at (i := 3) rfl | exact h.old hb) (by first | rfl | assumption)) (gon rfl rfl rfl (by first | assumption | rfl | (simp; done))) rfl rfl rfl ?_; clear hf; clear a; intro a hf
                  refine ops_v hf hh (yv_fieldAddr Tryd.fo_39_0 rfl) (gon rfl rfl rfl (by first | assumption | rfl | (simp; done))) rfl rfl rfl ?_; clear hf; clear a; intro a hf
                  refine ops_v hf hh (yv_load Tryd.sc_3 rfl (fun _ h => by first | exact h.at (i := 0) rfl | exact h.at (i := 1) rfl | exact h.at (i := 2) rfl | exact h.at (i := 3) rfl | exact h.old hb) (by first | rfl | assumption)) (gon rfl rfl rfl (by first | assumption | rfl | (simp; done))) rfl rfl rfl ?_; clear hf; clear a; intro a hf
                  refine ops_call hf Tryd.en_44 rfl rfl rfl (gon rfl rfl rfl (by first | assumption | rfl | (simp; done))) rfl (c44 _ _ _ _) ?_; clear hf; clear a; intro v a w hR hf
                  obtain ⟨rfl, hx⟩ := hR; replace hh := hh.more hx; clear hx
                  refine ops_v hf hh (yv_not rfl) (gon rfl rfl rfl (by first | assumption | rfl | (simp; done))) rfl rfl rfl ?_; clear hf; clear a; intro a hf
                  refine ops_v hf hh (yv_pick_f rfl (by first | assumption | rfl | (simp; done)) rfl) (.inl rfl) rfl rfl rfl ?_; clear hf; clear a; intro a hf
                  refine ops_v hf hh (yv_move rfl) (.inl rfl) rfl rfl rfl ?_; clear hf; clear a; intro a hf
                  refine guard_split hf (t := 61) rfl (fun hg17 => ?_) (fun hg17 => ?_)
                  · have hG17 := hg17; try simp only [gS] at hG17
                    refine ops_off hf (goff rfl rfl rfl (by first | assumption | rfl | (simp; done))) rfl rfl ?_; clear hf; clear a; intro a hf
                    refine ops_off hf (goff rfl rfl rfl (by first | assumption | rfl | (simp; done))) rfl rfl ?_; clear hf; clear a; intro a hf
                    refine ops_off hf (goff rfl rfl rfl (by first | assumption | rfl | (simp; done))) rfl rfl ?_; clear hf; clear a; intro a hf
                    refine ops_off hf (goff rfl rfl rfl (by first | assumption | rfl | (simp; done))) rfl rfl ?_; clear hf; clear a; intro a hf
                    refine ops_v hf hh (yv_pick_t rfl (by first | assumption | rfl | (simp; done)) rfl) (.inl rfl) rfl rfl rfl ?_; clear hf; clear a; intro a hf
                    refine ops_end ?_
                    refine then_n ?_
                    refine sy_ct hf rfl (by first | assumption | rfl | (simp; done)) ?_
                    refine sy_seq ?_
                    refine sy_ops ?_
                    refine ops_v hf hh (yv_assign rfl) (.inl rfl) rfl rfl rfl ?_; clear hf; clear a; intro a hf
                    refine ops_end ?_
                    refine then_n ?_
                    refine sy_ret ?_
                    refine blk_r ?_
                    refine then_r ?_
                    refine then_r ?_
                    refine blk_r ?_
                    refine then_r ?_
                    refine ret_r hf rfl rfl ?_
                    refine ⟨congrArg Value.bool ?_, hh.ext⟩
                    first
                      | (refine okBar_no fun hV => ?_
                         have h1 := hV.s1; have h2 := hV.s2; have h3 := hV.p1; have h4 := hV.p2; have h5 := hV.k1; have h6 := hV.k2; have h7 := hV.m1; have h8 := hV.m2; have h9 := hV.n
                         have h10 := hpw h1 h2
                         omega)
                      | (refine okBar_no fun hV => ?_
                         have hO := hV.sc s hms
                         have h1 := hO.l1; have h2 := hO.l2; have h3 := hO.m1; have h4 := hO.m2; have h5 := hO.c1; have h6 := hO.c2
                         omega)
                      | (exact okBar_yes ⟨by omega, by omega, by omega, by omega, by omega, by omega, by omega, by omega, by omega, fun s hs => by
                           obtain ⟨j, hj⟩ := List.getElem?_of_mem hs
                           exact hq2 j s (by have := len_of hj; omega) hj⟩)
                  · have hG17 := hg17; try simp only [gS] at hG17
                    refine ops_v hf hh (yv_fieldAddr Tryd.fo_39_2 rfl) (gon rfl rfl rfl (by first | assumption | rfl | (simp; done))) rfl rfl rfl ?_; clear hf; clear a; intro a hf
                    refine ops_v hf hh (yv_load Tryd.sc_3 rfl (fun _ h => by first | exact h.at (i := 0) rfl | exact h.at (i := 1) rfl | exact h.at (i := 2) rfl | exact h.at (i := 3) rfl | exact h.old hb) (by first | rfl | assumption)) (gon rfl rfl rfl (by first | assumption | rfl | (simp; done))) rfl rfl rfl ?_; clear hf; clear a; intro a hf
                    refine ops_call hf Tryd.en_44 rfl rfl rfl (gon rfl rfl rfl (by first | assumption | rfl | (simp; done))) rfl (c44 _ _ _ _) ?_; clear hf; clear a; intro v a w hR hf
                    obtain ⟨rfl, hx⟩ := hR; replace hh := hh.more hx; clear hx
                    refine ops_v hf hh (yv_not rfl) (gon rfl rfl rfl (by first | assumption | rfl | (simp; done))) rfl rfl rfl ?_; clear hf; clear a; intro a hf
                    refine ops_v hf hh (yv_pick_f rfl (by first | assumption | rfl | (simp; done)) rfl) (.inl rfl) rfl rfl rfl ?_; clear hf; clear a; intro a hf
                    refine ops_end ?_
                    refine then_n ?_
                    refine sy_cond hf rfl (fun hg19 => ?_) (fun hg19 => ?_)
                    · have hG19 := hg19; try simp only [gS] at hG19
                      refine sy_seq ?_
                      refine sy_ops ?_
                      refine ops_v hf hh (yv_assign rfl) (.inl rfl) rfl rfl rfl ?_; clear hf; clear a; intro a hf
                      refine ops_end ?_
                      refine then_n ?_
                      refine sy_ret ?_
                      refine blk_r ?_
                      refine then_r ?_
                      refine then_r ?_
                      refine blk_r ?_
                      refine then_r ?_
                      refine ret_r hf rfl rfl ?_
                      refine ⟨congrArg Value.bool ?_, hh.ext⟩
                      first
                        | (refine okBar_no fun hV => ?_
                           have h1 := hV.s1; have h2 := hV.s2; have h3 := hV.p1; have h4 := hV.p2; have h5 := hV.k1; have h6 := hV.k2; have h7 := hV.m1; have h8 := hV.m2; have h9 := hV.n
                           have h10 := hpw h1 h2
                           omega)
                        | (refine okBar_no fun hV => ?_
                           have hO := hV.sc s hms
                           have h1 := hO.l1; have h2 := hO.l2; have h3 := hO.m1; have h4 := hO.m2; have h5 := hO.c1; have h6 := hO.c2
                           omega)
                        | (exact okBar_yes ⟨by omega, by omega, by omega, by omega, by omega, by omega, by omega, by omega, by omega, fun s hs => by
                             obtain ⟨j, hj⟩ := List.getElem?_of_mem hs
                             exact hq2 j s (by have := len_of hj; omega) hj⟩)
                    · have hG19 := hg19; try simp only [gS] at hG19
                      refine sy_skip ?_
                      refine blk_n ?_
                      refine then_n ?_
                      refine sy_ops ?_
                      refine ops_v hf hh (yv_move rfl) (.inl rfl) rfl rfl rfl ?_; clear hf; clear a; intro a hf
                      first | refine ops_v hf hh (yv_add rfl rfl (by omega) (by omega)) (.inl rfl) rfl rfl rfl ?_; clear hf; clear a; intro a hf | refine ops_v hf hh (yv_bin rfl rfl rfl) (.inl rfl) rfl rfl rfl ?_; clear hf; clear a; intro a hf
                      refine ops_v hf hh (yv_assign rfl) (.inl rfl) rfl rfl rfl ?_; clear hf; clear a; intro a hf
                      refine ops_end ?_
                      refine then_n ?_
                      refine ⟨k + 1, ⟨⟨by omega, fun j t hj ht => ?_⟩, hf.head ⟨rfl, True.intro⟩ (Keep.cons rfl (Keep.cons rfl (Keep.cons rfl (Keep.cons rfl (Keep.cons rfl (Keep.cons rfl (Keep.cons rfl (Keep.cons rfl (Keep.cons rfl (Keep.cons rfl (Keep.cons rfl (Keep.cons rfl (Keep.cons rfl (Keep.cons rfl (Keep.cons rfl (Keep.cons rfl (Keep.cons rfl (Keep.cons rfl (Keep.cons rfl (Keep.cons rfl (Keep.cons rfl (Keep.cons rfl (Keep.cons rfl (Keep.cons rfl (Keep.cons rfl (Keep.cons rfl (Keep.cons rfl (Keep.cons rfl (Keep.cons rfl (Keep.cons rfl (Keep.cons rfl (Keep.cons rfl (Keep.app rfl (Keep.rm rfl Keep.base)))))))))))))))))))))))))))))))))), hh.less (.cons _ (List.Sublist.refl _))⟩, by omega⟩
                      by_cases hjk : j = k
                      · subst hjk; rw [hs] at ht; cases ht; exact ⟨by omega, by omega, by omega, by omega, by omega, by omega⟩
                      · exact hq2 j t (by omega) ht
              · have hG13 := hg13; try simp only [gS] at hG13
                refine sy_exit ?_
                refine then_e ?_
                refine then_e ?_
                refine blk_e ?_
                refine then_n ?_
                refine sy_seq ?_
                refine sy_ops ?_
                refine ops_v hf hh (yv_assign rfl) (.inl rfl) rfl rfl rfl ?_; clear hf; clear a; intro a hf
                refine ops_end ?_
                refine then_n ?_
                refine sy_ret ?_
                refine ret_r hf rfl rfl ?_
                refine ⟨congrArg Value.bool ?_, hh.ext⟩
                first
                  | (refine okBar_no fun hV => ?_
                     have h1 := hV.s1; have h2 := hV.s2; have h3 := hV.p1; have h4 := hV.p2; have h5 := hV.k1; have h6 := hV.k2; have h7 := hV.m1; have h8 := hV.m2; have h9 := hV.n
                     have h10 := hpw h1 h2
                     omega)
                  | (refine okBar_no fun hV => ?_
                     have hO := hV.sc s hms
                     have h1 := hO.l1; have h2 := hO.l2; have h3 := hO.m1; have h4 := hO.m2; have h5 := hO.c1; have h6 := hO.c2
                     omega)
                  | (exact okBar_yes ⟨by omega, by omega, by omega, by omega, by omega, by omega, by omega, by omega, by omega, fun s hs => by
                       obtain ⟨j, hj⟩ := List.getElem?_of_mem hs
                       exact hq2 j s (by have := len_of hj; omega) hj⟩)
theorem isPlanI_nn {b : BarD} {p : Int} (h : isPlanI b p = true) : 0 ≤ p := by simp [isPlanI] at h; exact h.1
theorem c39i (b : BarD) (sa : Option Addr) (sc : Nat) (p : Int) (w : World) (hV : Valid b) (hS : ScAt w sa b.scenes) (h0 : 0 ≤ p) (hp : p ≤ 9223372036854775807) :
    Calls Tryd.prog 39 #[barV b sa sc, .int .i64 p] w (Ret fun v w' => v = .int .i64 (taken b p.toNat) ∧ Ext [] w w') := by
  obtain ⟨q, rfl⟩ := Int.eq_ofNat_of_zero_le h0
  exact c39 b sa sc q w hV hS (by omega)
theorem c45i (b : BarD) (sa : Option Addr) (sc : Nat) (p i : Int) (s : Scn) (w : World) (hV : Valid b) (hs : b.scenes[i.toNat]? = some s) (hi : 0 ≤ i) (hS : ScAt w sa b.scenes) (h0 : 0 ≤ p) (hp : p ≤ 9223372036854775807) :
    Calls Tryd.prog 45 #[barV b sa sc, .int .i64 p, .int .i64 i] w (Ret fun v w' => v = .tuple #[.int .i64 (encX (best b p.toNat s)), .int .i64 (encY (best b p.toNat s))] ∧ Ext [] w w') := by
  obtain ⟨q, rfl⟩ := Int.eq_ofNat_of_zero_le h0
  obtain ⟨j, rfl⟩ := Int.eq_ofNat_of_zero_le hi
  have := hV.p1
  exact c45 b sa sc q j s w hs hS (by omega) (by omega) hV.p2 hV.s1 hV.s2
/-- What Best hands back. -/
def bestV (b : BarD) (p i : Int) : Value :=
  if okBar b then
    if isPlanI b p && decide (0 ≤ i) then
      match b.scenes[i.toNat]? with
      | none => .tuple #[.int .i64 0, .int .i64 0, .int .i64 2]
      | some s => match best b p.toNat s with
        | none => .tuple #[.int .i64 0, .int .i64 0, .int .i64 4]
        | some x => .tuple #[.int .i64 x.1, .int .i64 x.2, .int .i64 0]
    else .tuple #[.int .i64 0, .int .i64 0, .int .i64 2]
  else .tuple #[.int .i64 0, .int .i64 0, .int .i64 1]
theorem bestV_arg {b : BarD} {p i : Int} (h : okBar b = false) : bestV b p i = .tuple #[.int .i64 0, .int .i64 0, .int .i64 1] := by simp [bestV, h]
theorem bestV_plan {b : BarD} {p i : Int} (h : okBar b = true) (hp : isPlanI b p = false) : bestV b p i = .tuple #[.int .i64 0, .int .i64 0, .int .i64 2] := by simp [bestV, h, hp]
theorem bestV_scene {b : BarD} {p i : Int} (h : okBar b = true) (hp : isPlanI b p = true) (hi : i < 0 ∨ (b.scenes.length : Int) - 1 < i) : bestV b p i = .tuple #[.int .i64 0, .int .i64 0, .int .i64 2] := by
  by_cases h0 : 0 ≤ i
  · have : b.scenes[i.toNat]? = none := List.getElem?_eq_none (by omega)
    simp [bestV, h, hp, h0, this]
  · simp [bestV, h, hp, h0]
theorem bestV_none {b : BarD} {p i : Int} {s : Scn} (h : okBar b = true) (hp : isPlanI b p = true) (hs : b.scenes[i.toNat]? = some s) (h0 : 0 ≤ i) (hx : encX (best b p.toNat s) < 0) : bestV b p i = .tuple #[.int .i64 0, .int .i64 0, .int .i64 4] := by
  have : best b p.toNat s = none := by
    cases hb : best b p.toNat s with
    | none => rfl
    | some x => rw [hb] at hx; simp only [encX] at hx; omega
  simp [bestV, h, hp, h0, hs, this]
theorem bestV_some {b : BarD} {p i : Int} {s : Scn} (h : okBar b = true) (hp : isPlanI b p = true) (hs : b.scenes[i.toNat]? = some s) (h0 : 0 ≤ i) (hx : 0 ≤ encX (best b p.toNat s)) : bestV b p i = .tuple #[.int .i64 (encX (best b p.toNat s)), .int .i64 (encY (best b p.toNat s)), .int .i64 0] := by
  obtain ⟨x, hb⟩ := enc_some hx
  simp [bestV, h, hp, h0, hs, hb, encX, encY]
theorem c14 (b : BarD) (sa : Option Addr) (sc : Nat) (p : Int) (w : World) (hS : ScAt w sa b.scenes) (h1 : p ≤ 9223372036854775807) :
    Calls Tryd.prog 14 #[barV b sa sc, .int .i64 p] w (Ret fun v w' => v = .tuple #[.int .i64 (if okBar b && isPlanI b p then taken b p.toNat else 0), .int .i64 (if okBar b then if isPlanI b p then 0 else 2 else 1)] ∧ Ext [] w w') := by
  refine calls_of Tryd.func14 rfl rfl (fun a hf => ?_)
  have hh := Hp.init w []
  refine sy_seq ?_
  refine sy_ops ?_
  refine ops_box hf hh rfl (.inl rfl) rfl ?_; clear hf hh; clear a; intro B2 a w hf hh
  refine ops_v hf hh (yv_assign rfl) (.inl rfl) rfl rfl rfl ?_; clear hf; clear a; intro a hf
  refine ops_v hf hh (yv_assign rfl) (.inl rfl) rfl rfl rfl ?_; clear hf; clear a; intro a hf
  refine ops_end ?_
  refine then_n ?_
  refine sy_seq ?_
  refine sy_seq ?_
  refine sy_ops ?_
  refine ops_v hf hh (yv_loads Tryd.ag_24 rfl (fun _ h => by first | exact h.at (i := 0) rfl | exact h.at (i := 1) rfl | exact h.at (i := 2) rfl | exact h.at (i := 3) rfl) (by first | assumption | rfl)) (.inl rfl) rfl rfl rfl ?_; clear hf; clear a; intro a hf
  refine ops_call hf Tryd.en_28 rfl rfl rfl (.inl rfl) rfl (c28 b sa sc _ (hS.ext hh.ext)) ?_; clear hf; clear a; intro v a w hR hf
  obtain ⟨rfl, hx⟩ := hR; replace hh := hh.more hx; clear hx
  refine ops_v hf hh (yv_not rfl) (.inl rfl) rfl rfl rfl ?_; clear hf; clear a; intro a hf
  refine ops_end ?_
  refine then_n ?_
  refine sy_cond hf rfl (fun hg2 => ?_) (fun hg2 => ?_)
  · have hG2 := hg2; try simp only [gS] at hG2
    refine sy_seq ?_
    refine sy_ops ?_
    refine ops_v hf hh (yv_assign rfl) (.inl rfl) rfl rfl rfl ?_; clear hf; clear a; intro a hf
    refine ops_v hf hh (yv_assign rfl) (.inl rfl) rfl rfl rfl ?_; clear hf; clear a; intro a hf
    refine ops_end ?_
    refine then_n ?_
    refine sy_ret ?_
    refine then_r ?_
    refine ret_r hf rfl rfl ?_
    refine ⟨?_, hh.ext⟩
    simp [tup, *]
  · have hG2 := hg2; try simp only [gS] at hG2
    refine sy_skip ?_
    refine then_n ?_
    refine sy_seq ?_
    refine sy_seq ?_
    refine sy_ops ?_
    refine ops_v hf hh (yv_loads Tryd.ag_24 rfl (fun _ h => by first | exact h.at (i := 0) rfl | exact h.at (i := 1) rfl | exact h.at (i := 2) rfl | exact h.at (i := 3) rfl) (by first | assumption | rfl)) (.inl rfl) rfl rfl rfl ?_; clear hf; clear a; intro a hf
    refine ops_v hf hh (yv_move rfl) (.inl rfl) rfl rfl rfl ?_; clear hf; clear a; intro a hf
    refine ops_call hf Tryd.en_38 rfl rfl rfl (.inl rfl) rfl (c38 b sa sc p _ ((okBar_iff b).1 (by assumption)) h1) ?_; clear hf; clear a; intro v a w hR hf
    obtain ⟨rfl, hx⟩ := hR; replace hh := hh.more hx; clear hx
    refine ops_v hf hh (yv_not rfl) (.inl rfl) rfl rfl rfl ?_; clear hf; clear a; intro a hf
    refine ops_end ?_
    refine then_n ?_
    refine sy_cond hf rfl (fun hg4 => ?_) (fun hg4 => ?_)
    · have hG4 := hg4; try simp only [gS] at hG4
      refine sy_seq ?_
      refine sy_ops ?_
      refine ops_v hf hh (yv_assign rfl) (.inl rfl) rfl rfl rfl ?_; clear hf; clear a; intro a hf
      refine ops_v hf hh (yv_assign rfl) (.inl rfl) rfl rfl rfl ?_; clear hf; clear a; intro a hf
      refine ops_end ?_
      refine then_n ?_
      refine sy_ret ?_
      refine then_r ?_
      refine ret_r hf rfl rfl ?_
      refine ⟨?_, hh.ext⟩
      simp [tup, *]
    · have hG4 := hg4; try simp only [gS] at hG4
      refine sy_skip ?_
      refine then_n ?_
      refine sy_seq ?_
      refine sy_ops ?_
      refine ops_v hf hh (yv_loads Tryd.ag_24 rfl (fun _ h => by first | exact h.at (i := 0) rfl | exact h.at (i := 1) rfl | exact h.at (i := 2) rfl | exact h.at (i := 3) rfl) (by first | assumption | rfl)) (.inl rfl) rfl rfl rfl ?_; clear hf; clear a; intro a hf
      refine ops_v hf hh (yv_move rfl) (.inl rfl) rfl rfl rfl ?_; clear hf; clear a; intro a hf
      refine ops_call hf Tryd.en_39 rfl rfl rfl (.inl rfl) rfl (c39i b sa sc p _ ((okBar_iff b).1 (by assumption)) (hS.ext hh.ext) (isPlanI_nn (by assumption)) h1) ?_; clear hf; clear a; intro v a w hR hf
      obtain ⟨rfl, hx⟩ := hR; replace hh := hh.more hx; clear hx
      refine ops_v hf hh (yv_assign rfl) (.inl rfl) rfl rfl rfl ?_; clear hf; clear a; intro a hf
      refine ops_v hf hh (yv_assign rfl) (.inl rfl) rfl rfl rfl ?_; clear hf; clear a; intro a hf
      refine ops_end ?_
      refine then_n ?_
      refine sy_ret ?_
      refine ret_r hf rfl rfl ?_
      refine ⟨?_, hh.ext⟩
      simp [tup, *]
theorem c16 (b : BarD) (sa : Option Addr) (sc : Nat) (p i : Int) (w : World) (hS : ScAt w sa b.scenes) (h1 : p ≤ 9223372036854775807) :
    Calls Tryd.prog 16 #[barV b sa sc, .int .i64 p, .int .i64 i] w (Ret fun v w' => v = bestV b p i ∧ Ext [] w w') := by
  refine calls_of Tryd.func16 rfl rfl (fun a hf => ?_)
  have hh := Hp.init w []
  refine sy_seq ?_
  refine sy_ops ?_
  refine ops_box hf hh rfl (.inl rfl) rfl ?_; clear hf hh; clear a; intro B3 a w hf hh
  refine ops_v hf hh (yv_assign rfl) (.inl rfl) rfl rfl rfl ?_; clear hf; clear a; intro a hf
  refine ops_v hf hh (yv_assign rfl) (.inl rfl) rfl rfl rfl ?_; clear hf; clear a; intro a hf
  refine ops_v hf hh (yv_assign rfl) (.inl rfl) rfl rfl rfl ?_; clear hf; clear a; intro a hf
  refine ops_end ?_
  refine then_n ?_
  refine sy_seq ?_
  refine sy_seq ?_
  refine sy_ops ?_
  refine ops_v hf hh (yv_loads Tryd.ag_24 rfl (fun _ h => by first | exact h.at (i := 0) rfl | exact h.at (i := 1) rfl | exact h.at (i := 2) rfl | exact h.at (i := 3) rfl) (by first | assumption | rfl)) (.inl rfl) rfl rfl rfl ?_; clear hf; clear a; intro a hf
  refine ops_call hf Tryd.en_28 rfl rfl rfl (.inl rfl) rfl (c28 b sa sc _ (hS.ext hh.ext)) ?_; clear hf; clear a; intro v a w hR hf
  obtain ⟨rfl, hx⟩ := hR; replace hh := hh.more hx; clear hx
  refine ops_v hf hh (yv_not rfl) (.inl rfl) rfl rfl rfl ?_; clear hf; clear a; intro a hf
  refine ops_end ?_
  refine then_n ?_
  refine sy_cond hf rfl (fun hg2 => ?_) (fun hg2 => ?_)
  · have hG2 := hg2; try simp only [gS] at hG2
    refine sy_seq ?_
    refine sy_ops ?_
    refine ops_v hf hh (yv_assign rfl) (.inl rfl) rfl rfl rfl ?_; clear hf; clear a; intro a hf
    refine ops_v hf hh (yv_assign rfl) (.inl rfl) rfl rfl rfl ?_; clear hf; clear a; intro a hf
    refine ops_v hf hh (yv_assign rfl) (.inl rfl) rfl rfl rfl ?_; clear hf; clear a; intro a hf
    refine ops_end ?_
    refine then_n ?_
    refine sy_ret ?_
    refine then_r ?_
    refine ret_r hf rfl rfl ?_
    refine ⟨?_, hh.ext⟩
    first
      | (rw [bestV_arg (b := b) (by assumption)]; rfl)
      | (rw [bestV_plan (b := b) (p := p) (by assumption) (by assumption)]; rfl)
      | (rw [bestV_scene (b := b) (p := p) (i := i) (by assumption) (by assumption) (by omega)]; rfl)
      | (rw [bestV_none (b := b) (p := p) (i := i) (by assumption) (by assumption) hs (by omega) (by assumption)]; rfl)
      | (rw [bestV_some (b := b) (p := p) (i := i) (by assumption) (by assumption) hs (by omega) (by assumption)]; rfl)
  · have hG2 := hg2; try simp only [gS] at hG2
    refine sy_skip ?_
    refine then_n ?_
    refine sy_seq ?_
    refine sy_seq ?_
    have hVn := ((okBar_iff b).1 (by assumption)).n
    refine sy_ops ?_
    refine ops_v hf hh (yv_loads Tryd.ag_24 rfl (fun _ h => by first | exact h.at (i := 0) rfl | exact h.at (i := 1) rfl | exact h.at (i := 2) rfl | exact h.at (i := 3) rfl) (by first | assumption | rfl)) (.inl rfl) rfl rfl rfl ?_; clear hf; clear a; intro a hf
    refine ops_v hf hh (yv_move rfl) (.inl rfl) rfl rfl rfl ?_; clear hf; clear a; intro a hf
    refine ops_call hf Tryd.en_38 rfl rfl rfl (.inl rfl) rfl (c38 b sa sc p _ ((okBar_iff b).1 (by assumption)) h1) ?_; clear hf; clear a; intro v a w hR hf
    obtain ⟨rfl, hx⟩ := hR; replace hh := hh.more hx; clear hx
    refine ops_v hf hh (yv_not rfl) (.inl rfl) rfl rfl rfl ?_; clear hf; clear a; intro a hf
    refine ops_v hf hh (yv_move rfl) (.inl rfl) rfl rfl rfl ?_; clear hf; clear a; intro a hf
    refine guard_split hf (t := 18) rfl (fun hg4 => ?_) (fun hg4 => ?_)
    · have hG4 := hg4; try simp only [gS] at hG4
      refine ops_off hf (goff rfl rfl rfl (by first | assumption | rfl | (simp; done))) rfl rfl ?_; clear hf; clear a; intro a hf
      refine ops_off hf (goff rfl rfl rfl (by first | assumption | rfl | (simp; done))) rfl rfl ?_; clear hf; clear a; intro a hf
      refine ops_off hf (goff rfl rfl rfl (by first | assumption | rfl | (simp; done))) rfl rfl ?_; clear hf; clear a; intro a hf
      refine ops_off hf (goff rfl rfl rfl (by first | assumption | rfl | (simp; done))) rfl rfl ?_; clear hf; clear a; intro a hf
      refine ops_off hf (goff rfl rfl rfl (by first | assumption | rfl | (simp; done))) rfl rfl ?_; clear hf; clear a; intro a hf
      refine ops_off hf (goff rfl rfl rfl (by first | assumption | rfl | (simp; done))) rfl rfl ?_; clear hf; clear a; intro a hf
      refine ops_off hf (goff rfl rfl rfl (by first | assumption | rfl | (simp; done))) rfl rfl ?_; clear hf; clear a; intro a hf
      refine ops_v hf hh (yv_pick_t rfl (by first | assumption | rfl | (simp; done)) rfl) (.inl rfl) rfl rfl rfl ?_; clear hf; clear a; intro a hf
      refine ops_end ?_
      refine then_n ?_
      refine sy_ct hf rfl (by first | assumption | rfl | (simp; done)) ?_
      refine sy_seq ?_
      refine sy_ops ?_
      refine ops_v hf hh (yv_assign rfl) (.inl rfl) rfl rfl rfl ?_; clear hf; clear a; intro a hf
      refine ops_v hf hh (yv_assign rfl) (.inl rfl) rfl rfl rfl ?_; clear hf; clear a; intro a hf
      refine ops_v hf hh (yv_assign rfl) (.inl rfl) rfl rfl rfl ?_; clear hf; clear a; intro a hf
      refine ops_end ?_
      refine then_n ?_
      refine sy_ret ?_
      refine then_r ?_
      refine ret_r hf rfl rfl ?_
      refine ⟨?_, hh.ext⟩
      first
        | (rw [bestV_arg (b := b) (by assumption)]; rfl)
        | (rw [bestV_plan (b := b) (p := p) (by assumption) (by assumption)]; rfl)
        | (rw [bestV_scene (b := b) (p := p) (i := i) (by assumption) (by assumption) (by omega)]; rfl)
        | (rw [bestV_none (b := b) (p := p) (i := i) (by assumption) (by assumption) hs (by omega) (by assumption)]; rfl)
        | (rw [bestV_some (b := b) (p := p) (i := i) (by assumption) (by assumption) hs (by omega) (by assumption)]; rfl)
    · have hG4 := hg4; try simp only [gS] at hG4
      refine ops_v hf hh (yv_move rfl) (gon rfl rfl rfl (by first | assumption | rfl | (simp; done))) rfl rfl rfl ?_; clear hf; clear a; intro a hf
      refine ops_v hf hh (yv_fieldAddr Tryd.fo_24_4 rfl) (gon rfl rfl rfl (by first | assumption | rfl | (simp; done))) rfl rfl rfl ?_; clear hf; clear a; intro a hf
      refine ops_v hf hh (yv_load Tryd.sc_22 rfl (fun _ h => by first | exact h.at (i := 0) rfl | exact h.at (i := 1) rfl | exact h.at (i := 2) rfl | exact h.at (i := 3) rfl) (by first | rfl | assumption)) (gon rfl rfl rfl (by first | assumption | rfl | (simp; done))) rfl rfl rfl ?_; clear hf; clear a; intro a hf
      refine ops_v hf hh (yv_len Tryd.se_22 rfl) (gon rfl rfl rfl (by first | assumption | rfl | (simp; done))) rfl rfl rfl ?_; clear hf; clear a; intro a hf
      first | refine ops_v hf hh (yv_sub rfl rfl (by omega) (by omega)) (gon rfl rfl rfl (by first | assumption | rfl | (simp; done))) rfl rfl rfl ?_; clear hf; clear a; intro a hf | refine ops_v hf hh (yv_bin rfl rfl rfl) (gon rfl rfl rfl (by first | assumption | rfl | (simp; done))) rfl rfl rfl ?_; clear hf; clear a; intro a hf
      refine ops_call hf Tryd.en_44 rfl rfl rfl (gon rfl rfl rfl (by first | assumption | rfl | (simp; done))) rfl (c44 _ _ _ _) ?_; clear hf; clear a; intro v a w hR hf
      obtain ⟨rfl, hx⟩ := hR; replace hh := hh.more hx; clear hx
      refine ops_v hf hh (yv_not rfl) (gon rfl rfl rfl (by first | assumption | rfl | (simp; done))) rfl rfl rfl ?_; clear hf; clear a; intro a hf
      refine ops_v hf hh (yv_pick_f rfl (by first | assumption | rfl | (simp; done)) rfl) (.inl rfl) rfl rfl rfl ?_; clear hf; clear a; intro a hf
      refine ops_end ?_
      refine then_n ?_
      refine sy_cond hf rfl (fun hg6 => ?_) (fun hg6 => ?_)
      · have hG6 := hg6; try simp only [gS] at hG6
        refine sy_seq ?_
        refine sy_ops ?_
        refine ops_v hf hh (yv_assign rfl) (.inl rfl) rfl rfl rfl ?_; clear hf; clear a; intro a hf
        refine ops_v hf hh (yv_assign rfl) (.inl rfl) rfl rfl rfl ?_; clear hf; clear a; intro a hf
        refine ops_v hf hh (yv_assign rfl) (.inl rfl) rfl rfl rfl ?_; clear hf; clear a; intro a hf
        refine ops_end ?_
        refine then_n ?_
        refine sy_ret ?_
        refine then_r ?_
        refine ret_r hf rfl rfl ?_
        refine ⟨?_, hh.ext⟩
        first
          | (rw [bestV_arg (b := b) (by assumption)]; rfl)
          | (rw [bestV_plan (b := b) (p := p) (by assumption) (by assumption)]; rfl)
          | (rw [bestV_scene (b := b) (p := p) (i := i) (by assumption) (by assumption) (by omega)]; rfl)
          | (rw [bestV_none (b := b) (p := p) (i := i) (by assumption) (by assumption) hs (by omega) (by assumption)]; rfl)
          | (rw [bestV_some (b := b) (p := p) (i := i) (by assumption) (by assumption) hs (by omega) (by assumption)]; rfl)
      · have hG6 := hg6; try simp only [gS] at hG6
        refine sy_skip ?_
        refine then_n ?_
        refine sy_seq ?_
        obtain ⟨s, hs⟩ := scn_of (l := b.scenes) (i := i.toNat) (by omega)
        refine sy_ops ?_
        refine ops_v hf hh (yv_loads Tryd.ag_24 rfl (fun _ h => by first | exact h.at (i := 0) rfl | exact h.at (i := 1) rfl | exact h.at (i := 2) rfl | exact h.at (i := 3) rfl) (by first | assumption | rfl)) (.inl rfl) rfl rfl rfl ?_; clear hf; clear a; intro a hf
        refine ops_v hf hh (yv_move rfl) (.inl rfl) rfl rfl rfl ?_; clear hf; clear a; intro a hf
        refine ops_v hf hh (yv_move rfl) (.inl rfl) rfl rfl rfl ?_; clear hf; clear a; intro a hf
        refine ops_call hf Tryd.en_45 rfl rfl rfl (.inl rfl) rfl (c45i b sa sc p i s _ ((okBar_iff b).1 (by assumption)) hs (by omega) (hS.ext hh.ext) (isPlanI_nn (by assumption)) h1) ?_; clear hf; clear a; intro v a w hR hf
        obtain ⟨rfl, hx⟩ := hR; replace hh := hh.more hx; clear hx
        refine ops_v hf hh (yv_move rfl) (.inl rfl) rfl rfl rfl ?_; clear hf; clear a; intro a hf
        refine ops_v hf hh (yv_extract rfl rfl) (.inl rfl) rfl rfl rfl ?_; clear hf; clear a; intro a hf
        refine ops_v hf hh (yv_extract rfl rfl) (.inl rfl) rfl rfl rfl ?_; clear hf; clear a; intro a hf
        refine ops_v hf hh (yv_assign rfl) (.inl rfl) rfl rfl rfl ?_; clear hf; clear a; intro a hf
        refine ops_v hf hh (yv_assign rfl) (.inl rfl) rfl rfl rfl ?_; clear hf; clear a; intro a hf
        refine ops_end ?_
        refine then_n ?_
        refine sy_seq ?_
        refine sy_seq ?_
        refine sy_ops ?_
        refine ops_v hf hh (yv_move rfl) (.inl rfl) rfl rfl rfl ?_; clear hf; clear a; intro a hf
        refine ops_v hf hh (yv_bin rfl rfl rfl) (.inl rfl) rfl rfl rfl ?_; clear hf; clear a; intro a hf
        refine ops_end ?_
        refine then_n ?_
        refine sy_cond hf rfl (fun hg11 => ?_) (fun hg11 => ?_)
        · have hG11 := hg11; try simp only [gS] at hG11
          refine sy_seq ?_
          refine sy_ops ?_
          refine ops_v hf hh (yv_assign rfl) (.inl rfl) rfl rfl rfl ?_; clear hf; clear a; intro a hf
          refine ops_v hf hh (yv_assign rfl) (.inl rfl) rfl rfl rfl ?_; clear hf; clear a; intro a hf
          refine ops_v hf hh (yv_assign rfl) (.inl rfl) rfl rfl rfl ?_; clear hf; clear a; intro a hf
          refine ops_end ?_
          refine then_n ?_
          refine sy_ret ?_
          refine then_r ?_
          refine ret_r hf rfl rfl ?_
          refine ⟨?_, hh.ext⟩
          first
            | (rw [bestV_arg (b := b) (by assumption)]; rfl)
            | (rw [bestV_plan (b := b) (p := p) (by assumption) (by assumption)]; rfl)
            | (rw [bestV_scene (b := b) (p := p) (i := i) (by assumption) (by assumption) (by omega)]; rfl)
            | (rw [bestV_none (b := b) (p := p) (i := i) (by assumption) (by assumption) hs (by omega) (by assumption)]; rfl)
            | (rw [bestV_some (b := b) (p := p) (i := i) (by assumption) (by assumption) hs (by omega) (by assumption)]; rfl)
        · have hG11 := hg11; try simp only [gS] at hG11
          refine sy_skip ?_
          refine then_n ?_
          refine sy_seq ?_
          refine sy_ops ?_
          refine ops_v hf hh (yv_move rfl) (.inl rfl) rfl rfl rfl ?_; clear hf; clear a; intro a hf
          refine ops_v hf hh (yv_move rfl) (.inl rfl) rfl rfl rfl ?_; clear hf; clear a; intro a hf
          refine ops_v hf hh (yv_assign rfl) (.inl rfl) rfl rfl rfl ?_; clear hf; clear a; intro a hf
          refine ops_v hf hh (yv_assign rfl) (.inl rfl) rfl rfl rfl ?_; clear hf; clear a; intro a hf
          refine ops_v hf hh (yv_assign rfl) (.inl rfl) rfl rfl rfl ?_; clear hf; clear a; intro a hf
          refine ops_end ?_
          refine then_n ?_
          refine sy_ret ?_
          refine ret_r hf rfl rfl ?_
          refine ⟨?_, hh.ext⟩
          first
            | (rw [bestV_arg (b := b) (by assumption)]; rfl)
            | (rw [bestV_plan (b := b) (p := p) (by assumption) (by assumption)]; rfl)
            | (rw [bestV_scene (b := b) (p := p) (i := i) (by assumption) (by assumption) (by omega)]; rfl)
            | (rw [bestV_none (b := b) (p := p) (i := i) (by assumption) (by assumption) hs (by omega) (by assumption)]; rfl)
            | (rw [bestV_some (b := b) (p := p) (i := i) (by assumption) (by assumption) hs (by omega) (by assumption)]; rfl)
end Go.Proofs.YtkolcbjghphjeaaDoor
