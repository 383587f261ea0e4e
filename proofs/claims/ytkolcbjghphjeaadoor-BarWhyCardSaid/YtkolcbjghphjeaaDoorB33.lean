/- BarWhy, walked: the last cases. -/
import Derived.Test.YtkolcbjghphjeaaDoorB30
namespace Go.Proofs.YtkolcbjghphjeaaDoor
open Go Go.Sy Go.BarM
set_option maxRecDepth 100000 in
set_option maxHeartbeats 4000000 in
theorem c9d (b : BarD) (sa : Option Addr) (sc : Nat) (u : World) (hS : ScAt u sa b.scenes) (hT : GTab u) (y : Nat) (hy : y ≤ 65535) (i0 k0 : Nat) (hok : okBar b = true) (hF : firstP b (allS b) = none) (h1 : oneB b = none) (h2 : twoB b = some (i0, k0)) : Calls Tryd.prog 9 #[barV b sa sc, .int .u16 (y : Nat)] u (Ret fun v w' => v = .bool true ∧ Ext [] u w') := by
  refine calls_of Tryd.func9 rfl rfl (fun a hf => ?_)
  have hh := Hp.init u []
  have hV := (okBar_iff b).1 hok
  have hn := hV.n
  have hm1 : 1 ≤ 2 ^ b.scenes.length := Nat.one_le_two_pow
  have hm2 : 2 ^ b.scenes.length ≤ 2 ^ 10 := Nat.pow_le_pow_right (by omega) hn
  have hs1 := hV.s1; have hs2 := hV.s2
  have hpw := shl_bd hs1 hs2
  have hnev : neverB b (2 ^ b.scenes.length - 1) = true := by unfold neverB; rw [hF]; rfl
  have hn0 := never_len0 hV hnev
  have h0n : decide ((b.scenes.length : Int) ≤ 0) = false := decide_eq_false (by omega)
  have hqp := planV_plan hV y
  have hqb := isPlan_bd hqp
  have htq := taken_bd hV (planV b y)
  obtain ⟨hik, hk0, hn1, hn2⟩ := two_some h2
  have hno := one_none h1
  have hwv : whyV b = .tuple #[.int .i64 2, .int .i64 i0, .int .i64 k0, .int .i64 11] := by unfold whyV; rw [hnev, h1, h2]; rfl
  have hbt := never_bit hV hn1 hqp
  obtain ⟨s0, hs0⟩ := scn_of (show i0 < b.scenes.length by omega)
  obtain ⟨t0, ht0⟩ := scn_of hk0
  have hl1 := bit1_le (taken b (planV b y)) i0; have hl2 := bit1_le (taken b (planV b y)) k0
  have hb0 : ¬ ((taken b (planV b y) >>> i0) &&& 1 = 1 ∧ (taken b (planV b y) >>> k0) &&& 1 = 1) := by
    rintro ⟨e1, e2⟩
    rw [bit1_eq, taken_bit, hs0] at e1
    rw [bit1_eq, taken_bit, ht0] at e2
    rw [(takes_two hs0 ht0).2 ⟨e1, e2⟩] at hbt; cases hbt
  refine sy_seq ?_
  refine sy_ops ?_
  refine ops_box hf hh rfl (.inl rfl) rfl ?_; clear hf hh; clear a; intro B2 a w hf hh
  refine ops_v hf hh (yv_assign rfl) (.inl rfl) rfl rfl rfl ?_; clear hf; clear a; intro a hf
  refine ops_end ?_
  refine then_n ?_
  refine sy_seq ?_
  refine sy_seq ?_
  refine sy_ops ?_
  refine ops_v hf hh (yv_fieldAddr Tryd.fo_24_4 rfl) (.inl rfl) rfl rfl rfl ?_; clear hf; clear a; intro a hf
  refine ops_v hf hh (yv_load Tryd.sc_22 rfl (fun _ h => by first | exact h.at (i := 0) rfl | exact h.at (i := 1) rfl | exact h.at (i := 2) rfl | exact h.at (i := 3) rfl) (by first | rfl | assumption)) (.inl rfl) rfl rfl rfl ?_; clear hf; clear a; intro a hf
  refine ops_v hf hh (yv_len Tryd.se_22 rfl) (.inl rfl) rfl rfl rfl ?_; clear hf; clear a; intro a hf
  refine ops_v hf hh (yv_bin rfl rfl rfl) (.inl rfl) rfl rfl rfl ?_; clear hf; clear a; intro a hf
  refine ops_v hf hh (yv_move rfl) (.inl rfl) rfl rfl rfl ?_; clear hf; clear a; intro a hf
  refine guard_split hf (t := 23) rfl (fun hg2 => ?_) (fun hg2 => ?_)
  · have hG2 := hg2; try simp only [gS] at hG2
    refine ops_off hf (goff rfl rfl rfl (by first | assumption | rfl | (simp; done) | (simp; omega))) rfl rfl ?_; clear hf; clear a; intro a hf
    refine ops_off hf (goff rfl rfl rfl (by first | assumption | rfl | (simp; done) | (simp; omega))) rfl rfl ?_; clear hf; clear a; intro a hf
    refine ops_v hf hh (yv_pick_t rfl (by first | assumption | rfl | (simp; done) | (simp; omega)) rfl) (.inl rfl) rfl rfl rfl ?_; clear hf; clear a; intro a hf
    refine ops_end ?_
    refine then_n ?_
    refine sy_ct hf rfl (by first | assumption | rfl | (simp; done) | (simp; omega)) ?_
    refine sy_seq ?_
    refine sy_ops ?_
    refine ops_call hf Tryd.en_12 rfl rfl rfl (.inl rfl) rfl (c12 _ (hT.ext hh.ext (by simp))) ?_; clear hf; clear a; intro v a w hR hf
    obtain ⟨rfl, hx⟩ := hR; replace hh := hh.more hx; clear hx
    refine ops_v hf hh (yv_assign rfl) (.inl rfl) rfl rfl rfl ?_; clear hf; clear a; intro a hf
    refine ops_end ?_
    refine then_n ?_
    refine sy_ret ?_
    refine then_r ?_
    refine ret_r hf rfl rfl ?_
    first
      | exact ⟨rfl, hh.ext⟩
      | (exfalso; omega)
      | (exfalso
         have h3 : neverB b (2 ^ i) = true := by assumption
         rw [hno i (by omega)] at h3; cases h3)
      | (exfalso
         have h3 : neverB b (2 ^ i ||| 2 ^ k) = true := by assumption
         rw [hn2 i k (by omega) (by omega) (by omega)] at h3; cases h3)
      | (exfalso
         have hi : i = i0 := by omega
         have hk : k = k0 := by omega
         subst hi; subst hk
         have h3 : neverB b (2 ^ i ||| 2 ^ k) = false := by assumption
         rw [hn1] at h3; cases h3)
  · have hG2 := hg2; try simp only [gS] at hG2
    refine ops_v hf hh (yv_loads Tryd.ag_24 rfl (fun _ h => by first | exact h.at (i := 0) rfl | exact h.at (i := 1) rfl | exact h.at (i := 2) rfl | exact h.at (i := 3) rfl) (by first | assumption | rfl)) (gon rfl rfl rfl (by first | assumption | rfl | (simp; done) | (simp; omega))) rfl rfl rfl ?_; clear hf; clear a; intro a hf
    refine ops_call hf Tryd.en_17 rfl rfl rfl (gon rfl rfl rfl (by first | assumption | rfl | (simp; done) | (simp; omega))) rfl (c17 b sa sc 7 _ (hS.ext hh.ext)) ?_; clear hf; clear a; intro v a w hR hf
    obtain ⟨rfl, hx⟩ := hR; replace hh := hh.more hx; clear hx
    refine ops_v hf hh (yv_pick_f rfl (by first | assumption | rfl | (simp; done) | (simp; omega)) rfl) (.inl rfl) rfl rfl rfl ?_; clear hf; clear a; intro a hf
    refine ops_end ?_
    refine then_n ?_
    refine sy_cond hf rfl (fun hg5 => ?_) (fun hg5 => ?_)
    · have hG5 := hg5; try simp only [gS] at hG5
      refine sy_seq ?_
      refine sy_ops ?_
      refine ops_call hf Tryd.en_12 rfl rfl rfl (.inl rfl) rfl (c12 _ (hT.ext hh.ext (by simp))) ?_; clear hf; clear a; intro v a w hR hf
      obtain ⟨rfl, hx⟩ := hR; replace hh := hh.more hx; clear hx
      refine ops_v hf hh (yv_assign rfl) (.inl rfl) rfl rfl rfl ?_; clear hf; clear a; intro a hf
      refine ops_end ?_
      refine then_n ?_
      refine sy_ret ?_
      refine then_r ?_
      refine ret_r hf rfl rfl ?_
      first
        | exact ⟨rfl, hh.ext⟩
        | (exfalso; omega)
        | (exfalso
           have h3 : neverB b (2 ^ i) = true := by assumption
           rw [hno i (by omega)] at h3; cases h3)
        | (exfalso
           have h3 : neverB b (2 ^ i ||| 2 ^ k) = true := by assumption
           rw [hn2 i k (by omega) (by omega) (by omega)] at h3; cases h3)
        | (exfalso
           have hi : i = i0 := by omega
           have hk : k = k0 := by omega
           subst hi; subst hk
           have h3 : neverB b (2 ^ i ||| 2 ^ k) = false := by assumption
           rw [hn1] at h3; cases h3)
    · have hG5 := hg5; try simp only [gS] at hG5
      refine sy_skip ?_
      refine then_n ?_
      refine sy_seq ?_
      refine sy_ops ?_
      refine ops_v hf hh (yv_loads Tryd.ag_24 rfl (fun _ h => by first | exact h.at (i := 0) rfl | exact h.at (i := 1) rfl | exact h.at (i := 2) rfl | exact h.at (i := 3) rfl) (by first | assumption | rfl)) (.inl rfl) rfl rfl rfl ?_; clear hf; clear a; intro a hf
      refine ops_call hf Tryd.en_26 rfl rfl rfl (.inl rfl) rfl (hwv ▸ c26v b sa sc _ (hS.ext hh.ext) (hT.ext hh.ext (by simp)) hV) ?_; clear hf; clear a; intro v a w hR hf
      obtain ⟨rfl, hx⟩ := hR; replace hh := hh.more hx; clear hx
      refine ops_v hf hh (yv_move rfl) (.inl rfl) rfl rfl rfl ?_; clear hf; clear a; intro a hf
      refine ops_v hf hh (yv_extract rfl rfl) (.inl rfl) rfl rfl rfl ?_; clear hf; clear a; intro a hf
      refine ops_v hf hh (yv_extract rfl rfl) (.inl rfl) rfl rfl rfl ?_; clear hf; clear a; intro a hf
      refine ops_v hf hh (yv_extract rfl rfl) (.inl rfl) rfl rfl rfl ?_; clear hf; clear a; intro a hf
      refine ops_v hf hh (yv_extract rfl rfl) (.inl rfl) rfl rfl rfl ?_; clear hf; clear a; intro a hf
      refine ops_v hf hh (yv_assign rfl) (.inl rfl) rfl rfl rfl ?_; clear hf; clear a; intro a hf
      refine ops_v hf hh (yv_assign rfl) (.inl rfl) rfl rfl rfl ?_; clear hf; clear a; intro a hf
      refine ops_v hf hh (yv_assign rfl) (.inl rfl) rfl rfl rfl ?_; clear hf; clear a; intro a hf
      refine ops_v hf hh (yv_assign rfl) (.inl rfl) rfl rfl rfl ?_; clear hf; clear a; intro a hf
      refine ops_end ?_
      refine then_n ?_
      refine sy_seq ?_
      refine sy_ops ?_
      refine ops_v hf hh (yv_loads Tryd.ag_24 rfl (fun _ h => by first | exact h.at (i := 0) rfl | exact h.at (i := 1) rfl | exact h.at (i := 2) rfl | exact h.at (i := 3) rfl) (by first | assumption | rfl)) (.inl rfl) rfl rfl rfl ?_; clear hf; clear a; intro a hf
      refine ops_call hf Tryd.en_18 rfl rfl rfl (.inl rfl) rfl (c18x b sa sc _ (hS.ext hh.ext) (hT.ext hh.ext (by simp)) hV hF) ?_; clear hf; clear a; intro v a w hR hf
      obtain ⟨rfl, hx⟩ := hR; replace hh := hh.more hx; clear hx
      refine ops_v hf hh (yv_move rfl) (.inl rfl) rfl rfl rfl ?_; clear hf; clear a; intro a hf
      refine ops_v hf hh (yv_extract rfl rfl) (.inl rfl) rfl rfl rfl ?_; clear hf; clear a; intro a hf
      refine ops_v hf hh (yv_extract rfl rfl) (.inl rfl) rfl rfl rfl ?_; clear hf; clear a; intro a hf
      refine ops_v hf hh (yv_assign rfl) (.inl rfl) rfl rfl rfl ?_; clear hf; clear a; intro a hf
      refine ops_v hf hh (yv_assign rfl) (.inl rfl) rfl rfl rfl ?_; clear hf; clear a; intro a hf
      refine ops_end ?_
      refine then_n ?_
      refine sy_seq ?_
      refine sy_seq ?_
      refine sy_ops ?_
      refine ops_v hf hh (yv_move rfl) (.inl rfl) rfl rfl rfl ?_; clear hf; clear a; intro a hf
      refine ops_v hf hh (yv_move rfl) (.inl rfl) rfl rfl rfl ?_; clear hf; clear a; intro a hf
      refine ops_v hf hh (yv_bin rfl rfl rfl) (.inl rfl) rfl rfl rfl ?_; clear hf; clear a; intro a hf
      refine ops_end ?_
      refine then_n ?_
      refine sy_cf hf rfl (by first | assumption | rfl | (simp; done) | (simp; omega)) ?_
      refine sy_skip ?_
      refine then_n ?_
      refine sy_seq ?_
      refine sy_seq ?_
      refine sy_ops ?_
      refine ops_v hf hh (yv_move rfl) (.inl rfl) rfl rfl rfl ?_; clear hf; clear a; intro a hf
      refine ops_v hf hh (yv_bin rfl rfl rfl) (.inl rfl) rfl rfl rfl ?_; clear hf; clear a; intro a hf
      refine ops_end ?_
      refine then_n ?_
      refine sy_cf hf rfl (by first | assumption | rfl | (simp; done) | (simp; omega)) ?_
      refine sy_skip ?_
      refine then_n ?_
      refine sy_seq ?_
      refine sy_ops ?_
      refine ops_v hf hh (yv_fieldAddr Tryd.fo_24_4 rfl) (.inl rfl) rfl rfl rfl ?_; clear hf; clear a; intro a hf
      refine ops_v hf hh (yv_load Tryd.sc_22 rfl (fun _ h => by first | exact h.at (i := 0) rfl | exact h.at (i := 1) rfl | exact h.at (i := 2) rfl | exact h.at (i := 3) rfl) (by first | rfl | assumption)) (.inl rfl) rfl rfl rfl ?_; clear hf; clear a; intro a hf
      refine ops_v hf hh (yv_len Tryd.se_22 rfl) (.inl rfl) rfl rfl rfl ?_; clear hf; clear a; intro a hf
      refine ops_v hf hh (yv_assign rfl) (.inl rfl) rfl rfl rfl ?_; clear hf; clear a; intro a hf
      refine ops_end ?_
      refine then_n ?_
      refine sy_seq ?_
      refine sy_seq ?_
      refine sy_ops ?_
      refine ops_v hf hh (yv_move rfl) (.inl rfl) rfl rfl rfl ?_; clear hf; clear a; intro a hf
      refine ops_v hf hh (yv_bin rfl rfl rfl) (.inl rfl) rfl rfl rfl ?_; clear hf; clear a; intro a hf
      refine ops_v hf hh (yv_move rfl) (.inl rfl) rfl rfl rfl ?_; clear hf; clear a; intro a hf
      refine ops_v hf hh (yv_move rfl) (gon rfl rfl rfl (by first | assumption | rfl | (simp; done) | (simp; omega))) rfl rfl rfl ?_; clear hf; clear a; intro a hf
      refine ops_v hf hh (yv_move rfl) (gon rfl rfl rfl (by first | assumption | rfl | (simp; done) | (simp; omega))) rfl rfl rfl ?_; clear hf; clear a; intro a hf
      refine ops_v hf hh (yv_bin rfl rfl rfl) (gon rfl rfl rfl (by first | assumption | rfl | (simp; done) | (simp; omega))) rfl rfl rfl ?_; clear hf; clear a; intro a hf
      refine ops_v hf hh (yv_pick_f rfl (by first | assumption | rfl | (simp; done) | (simp; omega)) rfl) (.inl rfl) rfl rfl rfl ?_; clear hf; clear a; intro a hf
      refine ops_v hf hh (yv_move rfl) (.inl rfl) rfl rfl rfl ?_; clear hf; clear a; intro a hf
      refine ops_v hf hh (yv_move rfl) (gon rfl rfl rfl (by first | assumption | rfl | (simp; done) | (simp; omega))) rfl rfl rfl ?_; clear hf; clear a; intro a hf
      refine ops_v hf hh (yv_bin rfl rfl rfl) (gon rfl rfl rfl (by first | assumption | rfl | (simp; done) | (simp; omega))) rfl rfl rfl ?_; clear hf; clear a; intro a hf
      refine ops_v hf hh (yv_pick_f rfl (by first | assumption | rfl | (simp; done) | (simp; omega)) rfl) (.inl rfl) rfl rfl rfl ?_; clear hf; clear a; intro a hf
      refine ops_v hf hh (yv_move rfl) (.inl rfl) rfl rfl rfl ?_; clear hf; clear a; intro a hf
      refine ops_v hf hh (yv_move rfl) (gon rfl rfl rfl (by first | assumption | rfl | (simp; done) | (simp; omega))) rfl rfl rfl ?_; clear hf; clear a; intro a hf
      refine ops_v hf hh (yv_move rfl) (gon rfl rfl rfl (by first | assumption | rfl | (simp; done) | (simp; omega))) rfl rfl rfl ?_; clear hf; clear a; intro a hf
      refine ops_v hf hh (yv_bin rfl rfl rfl) (gon rfl rfl rfl (by first | assumption | rfl | (simp; done) | (simp; omega))) rfl rfl rfl ?_; clear hf; clear a; intro a hf
      refine ops_v hf hh (yv_pick_f rfl (by first | assumption | rfl | (simp; done) | (simp; omega)) rfl) (.inl rfl) rfl rfl rfl ?_; clear hf; clear a; intro a hf
      refine ops_v hf hh (yv_move rfl) (.inl rfl) rfl rfl rfl ?_; clear hf; clear a; intro a hf
      refine ops_v hf hh (yv_move rfl) (gon rfl rfl rfl (by first | assumption | rfl | (simp; done) | (simp; omega))) rfl rfl rfl ?_; clear hf; clear a; intro a hf
      refine ops_v hf hh (yv_bin rfl rfl rfl) (gon rfl rfl rfl (by first | assumption | rfl | (simp; done) | (simp; omega))) rfl rfl rfl ?_; clear hf; clear a; intro a hf
      refine ops_v hf hh (yv_pick_f rfl (by first | assumption | rfl | (simp; done) | (simp; omega)) rfl) (.inl rfl) rfl rfl rfl ?_; clear hf; clear a; intro a hf
      refine ops_v hf hh (yv_move rfl) (.inl rfl) rfl rfl rfl ?_; clear hf; clear a; intro a hf
      refine ops_v hf hh (yv_move rfl) (gon rfl rfl rfl (by first | assumption | rfl | (simp; done) | (simp; omega))) rfl rfl rfl ?_; clear hf; clear a; intro a hf
      refine ops_v hf hh (yv_bin rfl rfl rfl) (gon rfl rfl rfl (by first | assumption | rfl | (simp; done) | (simp; omega))) rfl rfl rfl ?_; clear hf; clear a; intro a hf
      refine ops_v hf hh (yv_pick_f rfl (by first | assumption | rfl | (simp; done) | (simp; omega)) rfl) (.inl rfl) rfl rfl rfl ?_; clear hf; clear a; intro a hf
      refine ops_v hf hh (yv_move rfl) (.inl rfl) rfl rfl rfl ?_; clear hf; clear a; intro a hf
      refine ops_v hf hh (yv_move rfl) (gon rfl rfl rfl (by first | assumption | rfl | (simp; done) | (simp; omega))) rfl rfl rfl ?_; clear hf; clear a; intro a hf
      refine ops_v hf hh (yv_bin rfl rfl rfl) (gon rfl rfl rfl (by first | assumption | rfl | (simp; done) | (simp; omega))) rfl rfl rfl ?_; clear hf; clear a; intro a hf
      refine ops_v hf hh (yv_move rfl) (gon rfl rfl rfl (by first | assumption | rfl | (simp; done) | (simp; omega))) rfl rfl rfl ?_; clear hf; clear a; intro a hf
      refine ops_off hf (goff rfl rfl rfl (by first | assumption | rfl | (simp; done) | (simp; omega))) rfl rfl ?_; clear hf; clear a; intro a hf
      refine ops_off hf (goff rfl rfl rfl (by first | assumption | rfl | (simp; done) | (simp; omega))) rfl rfl ?_; clear hf; clear a; intro a hf
      refine ops_v hf hh (yv_pick_f rfl (by first | assumption | rfl | (simp; done) | (simp; omega)) rfl) (gon rfl rfl rfl (by first | assumption | rfl | (simp; done) | (simp; omega))) rfl rfl rfl ?_; clear hf; clear a; intro a hf
      refine ops_v hf hh (yv_pick_f rfl (by first | assumption | rfl | (simp; done) | (simp; omega)) rfl) (.inl rfl) rfl rfl rfl ?_; clear hf; clear a; intro a hf
      refine ops_v hf hh (yv_move rfl) (.inl rfl) rfl rfl rfl ?_; clear hf; clear a; intro a hf
      refine ops_v hf hh (yv_move rfl) (gon rfl rfl rfl (by first | assumption | rfl | (simp; done) | (simp; omega))) rfl rfl rfl ?_; clear hf; clear a; intro a hf
      refine ops_v hf hh (yv_bin rfl rfl rfl) (gon rfl rfl rfl (by first | assumption | rfl | (simp; done) | (simp; omega))) rfl rfl rfl ?_; clear hf; clear a; intro a hf
      refine ops_v hf hh (yv_move rfl) (gon rfl rfl rfl (by first | assumption | rfl | (simp; done) | (simp; omega))) rfl rfl rfl ?_; clear hf; clear a; intro a hf
      refine ops_v hf hh (yv_move rfl) (gon rfl rfl rfl (by first | assumption | rfl | (simp; done) | (simp; omega))) rfl rfl rfl ?_; clear hf; clear a; intro a hf
      refine ops_v hf hh (yv_move rfl) (gon rfl rfl rfl (by first | assumption | rfl | (simp; done) | (simp; omega))) rfl rfl rfl ?_; clear hf; clear a; intro a hf
      refine ops_v hf hh (yv_bin rfl rfl rfl) (gon rfl rfl rfl (by first | assumption | rfl | (simp; done) | (simp; omega))) rfl rfl rfl ?_; clear hf; clear a; intro a hf
      refine ops_v hf hh (yv_pick_t rfl (by first | assumption | rfl | (simp; done) | (simp; omega)) rfl) (gon rfl rfl rfl (by first | assumption | rfl | (simp; done) | (simp; omega))) rfl rfl rfl ?_; clear hf; clear a; intro a hf
      refine ops_v hf hh (yv_pick_f rfl (by first | assumption | rfl | (simp; done) | (simp; omega)) rfl) (.inl rfl) rfl rfl rfl ?_; clear hf; clear a; intro a hf
      refine ops_v hf hh (yv_move rfl) (.inl rfl) rfl rfl rfl ?_; clear hf; clear a; intro a hf
      refine ops_v hf hh (yv_move rfl) (gon rfl rfl rfl (by first | assumption | rfl | (simp; done) | (simp; omega))) rfl rfl rfl ?_; clear hf; clear a; intro a hf
      refine ops_v hf hh (yv_bin rfl rfl rfl) (gon rfl rfl rfl (by first | assumption | rfl | (simp; done) | (simp; omega))) rfl rfl rfl ?_; clear hf; clear a; intro a hf
      refine ops_v hf hh (yv_move rfl) (gon rfl rfl rfl (by first | assumption | rfl | (simp; done) | (simp; omega))) rfl rfl rfl ?_; clear hf; clear a; intro a hf
      refine ops_off hf (goff rfl rfl rfl (by first | assumption | rfl | (simp; done) | (simp; omega))) rfl rfl ?_; clear hf; clear a; intro a hf
      refine ops_off hf (goff rfl rfl rfl (by first | assumption | rfl | (simp; done) | (simp; omega))) rfl rfl ?_; clear hf; clear a; intro a hf
      refine ops_off hf (goff rfl rfl rfl (by first | assumption | rfl | (simp; done) | (simp; omega))) rfl rfl ?_; clear hf; clear a; intro a hf
      refine ops_off hf (goff rfl rfl rfl (by first | assumption | rfl | (simp; done) | (simp; omega))) rfl rfl ?_; clear hf; clear a; intro a hf
      refine ops_v hf hh (yv_pick_f rfl (by first | assumption | rfl | (simp; done) | (simp; omega)) rfl) (gon rfl rfl rfl (by first | assumption | rfl | (simp; done) | (simp; omega))) rfl rfl rfl ?_; clear hf; clear a; intro a hf
      refine ops_v hf hh (yv_pick_f rfl (by first | assumption | rfl | (simp; done) | (simp; omega)) rfl) (.inl rfl) rfl rfl rfl ?_; clear hf; clear a; intro a hf
      refine ops_end ?_
      refine then_n ?_
      refine sy_cf hf rfl (by first | assumption | rfl | (simp; done) | (simp; omega)) ?_
      refine sy_skip ?_
      refine then_n ?_
      refine sy_seq ?_
      refine sy_quiet (C := Hp _ _ _) Tryd.follows (by kernel_rfl) (hh.drawn _) ?_
      refine q_v hf (yv_loads Tryd.ag_24 rfl (fun _ h => by first | exact h.at (i := 0) rfl | exact h.at (i := 1) rfl | exact h.at (i := 2) rfl | exact h.at (i := 3) rfl) (by first | assumption | rfl)) (.inl rfl) rfl rfl ?_; clear hf; clear a; intro a hf
      refine q_v hf (yv_loads Tryd.ag_24 rfl (fun _ h => by first | exact h.at (i := 0) rfl | exact h.at (i := 1) rfl | exact h.at (i := 2) rfl | exact h.at (i := 3) rfl) (by first | assumption | rfl)) (.inl rfl) rfl rfl ?_; clear hf; clear a; intro a hf
      refine q_v hf (yv_move rfl) (.inl rfl) rfl rfl ?_; clear hf; clear a; intro a hf
      refine q_callE hf Tryd.en_30 rfl rfl rfl (.inl rfl) rfl (fun w hh => c30 b sa sc hV y hy _) ?_; clear hf; clear a; intro a hf
      refine q_callE hf Tryd.en_13 rfl rfl rfl (.inl rfl) rfl (fun w hh => c13p b sa sc _ (hS.ext hh.ext) (hT.ext hh.ext (by simp)) hok (planV b y) hqp) ?_; clear hf; clear a; intro a hf
      refine q_v hf (yv_move rfl) (.inl rfl) rfl rfl ?_; clear hf; clear a; intro a hf
      refine q_v hf (yv_extract rfl rfl) (.inl rfl) rfl rfl ?_; clear hf; clear a; intro a hf
      refine q_v hf (yv_extract rfl rfl) (.inl rfl) rfl rfl ?_; clear hf; clear a; intro a hf
      refine q_v hf (yv_assign rfl) (.inl rfl) rfl rfl ?_; clear hf; clear a; intro a hf
      refine q_v hf (yv_assign rfl) (.inl rfl) rfl rfl ?_; clear hf; clear a; intro a hf
      refine q_end fun w hh => ?_
      refine then_n ?_
      refine sy_seq ?_
      refine sy_seq ?_
      refine sy_ops ?_
      refine ops_v hf hh (yv_move rfl) (.inl rfl) rfl rfl rfl ?_; clear hf; clear a; intro a hf
      refine ops_v hf hh (yv_bin rfl rfl rfl) (.inl rfl) rfl rfl rfl ?_; clear hf; clear a; intro a hf
      refine ops_v hf hh (yv_move rfl) (.inl rfl) rfl rfl rfl ?_; clear hf; clear a; intro a hf
      refine ops_v hf hh (yv_move rfl) (gon rfl rfl rfl (by first | assumption | rfl | (simp; done) | (simp; omega))) rfl rfl rfl ?_; clear hf; clear a; intro a hf
      refine ops_v hf hh (yv_bin rfl rfl rfl) (gon rfl rfl rfl (by first | assumption | rfl | (simp; done) | (simp; omega))) rfl rfl rfl ?_; clear hf; clear a; intro a hf
      refine ops_v hf hh (yv_move rfl) (gon rfl rfl rfl (by first | assumption | rfl | (simp; done) | (simp; omega))) rfl rfl rfl ?_; clear hf; clear a; intro a hf
      refine ops_off hf (goff rfl rfl rfl (by first | assumption | rfl | (simp; done) | (simp; omega))) rfl rfl ?_; clear hf; clear a; intro a hf
      refine ops_off hf (goff rfl rfl rfl (by first | assumption | rfl | (simp; done) | (simp; omega))) rfl rfl ?_; clear hf; clear a; intro a hf
      refine ops_off hf (goff rfl rfl rfl (by first | assumption | rfl | (simp; done) | (simp; omega))) rfl rfl ?_; clear hf; clear a; intro a hf
      refine ops_off hf (goff rfl rfl rfl (by first | assumption | rfl | (simp; done) | (simp; omega))) rfl rfl ?_; clear hf; clear a; intro a hf
      refine ops_off hf (goff rfl rfl rfl (by first | assumption | rfl | (simp; done) | (simp; omega))) rfl rfl ?_; clear hf; clear a; intro a hf
      refine ops_v hf hh (yv_pick_f rfl (by first | assumption | rfl | (simp; done) | (simp; omega)) rfl) (gon rfl rfl rfl (by first | assumption | rfl | (simp; done) | (simp; omega))) rfl rfl rfl ?_; clear hf; clear a; intro a hf
      refine ops_v hf hh (yv_pick_f rfl (by first | assumption | rfl | (simp; done) | (simp; omega)) rfl) (.inl rfl) rfl rfl rfl ?_; clear hf; clear a; intro a hf
      refine ops_v hf hh (yv_move rfl) (.inl rfl) rfl rfl rfl ?_; clear hf; clear a; intro a hf
      refine ops_v hf hh (yv_move rfl) (gon rfl rfl rfl (by first | assumption | rfl | (simp; done) | (simp; omega))) rfl rfl rfl ?_; clear hf; clear a; intro a hf
      refine ops_v hf hh (yv_bin rfl rfl rfl) (gon rfl rfl rfl (by first | assumption | rfl | (simp; done) | (simp; omega))) rfl rfl rfl ?_; clear hf; clear a; intro a hf
      refine ops_v hf hh (yv_move rfl) (gon rfl rfl rfl (by first | assumption | rfl | (simp; done) | (simp; omega))) rfl rfl rfl ?_; clear hf; clear a; intro a hf
      refine ops_v hf hh (yv_move rfl) (gon rfl rfl rfl (by first | assumption | rfl | (simp; done) | (simp; omega))) rfl rfl rfl ?_; clear hf; clear a; intro a hf
      refine ops_v hf hh (yv_move rfl) (gon rfl rfl rfl (by first | assumption | rfl | (simp; done) | (simp; omega))) rfl rfl rfl ?_; clear hf; clear a; intro a hf
      refine ops_v hf hh (yv_cast (yv_shrx (.inl rfl) rfl rfl (by omega) (by omega) (by omega)) (intv (b := ((taken b (planV b y) >>> i0 : Nat) : Int)) rfl)) (gon rfl rfl rfl (by first | assumption | rfl | (simp; done) | (simp; omega))) rfl rfl rfl ?_; clear hf; clear a; intro a hf
      refine ops_v hf hh (yv_cast (yv_and1 rfl rfl (by omega)) (intv (b := (((taken b (planV b y) >>> i0) &&& 1 : Nat) : Int)) rfl)) (gon rfl rfl rfl (by first | assumption | rfl | (simp; done) | (simp; omega))) rfl rfl rfl ?_; clear hf; clear a; intro a hf
      refine ops_v hf hh (yv_bin rfl rfl rfl) (gon rfl rfl rfl (by first | assumption | rfl | (simp; done) | (simp; omega))) rfl rfl rfl ?_; clear hf; clear a; intro a hf
      refine ops_v hf hh (yv_pick_t rfl (by first | assumption | rfl | (simp; done) | (simp; omega)) rfl) (gon rfl rfl rfl (by first | assumption | rfl | (simp; done) | (simp; omega))) rfl rfl rfl ?_; clear hf; clear a; intro a hf
      refine ops_v hf hh (yv_move rfl) (gon rfl rfl rfl (by first | assumption | rfl | (simp; done) | (simp; omega))) rfl rfl rfl ?_; clear hf; clear a; intro a hf
      refine guard_split hf (t := 143) rfl (fun hg37 => ?_) (fun hg37 => ?_)
      · have hG37 := hg37; try simp only [gS] at hG37
        refine ops_v hf hh (yv_move rfl) (gon rfl rfl rfl (by first | assumption | rfl | (simp; done) | (simp; omega))) rfl rfl rfl ?_; clear hf; clear a; intro a hf
        refine ops_v hf hh (yv_move rfl) (gon rfl rfl rfl (by first | assumption | rfl | (simp; done) | (simp; omega))) rfl rfl rfl ?_; clear hf; clear a; intro a hf
        refine ops_v hf hh (yv_cast (yv_shrx (.inl rfl) rfl rfl (by omega) (by omega) (by omega)) (intv (b := ((taken b (planV b y) >>> k0 : Nat) : Int)) rfl)) (gon rfl rfl rfl (by first | assumption | rfl | (simp; done) | (simp; omega))) rfl rfl rfl ?_; clear hf; clear a; intro a hf
        refine ops_v hf hh (yv_cast (yv_and1 rfl rfl (by omega)) (intv (b := (((taken b (planV b y) >>> k0) &&& 1 : Nat) : Int)) rfl)) (gon rfl rfl rfl (by first | assumption | rfl | (simp; done) | (simp; omega))) rfl rfl rfl ?_; clear hf; clear a; intro a hf
        refine ops_v hf hh (yv_bin rfl rfl rfl) (gon rfl rfl rfl (by first | assumption | rfl | (simp; done) | (simp; omega))) rfl rfl rfl ?_; clear hf; clear a; intro a hf
        refine ops_v hf hh (yv_pick_t rfl (by first | assumption | rfl | (simp; done) | (simp; omega)) rfl) (gon rfl rfl rfl (by first | assumption | rfl | (simp; done) | (simp; omega))) rfl rfl rfl ?_; clear hf; clear a; intro a hf
        refine ops_v hf hh (yv_pick_f rfl (by first | assumption | rfl | (simp; done) | (simp; omega)) rfl) (.inl rfl) rfl rfl rfl ?_; clear hf; clear a; intro a hf
        refine ops_end ?_
        refine then_n ?_
        refine sy_cond hf rfl (fun hg41 => ?_) (fun hg41 => ?_)
        · have hG41 := hg41; try simp only [gS] at hG41
          refine sy_seq ?_
          refine sy_ops ?_
          refine ops_v hf hh (yv_assign rfl) (.inl rfl) rfl rfl rfl ?_; clear hf; clear a; intro a hf
          refine ops_end ?_
          refine then_n ?_
          refine sy_ret ?_
          refine then_r ?_
          refine ret_r hf rfl rfl ?_
          first
            | exact ⟨rfl, hh.ext⟩
            | (exfalso; omega)
            | (exfalso
               have h3 : neverB b (2 ^ i) = true := by assumption
               rw [hno i (by omega)] at h3; cases h3)
            | (exfalso
               have h3 : neverB b (2 ^ i ||| 2 ^ k) = true := by assumption
               rw [hn2 i k (by omega) (by omega) (by omega)] at h3; cases h3)
            | (exfalso
               have hi : i = i0 := by omega
               have hk : k = k0 := by omega
               subst hi; subst hk
               have h3 : neverB b (2 ^ i ||| 2 ^ k) = false := by assumption
               rw [hn1] at h3; cases h3)
        · have hG41 := hg41; try simp only [gS] at hG41
          refine sy_skip ?_
          refine then_n ?_
          refine sy_seq ?_
          refine sy_ops ?_
          refine ops_v hf hh (yv_makeFunc rfl rfl) (.inl rfl) rfl rfl rfl ?_; clear hf; clear a; intro a hf
          refine ops_v hf hh (yv_assign rfl) (.inl rfl) rfl rfl rfl ?_; clear hf; clear a; intro a hf
          refine ops_end ?_
          refine then_n ?_
          refine sy_seq ?_
          refine sy_seq ?_
          refine sy_ops ?_
          refine ops_v hf hh (yv_move rfl) (.inl rfl) rfl rfl rfl ?_; clear hf; clear a; intro a hf
          refine ops_v hf hh (yv_move rfl) (.inl rfl) rfl rfl rfl ?_; clear hf; clear a; intro a hf
          refine ops_end ?_
          refine then_n ?_
          refine sy_block ?_
          refine sy_loopF (σ := Nat) [4, 15, 16, 17, 18, 153, 154, 155, 156, 157, 158, 159, 160, 161, 162, 163, 164, 165, 166, 167, 168, 169, 170, 171, 172, 173, 174, 175, 176, 177, 178, 179, 180, 181, 182, 183, 184, 185, 186, 187, 188, 189, 190, 191, 192, 193, 194, 195, 196, 197, 198, 199, 200, 201, 202, 203, 204, 205, 206, 207, 208, 209, 210, 211, 212, 213, 214, 215, 216, 217, 218, 219, 220, 221, 222, 223, 224, 225, 226, 227, 228, 229, 230, 231, 232, 233, 234, 235, 236, 237, 238, 239, 240, 241, 242, 243, 244, 245] (fun i => [(153, .int .i64 i)]) (fun i => i ≤ b.scenes.length) (fun i => b.scenes.length - i) (0) hf hh ?_ ?_ ?_
          · repeat' (first | exact True.intro | refine And.intro rfl ?_)
          · first | exact True.intro | omega | (simp; omega) | simp
          · rintro i a w hpr hf hh
            refine sy_seq ?_
            refine sy_ops ?_
            refine ops_v hf hh (yv_bin rfl rfl rfl) (.inl rfl) rfl rfl rfl ?_; clear hf; clear a; intro a hf
            refine ops_end ?_
            refine then_n ?_
            refine sy_seq ?_
            refine sy_cond hf rfl (fun hg43 => ?_) (fun hg43 => ?_)
            · have hG43 := hg43; try simp only [gS] at hG43
              refine sy_skip ?_
              refine then_n ?_
              refine sy_seq ?_
              refine sy_block ?_
              refine sy_seq ?_
              refine sy_ops ?_
              refine ops_v hf hh (yv_move rfl) (.inl rfl) rfl rfl rfl ?_; clear hf; clear a; intro a hf
              refine ops_v hf hh (yv_assign rfl) (.inl rfl) rfl rfl rfl ?_; clear hf; clear a; intro a hf
              refine ops_end ?_
              refine then_n ?_
              refine sy_seq ?_
              refine sy_seq ?_
              refine sy_ops ?_
              refine ops_v hf hh (yv_move rfl) (.inl rfl) rfl rfl rfl ?_; clear hf; clear a; intro a hf
              refine ops_v hf hh (yv_move rfl) (.inl rfl) rfl rfl rfl ?_; clear hf; clear a; intro a hf
              refine ops_buildSl hf hh Tryd.bl_45_1 rfl rfl (.inl rfl) rfl ?_; clear hf hh; clear a; intro B158 a w hf hh
              refine ops_call hf Tryd.en_32 rfl rfl rfl (.inl rfl) rfl (c32a b sa sc B2 B158 i _ hV (hT.ext hh.ext (by simp)) (hS.ext hh.ext) (by omega) (hh.at (i := 1) rfl) (hh.at (i := 0) rfl)) ?_; clear hf; clear a; intro v a w hR hf
              obtain ⟨rfl, hx⟩ := hR; replace hh := hh.more hx; clear hx
              refine ops_v hf hh (yv_assign rfl) (.inl rfl) rfl rfl rfl ?_; clear hf; clear a; intro a hf
              refine ops_end ?_
              refine then_n ?_
              refine sy_seq ?_
              refine sy_ops ?_
              refine ops_v hf hh (yv_move rfl) (.inl rfl) rfl rfl rfl ?_; clear hf; clear a; intro a hf
              refine ops_v hf hh (yv_bin rfl rfl rfl) (.inl rfl) rfl rfl rfl ?_; clear hf; clear a; intro a hf
              refine ops_v hf hh (yv_move rfl) (.inl rfl) rfl rfl rfl ?_; clear hf; clear a; intro a hf
              refine ops_v hf hh (yv_move rfl) (gon rfl rfl rfl (by first | assumption | rfl | (simp; done) | (simp; omega))) rfl rfl rfl ?_; clear hf; clear a; intro a hf
              refine ops_v hf hh (yv_not rfl) (gon rfl rfl rfl (by first | assumption | rfl | (simp; done) | (simp; omega))) rfl rfl rfl ?_; clear hf; clear a; intro a hf
              refine ops_v hf hh (yv_pick_t rfl (by first | assumption | rfl | (simp; done) | (simp; omega)) rfl) (.inl rfl) rfl rfl rfl ?_; clear hf; clear a; intro a hf
              refine ops_v hf hh (yv_move rfl) (.inl rfl) rfl rfl rfl ?_; clear hf; clear a; intro a hf
              refine guard_split hf (t := 166) rfl (fun hg46 => ?_) (fun hg46 => ?_)
              · have hG46 := hg46; try simp only [gS] at hG46
                refine ops_off hf (goff rfl rfl rfl (by first | assumption | rfl | (simp; done) | (simp; omega))) rfl rfl ?_; clear hf; clear a; intro a hf
                refine ops_off hf (goff rfl rfl rfl (by first | assumption | rfl | (simp; done) | (simp; omega))) rfl rfl ?_; clear hf; clear a; intro a hf
                refine ops_off hf (goff rfl rfl rfl (by first | assumption | rfl | (simp; done) | (simp; omega))) rfl rfl ?_; clear hf; clear a; intro a hf
                refine ops_off hf (goffu rfl rfl rfl) rfl rfl ?_; clear hf; clear a; intro a hf
                refine ops_off hf (goffu rfl rfl rfl) rfl rfl ?_; clear hf; clear a; intro a hf
                refine ops_off hf (goffu rfl rfl rfl) rfl rfl ?_; clear hf; clear a; intro a hf
                refine ops_off hf (goffu rfl rfl rfl) rfl rfl ?_; clear hf; clear a; intro a hf
                refine ops_off hf (goffu rfl rfl rfl) rfl rfl ?_; clear hf; clear a; intro a hf
                refine ops_off hf (goffu rfl rfl rfl) rfl rfl ?_; clear hf; clear a; intro a hf
                refine ops_off hf (goffu rfl rfl rfl) rfl rfl ?_; clear hf; clear a; intro a hf
                refine ops_off hf (goffu rfl rfl rfl) rfl rfl ?_; clear hf; clear a; intro a hf
                refine ops_off hf (goffu rfl rfl rfl) rfl rfl ?_; clear hf; clear a; intro a hf
                refine ops_off hf (goffu rfl rfl rfl) rfl rfl ?_; clear hf; clear a; intro a hf
                refine ops_off hf (goffu rfl rfl rfl) rfl rfl ?_; clear hf; clear a; intro a hf
                refine ops_off hf (goffu rfl rfl rfl) rfl rfl ?_; clear hf; clear a; intro a hf
                refine ops_off hf (goffu rfl rfl rfl) rfl rfl ?_; clear hf; clear a; intro a hf
                refine ops_off hf (goffu rfl rfl rfl) rfl rfl ?_; clear hf; clear a; intro a hf
                refine ops_off hf (goffu rfl rfl rfl) rfl rfl ?_; clear hf; clear a; intro a hf
                refine ops_off hf (goff rfl rfl rfl (by first | assumption | rfl | (simp; done) | (simp; omega))) rfl rfl ?_; clear hf; clear a; intro a hf
                refine ops_v hf hh (yv_pick_t rfl (by first | assumption | rfl | (simp; done) | (simp; omega)) rfl) (.inl rfl) rfl rfl rfl ?_; clear hf; clear a; intro a hf
                refine ops_end ?_
                refine then_n ?_
                refine sy_ct hf rfl (by first | assumption | rfl | (simp; done) | (simp; omega)) ?_
                refine sy_seq ?_
                refine sy_ops ?_
                refine ops_v hf hh (yv_assign rfl) (.inl rfl) rfl rfl rfl ?_; clear hf; clear a; intro a hf
                refine ops_end ?_
                refine then_n ?_
                refine sy_ret ?_
                refine then_r ?_
                refine blk_r ?_
                refine then_r ?_
                refine then_r ?_
                refine blk_r ?_
                refine then_r ?_
                refine ret_r hf rfl rfl ?_
                first
                  | exact ⟨rfl, hh.ext⟩
                  | (exfalso; omega)
                  | (exfalso
                     have h3 : neverB b (2 ^ i) = true := by assumption
                     rw [hno i (by omega)] at h3; cases h3)
                  | (exfalso
                     have h3 : neverB b (2 ^ i ||| 2 ^ k) = true := by assumption
                     rw [hn2 i k (by omega) (by omega) (by omega)] at h3; cases h3)
                  | (exfalso
                     have hi : i = i0 := by omega
                     have hk : k = k0 := by omega
                     subst hi; subst hk
                     have h3 : neverB b (2 ^ i ||| 2 ^ k) = false := by assumption
                     rw [hn1] at h3; cases h3)
              · have hG46 := hg46; try simp only [gS] at hG46
                refine ops_v hf hh (yv_move rfl) (gon rfl rfl rfl (by first | assumption | rfl | (simp; done) | (simp; omega))) rfl rfl rfl ?_; clear hf; clear a; intro a hf
                refine ops_v hf hh (yv_bin rfl rfl rfl) (gon rfl rfl rfl (by first | assumption | rfl | (simp; done) | (simp; omega))) rfl rfl rfl ?_; clear hf; clear a; intro a hf
                refine ops_v hf hh (yv_move rfl) (gon rfl rfl rfl (by first | assumption | rfl | (simp; done) | (simp; omega))) rfl rfl rfl ?_; clear hf; clear a; intro a hf
                refine ops_off hf (goff rfl rfl rfl (by first | assumption | rfl | (simp; done) | (simp; omega))) rfl rfl ?_; clear hf; clear a; intro a hf
                refine ops_off hf (goff rfl rfl rfl (by first | assumption | rfl | (simp; done) | (simp; omega))) rfl rfl ?_; clear hf; clear a; intro a hf
                refine ops_off hf (goff rfl rfl rfl (by first | assumption | rfl | (simp; done) | (simp; omega))) rfl rfl ?_; clear hf; clear a; intro a hf
                refine ops_off hf (goff rfl rfl rfl (by first | assumption | rfl | (simp; done) | (simp; omega))) rfl rfl ?_; clear hf; clear a; intro a hf
                refine ops_off hf (goffu rfl rfl rfl) rfl rfl ?_; clear hf; clear a; intro a hf
                refine ops_off hf (goffu rfl rfl rfl) rfl rfl ?_; clear hf; clear a; intro a hf
                refine ops_off hf (goff rfl rfl rfl (by first | assumption | rfl | (simp; done) | (simp; omega))) rfl rfl ?_; clear hf; clear a; intro a hf
                refine ops_off hf (goff rfl rfl rfl (by first | assumption | rfl | (simp; done) | (simp; omega))) rfl rfl ?_; clear hf; clear a; intro a hf
                refine ops_off hf (goffu rfl rfl rfl) rfl rfl ?_; clear hf; clear a; intro a hf
                refine ops_off hf (goffu rfl rfl rfl) rfl rfl ?_; clear hf; clear a; intro a hf
                refine ops_off hf (goffu rfl rfl rfl) rfl rfl ?_; clear hf; clear a; intro a hf
                refine ops_off hf (goffu rfl rfl rfl) rfl rfl ?_; clear hf; clear a; intro a hf
                refine ops_off hf (goffu rfl rfl rfl) rfl rfl ?_; clear hf; clear a; intro a hf
                refine ops_off hf (goffu rfl rfl rfl) rfl rfl ?_; clear hf; clear a; intro a hf
                refine ops_off hf (goff rfl rfl rfl (by first | assumption | rfl | (simp; done) | (simp; omega))) rfl rfl ?_; clear hf; clear a; intro a hf
                refine ops_v hf hh (yv_pick_f rfl (by first | assumption | rfl | (simp; done) | (simp; omega)) rfl) (gon rfl rfl rfl (by first | assumption | rfl | (simp; done) | (simp; omega))) rfl rfl rfl ?_; clear hf; clear a; intro a hf
                refine ops_v hf hh (yv_pick_f rfl (by first | assumption | rfl | (simp; done) | (simp; omega)) rfl) (.inl rfl) rfl rfl rfl ?_; clear hf; clear a; intro a hf
                refine ops_end ?_
                refine then_n ?_
                refine sy_cf hf rfl (by first | assumption | rfl | (simp; done) | (simp; omega)) ?_
                refine sy_skip ?_
                refine then_n ?_
                refine sy_seq ?_
                refine sy_ops ?_
                refine ops_v hf hh (yv_move rfl) (.inl rfl) rfl rfl rfl ?_; clear hf; clear a; intro a hf
                first | refine ops_v hf hh (yv_add rfl rfl (by omega) (by omega)) (.inl rfl) rfl rfl rfl ?_; clear hf; clear a; intro a hf | refine ops_v hf hh (yv_bin rfl rfl rfl) (.inl rfl) rfl rfl rfl ?_; clear hf; clear a; intro a hf
                refine ops_v hf hh (yv_assign rfl) (.inl rfl) rfl rfl rfl ?_; clear hf; clear a; intro a hf
                refine ops_end ?_
                refine then_n ?_
                refine sy_block ?_
                refine sy_loopF (σ := Nat) [4, 17, 18, 189, 190, 191, 192, 193, 194, 195, 196, 197, 198, 199, 200, 201, 202, 203, 204, 205, 206, 207, 208, 209, 210, 211, 212, 213, 214, 215, 216, 217, 218, 219, 220, 221, 222, 223, 224, 225, 226, 227, 228, 229, 230, 231, 232, 233, 234, 235, 236, 237, 238, 239, 240, 241, 242, 243, 244] (fun k => [(17, .int .i64 k)]) (fun k => i + 1 ≤ k ∧ k ≤ b.scenes.length) (fun k => b.scenes.length - k) (i + 1) hf hh ?_ ?_ ?_
                · repeat' (first | exact True.intro | refine And.intro rfl ?_)
                · omega
                · rintro k a w ⟨hk1, hk2⟩ hf hh
                  refine sy_seq ?_
                  refine sy_seq ?_
                  refine sy_ops ?_
                  refine ops_v hf hh (yv_move rfl) (.inl rfl) rfl rfl rfl ?_; clear hf; clear a; intro a hf
                  refine ops_v hf hh (yv_move rfl) (.inl rfl) rfl rfl rfl ?_; clear hf; clear a; intro a hf
                  refine ops_v hf hh (yv_bin rfl rfl rfl) (.inl rfl) rfl rfl rfl ?_; clear hf; clear a; intro a hf
                  refine ops_v hf hh (yv_move rfl) (.inl rfl) rfl rfl rfl ?_; clear hf; clear a; intro a hf
                  refine guard_split hf (t := 192) rfl (fun hg49 => ?_) (fun hg49 => ?_)
                  · have hG49 := hg49; try simp only [gS] at hG49
                    refine ops_v hf hh (yv_move rfl) (gon rfl rfl rfl (by first | assumption | rfl | (simp; done) | (simp; omega))) rfl rfl rfl ?_; clear hf; clear a; intro a hf
                    refine ops_v hf hh (yv_bin rfl rfl rfl) (gon rfl rfl rfl (by first | assumption | rfl | (simp; done) | (simp; omega))) rfl rfl rfl ?_; clear hf; clear a; intro a hf
                    refine ops_v hf hh (yv_pick_t rfl (by first | assumption | rfl | (simp; done) | (simp; omega)) rfl) (.inl rfl) rfl rfl rfl ?_; clear hf; clear a; intro a hf
                    refine ops_end ?_
                    refine then_n ?_
                    refine sy_ct hf rfl (by first | assumption | rfl | (simp; done) | (simp; omega)) ?_
                    refine sy_skip ?_
                    refine then_n ?_
                    refine sy_seq ?_
                    refine sy_block ?_
                    refine sy_seq ?_
                    refine sy_ops ?_
                    refine ops_v hf hh (yv_move rfl) (.inl rfl) rfl rfl rfl ?_; clear hf; clear a; intro a hf
                    refine ops_v hf hh (yv_move rfl) (.inl rfl) rfl rfl rfl ?_; clear hf; clear a; intro a hf
                    refine ops_v hf hh (yv_move rfl) (.inl rfl) rfl rfl rfl ?_; clear hf; clear a; intro a hf
                    refine ops_buildSl hf hh Tryd.bl_45_2 rfl rfl (.inl rfl) rfl ?_; clear hf hh; clear a; intro B201 a w hf hh
                    refine ops_call hf Tryd.en_32 rfl rfl rfl (.inl rfl) rfl (c32b b sa sc B2 B201 i k _ hV (hT.ext hh.ext (by simp)) (hS.ext hh.ext) (by omega) (by omega) (hh.at (i := 2) rfl) (hh.at (i := 0) rfl)) ?_; clear hf; clear a; intro v a w hR hf
                    obtain ⟨rfl, hx⟩ := hR; replace hh := hh.more hx; clear hx
                    refine ops_v hf hh (yv_assign rfl) (.inl rfl) rfl rfl rfl ?_; clear hf; clear a; intro a hf
                    refine ops_end ?_
                    refine then_n ?_
                    refine sy_seq ?_
                    refine sy_ops ?_
                    refine ops_v hf hh (yv_move rfl) (.inl rfl) rfl rfl rfl ?_; clear hf; clear a; intro a hf
                    refine ops_v hf hh (yv_bin rfl rfl rfl) (.inl rfl) rfl rfl rfl ?_; clear hf; clear a; intro a hf
                    refine ops_v hf hh (yv_move rfl) (.inl rfl) rfl rfl rfl ?_; clear hf; clear a; intro a hf
                    refine ops_off hf (goff rfl rfl rfl (by first | assumption | rfl | (simp; done) | (simp; omega))) rfl rfl ?_; clear hf; clear a; intro a hf
                    refine ops_off hf (goff rfl rfl rfl (by first | assumption | rfl | (simp; done) | (simp; omega))) rfl rfl ?_; clear hf; clear a; intro a hf
                    refine ops_v hf hh (yv_pick_f rfl (by first | assumption | rfl | (simp; done) | (simp; omega)) rfl) (.inl rfl) rfl rfl rfl ?_; clear hf; clear a; intro a hf
                    refine ops_v hf hh (yv_move rfl) (.inl rfl) rfl rfl rfl ?_; clear hf; clear a; intro a hf
                    refine ops_v hf hh (yv_move rfl) (gon rfl rfl rfl (by first | assumption | rfl | (simp; done) | (simp; omega))) rfl rfl rfl ?_; clear hf; clear a; intro a hf
                    refine ops_v hf hh (yv_bin rfl rfl rfl) (gon rfl rfl rfl (by first | assumption | rfl | (simp; done) | (simp; omega))) rfl rfl rfl ?_; clear hf; clear a; intro a hf
                    refine ops_v hf hh (yv_move rfl) (gon rfl rfl rfl (by first | assumption | rfl | (simp; done) | (simp; omega))) rfl rfl rfl ?_; clear hf; clear a; intro a hf
                    refine ops_v hf hh (yv_move rfl) (gon rfl rfl rfl (by first | assumption | rfl | (simp; done) | (simp; omega))) rfl rfl rfl ?_; clear hf; clear a; intro a hf
                    refine ops_v hf hh (yv_move rfl) (gon rfl rfl rfl (by first | assumption | rfl | (simp; done) | (simp; omega))) rfl rfl rfl ?_; clear hf; clear a; intro a hf
                    refine ops_v hf hh (yv_bin rfl rfl rfl) (gon rfl rfl rfl (by first | assumption | rfl | (simp; done) | (simp; omega))) rfl rfl rfl ?_; clear hf; clear a; intro a hf
                    refine ops_v hf hh (yv_move rfl) (gon rfl rfl rfl (by first | assumption | rfl | (simp; done) | (simp; omega))) rfl rfl rfl ?_; clear hf; clear a; intro a hf
                    refine guard_split hf (t := 216) rfl (fun hg55 => ?_) (fun hg55 => ?_)
                    · have hG55 := hg55; try simp only [gS] at hG55
                      refine ops_v hf hh (yv_move rfl) (gon rfl rfl rfl (by first | assumption | rfl | (simp; done) | (simp; omega))) rfl rfl rfl ?_; clear hf; clear a; intro a hf
                      refine ops_v hf hh (yv_move rfl) (gon rfl rfl rfl (by first | assumption | rfl | (simp; done) | (simp; omega))) rfl rfl rfl ?_; clear hf; clear a; intro a hf
                      refine ops_v hf hh (yv_bin rfl rfl rfl) (gon rfl rfl rfl (by first | assumption | rfl | (simp; done) | (simp; omega))) rfl rfl rfl ?_; clear hf; clear a; intro a hf
                      refine ops_v hf hh (yv_pick_t rfl (by first | assumption | rfl | (simp; done) | (simp; omega)) rfl) (gon rfl rfl rfl (by first | assumption | rfl | (simp; done) | (simp; omega))) rfl rfl rfl ?_; clear hf; clear a; intro a hf
                      refine ops_v hf hh (yv_move rfl) (gon rfl rfl rfl (by first | assumption | rfl | (simp; done) | (simp; omega))) rfl rfl rfl ?_; clear hf; clear a; intro a hf
                      refine guard_split hf (t := 221) rfl (fun hg57 => ?_) (fun hg57 => ?_)
                      · have hG57 := hg57; try simp only [gS] at hG57
                        refine ops_v hf hh (yv_move rfl) (gon rfl rfl rfl (by first | assumption | rfl | (simp; done) | (simp; omega))) rfl rfl rfl ?_; clear hf; clear a; intro a hf
                        refine ops_v hf hh (yv_pick_t rfl (by first | assumption | rfl | (simp; done) | (simp; omega)) rfl) (gon rfl rfl rfl (by first | assumption | rfl | (simp; done) | (simp; omega))) rfl rfl rfl ?_; clear hf; clear a; intro a hf
                        refine ops_v hf hh (yv_move rfl) (gon rfl rfl rfl (by first | assumption | rfl | (simp; done) | (simp; omega))) rfl rfl rfl ?_; clear hf; clear a; intro a hf
                        refine guard_split hf (t := 224) rfl (fun hg58 => ?_) (fun hg58 => ?_)
                        · have hG58 := hg58; try simp only [gS] at hG58
                          refine ops_off hf (goff rfl rfl rfl (by first | assumption | rfl | (simp; done) | (simp; omega))) rfl rfl ?_; clear hf; clear a; intro a hf
                          refine ops_off hf (goff rfl rfl rfl (by first | assumption | rfl | (simp; done) | (simp; omega))) rfl rfl ?_; clear hf; clear a; intro a hf
                          refine ops_off hf (goff rfl rfl rfl (by first | assumption | rfl | (simp; done) | (simp; omega))) rfl rfl ?_; clear hf; clear a; intro a hf
                          refine ops_off hf (goff rfl rfl rfl (by first | assumption | rfl | (simp; done) | (simp; omega))) rfl rfl ?_; clear hf; clear a; intro a hf
                          refine ops_off hf (goffu rfl rfl rfl) rfl rfl ?_; clear hf; clear a; intro a hf
                          refine ops_off hf (goffu rfl rfl rfl) rfl rfl ?_; clear hf; clear a; intro a hf
                          refine ops_off hf (goffu rfl rfl rfl) rfl rfl ?_; clear hf; clear a; intro a hf
                          refine ops_off hf (goffu rfl rfl rfl) rfl rfl ?_; clear hf; clear a; intro a hf
                          refine ops_off hf (goffu rfl rfl rfl) rfl rfl ?_; clear hf; clear a; intro a hf
                          refine ops_off hf (goffu rfl rfl rfl) rfl rfl ?_; clear hf; clear a; intro a hf
                          refine ops_off hf (goffu rfl rfl rfl) rfl rfl ?_; clear hf; clear a; intro a hf
                          refine ops_off hf (goffu rfl rfl rfl) rfl rfl ?_; clear hf; clear a; intro a hf
                          refine ops_off hf (goff rfl rfl rfl (by first | assumption | rfl | (simp; done) | (simp; omega))) rfl rfl ?_; clear hf; clear a; intro a hf
                          refine ops_off hf (goff rfl rfl rfl (by first | assumption | rfl | (simp; done) | (simp; omega))) rfl rfl ?_; clear hf; clear a; intro a hf
                          refine ops_off hf (goffu rfl rfl rfl) rfl rfl ?_; clear hf; clear a; intro a hf
                          refine ops_off hf (goffu rfl rfl rfl) rfl rfl ?_; clear hf; clear a; intro a hf
                          refine ops_off hf (goff rfl rfl rfl (by first | assumption | rfl | (simp; done) | (simp; omega))) rfl rfl ?_; clear hf; clear a; intro a hf
                          refine ops_v hf hh (yv_pick_t rfl (by first | assumption | rfl | (simp; done) | (simp; omega)) rfl) (gon rfl rfl rfl (by first | assumption | rfl | (simp; done) | (simp; omega))) rfl rfl rfl ?_; clear hf; clear a; intro a hf
                          refine ops_v hf hh (yv_pick_t rfl (by first | assumption | rfl | (simp; done) | (simp; omega)) rfl) (gon rfl rfl rfl (by first | assumption | rfl | (simp; done) | (simp; omega))) rfl rfl rfl ?_; clear hf; clear a; intro a hf
                          refine ops_v hf hh (yv_pick_f rfl (by first | assumption | rfl | (simp; done) | (simp; omega)) rfl) (.inl rfl) rfl rfl rfl ?_; clear hf; clear a; intro a hf
                          refine ops_end ?_
                          refine then_n ?_
                          refine sy_ct hf rfl (by first | assumption | rfl | (simp; done) | (simp; omega)) ?_
                          refine sy_seq ?_
                          refine sy_ops ?_
                          refine ops_v hf hh (yv_assign rfl) (.inl rfl) rfl rfl rfl ?_; clear hf; clear a; intro a hf
                          refine ops_end ?_
                          refine then_n ?_
                          refine sy_ret ?_
                          refine blk_r ?_
                          refine then_r ?_
                          refine then_r ?_
                          refine blk_r ?_
                          refine blk_r ?_
                          refine then_r ?_
                          refine then_r ?_
                          refine blk_r ?_
                          refine then_r ?_
                          refine ret_r hf rfl rfl ?_
                          first
                            | exact ⟨rfl, hh.ext⟩
                            | (exfalso; omega)
                            | (exfalso
                               have h3 : neverB b (2 ^ i) = true := by assumption
                               rw [hno i (by omega)] at h3; cases h3)
                            | (exfalso
                               have h3 : neverB b (2 ^ i ||| 2 ^ k) = true := by assumption
                               rw [hn2 i k (by omega) (by omega) (by omega)] at h3; cases h3)
                            | (exfalso
                               have hi : i = i0 := by omega
                               have hk : k = k0 := by omega
                               subst hi; subst hk
                               have h3 : neverB b (2 ^ i ||| 2 ^ k) = false := by assumption
                               rw [hn1] at h3; cases h3)
                        · have hG58 := hg58; try simp only [gS] at hG58
                          refine ops_v hf hh (yv_move rfl) (gon rfl rfl rfl (by first | assumption | rfl | (simp; done) | (simp; omega))) rfl rfl rfl ?_; clear hf; clear a; intro a hf
                          refine ops_v hf hh (yv_move rfl) (gon rfl rfl rfl (by first | assumption | rfl | (simp; done) | (simp; omega))) rfl rfl rfl ?_; clear hf; clear a; intro a hf
                          refine ops_v hf hh (yv_bin rfl rfl rfl) (gon rfl rfl rfl (by first | assumption | rfl | (simp; done) | (simp; omega))) rfl rfl rfl ?_; clear hf; clear a; intro a hf
                          refine ops_v hf hh (yv_move rfl) (gon rfl rfl rfl (by first | assumption | rfl | (simp; done) | (simp; omega))) rfl rfl rfl ?_; clear hf; clear a; intro a hf
                          refine guard_split hf (t := 228) rfl (fun hg60 => ?_) (fun hg60 => ?_)
                          · have hG60 := hg60; try simp only [gS] at hG60
                            refine ops_off hf (goff rfl rfl rfl (by first | assumption | rfl | (simp; done) | (simp; omega))) rfl rfl ?_; clear hf; clear a; intro a hf
                            refine ops_off hf (goff rfl rfl rfl (by first | assumption | rfl | (simp; done) | (simp; omega))) rfl rfl ?_; clear hf; clear a; intro a hf
                            refine ops_off hf (goff rfl rfl rfl (by first | assumption | rfl | (simp; done) | (simp; omega))) rfl rfl ?_; clear hf; clear a; intro a hf
                            refine ops_off hf (goff rfl rfl rfl (by first | assumption | rfl | (simp; done) | (simp; omega))) rfl rfl ?_; clear hf; clear a; intro a hf
                            refine ops_off hf (goffu rfl rfl rfl) rfl rfl ?_; clear hf; clear a; intro a hf
                            refine ops_off hf (goffu rfl rfl rfl) rfl rfl ?_; clear hf; clear a; intro a hf
                            refine ops_off hf (goffu rfl rfl rfl) rfl rfl ?_; clear hf; clear a; intro a hf
                            refine ops_off hf (goff rfl rfl rfl (by first | assumption | rfl | (simp; done) | (simp; omega))) rfl rfl ?_; clear hf; clear a; intro a hf
                            refine ops_v hf hh (yv_pick_t rfl (by first | assumption | rfl | (simp; done) | (simp; omega)) rfl) (gon rfl rfl rfl (by first | assumption | rfl | (simp; done) | (simp; omega))) rfl rfl rfl ?_; clear hf; clear a; intro a hf
                            refine ops_v hf hh (yv_move rfl) (gon rfl rfl rfl (by first | assumption | rfl | (simp; done) | (simp; omega))) rfl rfl rfl ?_; clear hf; clear a; intro a hf
                            refine ops_v hf hh (yv_move rfl) (gon rfl rfl rfl (by first | assumption | rfl | (simp; done) | (simp; omega))) rfl rfl rfl ?_; clear hf; clear a; intro a hf
                            refine ops_v hf hh (yv_not rfl) (gon rfl rfl rfl (by first | assumption | rfl | (simp; done) | (simp; omega))) rfl rfl rfl ?_; clear hf; clear a; intro a hf
                            refine ops_v hf hh (yv_pick_t rfl (by first | assumption | rfl | (simp; done) | (simp; omega)) rfl) (gon rfl rfl rfl (by first | assumption | rfl | (simp; done) | (simp; omega))) rfl rfl rfl ?_; clear hf; clear a; intro a hf
                            refine ops_v hf hh (yv_pick_f rfl (by first | assumption | rfl | (simp; done) | (simp; omega)) rfl) (gon rfl rfl rfl (by first | assumption | rfl | (simp; done) | (simp; omega))) rfl rfl rfl ?_; clear hf; clear a; intro a hf
                            refine ops_v hf hh (yv_pick_t rfl (by first | assumption | rfl | (simp; done) | (simp; omega)) rfl) (gon rfl rfl rfl (by first | assumption | rfl | (simp; done) | (simp; omega))) rfl rfl rfl ?_; clear hf; clear a; intro a hf
                            refine ops_v hf hh (yv_pick_f rfl (by first | assumption | rfl | (simp; done) | (simp; omega)) rfl) (.inl rfl) rfl rfl rfl ?_; clear hf; clear a; intro a hf
                            refine ops_end ?_
                            refine then_n ?_
                            refine sy_ct hf rfl (by first | assumption | rfl | (simp; done) | (simp; omega)) ?_
                            refine sy_seq ?_
                            refine sy_ops ?_
                            refine ops_v hf hh (yv_assign rfl) (.inl rfl) rfl rfl rfl ?_; clear hf; clear a; intro a hf
                            refine ops_end ?_
                            refine then_n ?_
                            refine sy_ret ?_
                            refine blk_r ?_
                            refine then_r ?_
                            refine then_r ?_
                            refine blk_r ?_
                            refine blk_r ?_
                            refine then_r ?_
                            refine then_r ?_
                            refine blk_r ?_
                            refine then_r ?_
                            refine ret_r hf rfl rfl ?_
                            first
                              | exact ⟨rfl, hh.ext⟩
                              | (exfalso; omega)
                              | (exfalso
                                 have h3 : neverB b (2 ^ i) = true := by assumption
                                 rw [hno i (by omega)] at h3; cases h3)
                              | (exfalso
                                 have h3 : neverB b (2 ^ i ||| 2 ^ k) = true := by assumption
                                 rw [hn2 i k (by omega) (by omega) (by omega)] at h3; cases h3)
                              | (exfalso
                                 have hi : i = i0 := by omega
                                 have hk : k = k0 := by omega
                                 subst hi; subst hk
                                 have h3 : neverB b (2 ^ i ||| 2 ^ k) = false := by assumption
                                 rw [hn1] at h3; cases h3)
                          · have hG60 := hg60; try simp only [gS] at hG60
                            refine ops_v hf hh (yv_move rfl) (gon rfl rfl rfl (by first | assumption | rfl | (simp; done) | (simp; omega))) rfl rfl rfl ?_; clear hf; clear a; intro a hf
                            refine ops_v hf hh (yv_move rfl) (gon rfl rfl rfl (by first | assumption | rfl | (simp; done) | (simp; omega))) rfl rfl rfl ?_; clear hf; clear a; intro a hf
                            refine ops_v hf hh (yv_bin rfl rfl rfl) (gon rfl rfl rfl (by first | assumption | rfl | (simp; done) | (simp; omega))) rfl rfl rfl ?_; clear hf; clear a; intro a hf
                            refine ops_v hf hh (yv_move rfl) (gon rfl rfl rfl (by first | assumption | rfl | (simp; done) | (simp; omega))) rfl rfl rfl ?_; clear hf; clear a; intro a hf
                            refine guard_split hf (t := 232) rfl (fun hg62 => ?_) (fun hg62 => ?_)
                            · have hG62 := hg62; try simp only [gS] at hG62
                              refine ops_v hf hh (yv_move rfl) (gon rfl rfl rfl (by first | assumption | rfl | (simp; done) | (simp; omega))) rfl rfl rfl ?_; clear hf; clear a; intro a hf
                              refine ops_v hf hh (yv_move rfl) (gon rfl rfl rfl (by first | assumption | rfl | (simp; done) | (simp; omega))) rfl rfl rfl ?_; clear hf; clear a; intro a hf
                              refine ops_v hf hh (yv_bin rfl rfl rfl) (gon rfl rfl rfl (by first | assumption | rfl | (simp; done) | (simp; omega))) rfl rfl rfl ?_; clear hf; clear a; intro a hf
                              refine ops_v hf hh (yv_pick_t rfl (by first | assumption | rfl | (simp; done) | (simp; omega)) rfl) (gon rfl rfl rfl (by first | assumption | rfl | (simp; done) | (simp; omega))) rfl rfl rfl ?_; clear hf; clear a; intro a hf
                              refine ops_v hf hh (yv_pick_f rfl (by first | assumption | rfl | (simp; done) | (simp; omega)) rfl) (gon rfl rfl rfl (by first | assumption | rfl | (simp; done) | (simp; omega))) rfl rfl rfl ?_; clear hf; clear a; intro a hf
                              refine ops_v hf hh (yv_move rfl) (gon rfl rfl rfl (by first | assumption | rfl | (simp; done) | (simp; omega))) rfl rfl rfl ?_; clear hf; clear a; intro a hf
                              refine guard_split hf (t := 238) rfl (fun hg64 => ?_) (fun hg64 => ?_)
                              · have hG64 := hg64; try simp only [gS] at hG64
                                refine ops_v hf hh (yv_move rfl) (gon rfl rfl rfl (by first | assumption | rfl | (simp; done) | (simp; omega))) rfl rfl rfl ?_; clear hf; clear a; intro a hf
                                refine ops_v hf hh (yv_not rfl) (gon rfl rfl rfl (by first | assumption | rfl | (simp; done) | (simp; omega))) rfl rfl rfl ?_; clear hf; clear a; intro a hf
                                refine ops_v hf hh (yv_pick_t rfl (by first | assumption | rfl | (simp; done) | (simp; omega)) rfl) (gon rfl rfl rfl (by first | assumption | rfl | (simp; done) | (simp; omega))) rfl rfl rfl ?_; clear hf; clear a; intro a hf
                                refine ops_v hf hh (yv_pick_f rfl (by first | assumption | rfl | (simp; done) | (simp; omega)) rfl) (gon rfl rfl rfl (by first | assumption | rfl | (simp; done) | (simp; omega))) rfl rfl rfl ?_; clear hf; clear a; intro a hf
                                refine ops_v hf hh (yv_pick_t rfl (by first | assumption | rfl | (simp; done) | (simp; omega)) rfl) (gon rfl rfl rfl (by first | assumption | rfl | (simp; done) | (simp; omega))) rfl rfl rfl ?_; clear hf; clear a; intro a hf
                                refine ops_v hf hh (yv_pick_f rfl (by first | assumption | rfl | (simp; done) | (simp; omega)) rfl) (.inl rfl) rfl rfl rfl ?_; clear hf; clear a; intro a hf
                                refine ops_end ?_
                                refine then_n ?_
                                refine sy_ct hf rfl (by first | assumption | rfl | (simp; done) | (simp; omega)) ?_
                                refine sy_seq ?_
                                refine sy_ops ?_
                                refine ops_v hf hh (yv_assign rfl) (.inl rfl) rfl rfl rfl ?_; clear hf; clear a; intro a hf
                                refine ops_end ?_
                                refine then_n ?_
                                refine sy_ret ?_
                                refine blk_r ?_
                                refine then_r ?_
                                refine then_r ?_
                                refine blk_r ?_
                                refine blk_r ?_
                                refine then_r ?_
                                refine then_r ?_
                                refine blk_r ?_
                                refine then_r ?_
                                refine ret_r hf rfl rfl ?_
                                first
                                  | exact ⟨rfl, hh.ext⟩
                                  | (exfalso; omega)
                                  | (exfalso
                                     have h3 : neverB b (2 ^ i) = true := by assumption
                                     rw [hno i (by omega)] at h3; cases h3)
                                  | (exfalso
                                     have h3 : neverB b (2 ^ i ||| 2 ^ k) = true := by assumption
                                     rw [hn2 i k (by omega) (by omega) (by omega)] at h3; cases h3)
                                  | (exfalso
                                     have hi : i = i0 := by omega
                                     have hk : k = k0 := by omega
                                     subst hi; subst hk
                                     have h3 : neverB b (2 ^ i ||| 2 ^ k) = false := by assumption
                                     rw [hn1] at h3; cases h3)
                              · have hG64 := hg64; try simp only [gS] at hG64
                                refine ops_off hf (goff rfl rfl rfl (by first | assumption | rfl | (simp; done) | (simp; omega))) rfl rfl ?_; clear hf; clear a; intro a hf
                                refine ops_off hf (goff rfl rfl rfl (by first | assumption | rfl | (simp; done) | (simp; omega))) rfl rfl ?_; clear hf; clear a; intro a hf
                                refine ops_v hf hh (yv_pick_f rfl (by first | assumption | rfl | (simp; done) | (simp; omega)) rfl) (gon rfl rfl rfl (by first | assumption | rfl | (simp; done) | (simp; omega))) rfl rfl rfl ?_; clear hf; clear a; intro a hf
                                refine ops_v hf hh (yv_pick_f rfl (by first | assumption | rfl | (simp; done) | (simp; omega)) rfl) (gon rfl rfl rfl (by first | assumption | rfl | (simp; done) | (simp; omega))) rfl rfl rfl ?_; clear hf; clear a; intro a hf
                                refine ops_v hf hh (yv_pick_t rfl (by first | assumption | rfl | (simp; done) | (simp; omega)) rfl) (gon rfl rfl rfl (by first | assumption | rfl | (simp; done) | (simp; omega))) rfl rfl rfl ?_; clear hf; clear a; intro a hf
                                refine ops_v hf hh (yv_pick_f rfl (by first | assumption | rfl | (simp; done) | (simp; omega)) rfl) (.inl rfl) rfl rfl rfl ?_; clear hf; clear a; intro a hf
                                refine ops_end ?_
                                refine then_n ?_
                                refine sy_cf hf rfl (by first | assumption | rfl | (simp; done) | (simp; omega)) ?_
                                refine sy_skip ?_
                                refine blk_n ?_
                                refine then_n ?_
                                refine sy_ops ?_
                                refine ops_v hf hh (yv_move rfl) (.inl rfl) rfl rfl rfl ?_; clear hf; clear a; intro a hf
                                first | refine ops_v hf hh (yv_add rfl rfl (by omega) (by omega)) (.inl rfl) rfl rfl rfl ?_; clear hf; clear a; intro a hf | refine ops_v hf hh (yv_bin rfl rfl rfl) (.inl rfl) rfl rfl rfl ?_; clear hf; clear a; intro a hf
                                refine ops_v hf hh (yv_assign rfl) (.inl rfl) rfl rfl rfl ?_; clear hf; clear a; intro a hf
                                refine ops_end ?_
                                refine then_n ?_
                                exact ⟨k + 1, ⟨by omega, hf.head ⟨rfl, True.intro⟩ (Keep.cons rfl (Keep.cons rfl (Keep.cons rfl (Keep.cons rfl (Keep.cons rfl (Keep.cons rfl (Keep.cons rfl (Keep.cons rfl (Keep.cons rfl (Keep.cons rfl (Keep.cons rfl (Keep.cons rfl (Keep.cons rfl (Keep.cons rfl (Keep.cons rfl (Keep.cons rfl (Keep.cons rfl (Keep.cons rfl (Keep.cons rfl (Keep.cons rfl (Keep.cons rfl (Keep.cons rfl (Keep.cons rfl (Keep.cons rfl (Keep.cons rfl (Keep.cons rfl (Keep.cons rfl (Keep.cons rfl (Keep.cons rfl (Keep.cons rfl (Keep.cons rfl (Keep.cons rfl (Keep.cons rfl (Keep.cons rfl (Keep.cons rfl (Keep.cons rfl (Keep.cons rfl (Keep.cons rfl (Keep.cons rfl (Keep.cons rfl (Keep.cons rfl (Keep.cons rfl (Keep.cons rfl (Keep.cons rfl (Keep.cons rfl (Keep.cons rfl (Keep.cons rfl (Keep.cons rfl (Keep.cons rfl (Keep.cons rfl (Keep.cons rfl (Keep.cons rfl (Keep.cons rfl (Keep.cons rfl (Keep.cons rfl (Keep.cons rfl (Keep.cons rfl (Keep.cons rfl (Keep.app rfl (Keep.rm rfl Keep.base)))))))))))))))))))))))))))))))))))))))))))))))))))))))))))), hh.less (.cons _ (List.Sublist.refl _))⟩, by omega⟩
                            · have hG62 := hg62; try simp only [gS] at hG62
                              refine ops_off hf (goff rfl rfl rfl (by first | assumption | rfl | (simp; done) | (simp; omega))) rfl rfl ?_; clear hf; clear a; intro a hf
                              refine ops_off hf (goff rfl rfl rfl (by first | assumption | rfl | (simp; done) | (simp; omega))) rfl rfl ?_; clear hf; clear a; intro a hf
                              refine ops_off hf (goff rfl rfl rfl (by first | assumption | rfl | (simp; done) | (simp; omega))) rfl rfl ?_; clear hf; clear a; intro a hf
                              refine ops_v hf hh (yv_pick_f rfl (by first | assumption | rfl | (simp; done) | (simp; omega)) rfl) (gon rfl rfl rfl (by first | assumption | rfl | (simp; done) | (simp; omega))) rfl rfl rfl ?_; clear hf; clear a; intro a hf
                              refine ops_v hf hh (yv_pick_f rfl (by first | assumption | rfl | (simp; done) | (simp; omega)) rfl) (gon rfl rfl rfl (by first | assumption | rfl | (simp; done) | (simp; omega))) rfl rfl rfl ?_; clear hf; clear a; intro a hf
                              refine ops_v hf hh (yv_move rfl) (gon rfl rfl rfl (by first | assumption | rfl | (simp; done) | (simp; omega))) rfl rfl rfl ?_; clear hf; clear a; intro a hf
                              refine ops_off hf (goff rfl rfl rfl (by first | assumption | rfl | (simp; done) | (simp; omega))) rfl rfl ?_; clear hf; clear a; intro a hf
                              refine ops_off hf (goff rfl rfl rfl (by first | assumption | rfl | (simp; done) | (simp; omega))) rfl rfl ?_; clear hf; clear a; intro a hf
                              refine ops_v hf hh (yv_pick_f rfl (by first | assumption | rfl | (simp; done) | (simp; omega)) rfl) (gon rfl rfl rfl (by first | assumption | rfl | (simp; done) | (simp; omega))) rfl rfl rfl ?_; clear hf; clear a; intro a hf
                              refine ops_v hf hh (yv_pick_f rfl (by first | assumption | rfl | (simp; done) | (simp; omega)) rfl) (gon rfl rfl rfl (by first | assumption | rfl | (simp; done) | (simp; omega))) rfl rfl rfl ?_; clear hf; clear a; intro a hf
                              refine ops_v hf hh (yv_pick_t rfl (by first | assumption | rfl | (simp; done) | (simp; omega)) rfl) (gon rfl rfl rfl (by first | assumption | rfl | (simp; done) | (simp; omega))) rfl rfl rfl ?_; clear hf; clear a; intro a hf
                              refine ops_v hf hh (yv_pick_f rfl (by first | assumption | rfl | (simp; done) | (simp; omega)) rfl) (.inl rfl) rfl rfl rfl ?_; clear hf; clear a; intro a hf
                              refine ops_end ?_
                              refine then_n ?_
                              refine sy_cf hf rfl (by first | assumption | rfl | (simp; done) | (simp; omega)) ?_
                              refine sy_skip ?_
                              refine blk_n ?_
                              refine then_n ?_
                              refine sy_ops ?_
                              refine ops_v hf hh (yv_move rfl) (.inl rfl) rfl rfl rfl ?_; clear hf; clear a; intro a hf
                              first | refine ops_v hf hh (yv_add rfl rfl (by omega) (by omega)) (.inl rfl) rfl rfl rfl ?_; clear hf; clear a; intro a hf | refine ops_v hf hh (yv_bin rfl rfl rfl) (.inl rfl) rfl rfl rfl ?_; clear hf; clear a; intro a hf
                              refine ops_v hf hh (yv_assign rfl) (.inl rfl) rfl rfl rfl ?_; clear hf; clear a; intro a hf
                              refine ops_end ?_
                              refine then_n ?_
                              exact ⟨k + 1, ⟨by omega, hf.head ⟨rfl, True.intro⟩ (Keep.cons rfl (Keep.cons rfl (Keep.cons rfl (Keep.cons rfl (Keep.cons rfl (Keep.cons rfl (Keep.cons rfl (Keep.cons rfl (Keep.cons rfl (Keep.cons rfl (Keep.cons rfl (Keep.cons rfl (Keep.cons rfl (Keep.cons rfl (Keep.cons rfl (Keep.cons rfl (Keep.cons rfl (Keep.cons rfl (Keep.cons rfl (Keep.cons rfl (Keep.cons rfl (Keep.cons rfl (Keep.cons rfl (Keep.cons rfl (Keep.cons rfl (Keep.cons rfl (Keep.cons rfl (Keep.cons rfl (Keep.cons rfl (Keep.cons rfl (Keep.cons rfl (Keep.cons rfl (Keep.cons rfl (Keep.cons rfl (Keep.cons rfl (Keep.cons rfl (Keep.cons rfl (Keep.cons rfl (Keep.cons rfl (Keep.cons rfl (Keep.cons rfl (Keep.cons rfl (Keep.cons rfl (Keep.cons rfl (Keep.cons rfl (Keep.cons rfl (Keep.cons rfl (Keep.cons rfl (Keep.cons rfl (Keep.cons rfl (Keep.cons rfl (Keep.cons rfl (Keep.cons rfl (Keep.cons rfl (Keep.cons rfl (Keep.cons rfl (Keep.cons rfl (Keep.cons rfl (Keep.app rfl (Keep.rm rfl Keep.base)))))))))))))))))))))))))))))))))))))))))))))))))))))))))))), hh.less (.cons _ (List.Sublist.refl _))⟩, by omega⟩
                      · have hG57 := hg57; try simp only [gS] at hG57
                        refine ops_off hf (goff rfl rfl rfl (by first | assumption | rfl | (simp; done) | (simp; omega))) rfl rfl ?_; clear hf; clear a; intro a hf
                        refine ops_v hf hh (yv_pick_f rfl (by first | assumption | rfl | (simp; done) | (simp; omega)) rfl) (gon rfl rfl rfl (by first | assumption | rfl | (simp; done) | (simp; omega))) rfl rfl rfl ?_; clear hf; clear a; intro a hf
                        refine ops_v hf hh (yv_move rfl) (gon rfl rfl rfl (by first | assumption | rfl | (simp; done) | (simp; omega))) rfl rfl rfl ?_; clear hf; clear a; intro a hf
                        refine ops_v hf hh (yv_move rfl) (gon rfl rfl rfl (by first | assumption | rfl | (simp; done) | (simp; omega))) rfl rfl rfl ?_; clear hf; clear a; intro a hf
                        refine ops_v hf hh (yv_move rfl) (gon rfl rfl rfl (by first | assumption | rfl | (simp; done) | (simp; omega))) rfl rfl rfl ?_; clear hf; clear a; intro a hf
                        refine ops_v hf hh (yv_bin rfl rfl rfl) (gon rfl rfl rfl (by first | assumption | rfl | (simp; done) | (simp; omega))) rfl rfl rfl ?_; clear hf; clear a; intro a hf
                        refine ops_v hf hh (yv_move rfl) (gon rfl rfl rfl (by first | assumption | rfl | (simp; done) | (simp; omega))) rfl rfl rfl ?_; clear hf; clear a; intro a hf
                        refine guard_split hf (t := 228) rfl (fun hg66 => ?_) (fun hg66 => ?_)
                        · have hG66 := hg66; try simp only [gS] at hG66
                          refine ops_off hf (goff rfl rfl rfl (by first | assumption | rfl | (simp; done) | (simp; omega))) rfl rfl ?_; clear hf; clear a; intro a hf
                          refine ops_off hf (goff rfl rfl rfl (by first | assumption | rfl | (simp; done) | (simp; omega))) rfl rfl ?_; clear hf; clear a; intro a hf
                          refine ops_off hf (goff rfl rfl rfl (by first | assumption | rfl | (simp; done) | (simp; omega))) rfl rfl ?_; clear hf; clear a; intro a hf
                          refine ops_off hf (goff rfl rfl rfl (by first | assumption | rfl | (simp; done) | (simp; omega))) rfl rfl ?_; clear hf; clear a; intro a hf
                          refine ops_off hf (goffu rfl rfl rfl) rfl rfl ?_; clear hf; clear a; intro a hf
                          refine ops_off hf (goffu rfl rfl rfl) rfl rfl ?_; clear hf; clear a; intro a hf
                          refine ops_off hf (goffu rfl rfl rfl) rfl rfl ?_; clear hf; clear a; intro a hf
                          refine ops_off hf (goff rfl rfl rfl (by first | assumption | rfl | (simp; done) | (simp; omega))) rfl rfl ?_; clear hf; clear a; intro a hf
                          refine ops_v hf hh (yv_pick_t rfl (by first | assumption | rfl | (simp; done) | (simp; omega)) rfl) (gon rfl rfl rfl (by first | assumption | rfl | (simp; done) | (simp; omega))) rfl rfl rfl ?_; clear hf; clear a; intro a hf
                          refine ops_v hf hh (yv_move rfl) (gon rfl rfl rfl (by first | assumption | rfl | (simp; done) | (simp; omega))) rfl rfl rfl ?_; clear hf; clear a; intro a hf
                          refine ops_v hf hh (yv_move rfl) (gon rfl rfl rfl (by first | assumption | rfl | (simp; done) | (simp; omega))) rfl rfl rfl ?_; clear hf; clear a; intro a hf
                          refine ops_v hf hh (yv_not rfl) (gon rfl rfl rfl (by first | assumption | rfl | (simp; done) | (simp; omega))) rfl rfl rfl ?_; clear hf; clear a; intro a hf
                          refine ops_v hf hh (yv_pick_t rfl (by first | assumption | rfl | (simp; done) | (simp; omega)) rfl) (gon rfl rfl rfl (by first | assumption | rfl | (simp; done) | (simp; omega))) rfl rfl rfl ?_; clear hf; clear a; intro a hf
                          refine ops_v hf hh (yv_pick_f rfl (by first | assumption | rfl | (simp; done) | (simp; omega)) rfl) (gon rfl rfl rfl (by first | assumption | rfl | (simp; done) | (simp; omega))) rfl rfl rfl ?_; clear hf; clear a; intro a hf
                          refine ops_v hf hh (yv_pick_t rfl (by first | assumption | rfl | (simp; done) | (simp; omega)) rfl) (gon rfl rfl rfl (by first | assumption | rfl | (simp; done) | (simp; omega))) rfl rfl rfl ?_; clear hf; clear a; intro a hf
                          refine ops_v hf hh (yv_pick_f rfl (by first | assumption | rfl | (simp; done) | (simp; omega)) rfl) (.inl rfl) rfl rfl rfl ?_; clear hf; clear a; intro a hf
                          refine ops_end ?_
                          refine then_n ?_
                          refine sy_cond hf rfl (fun hg67 => ?_) (fun hg67 => ?_)
                          · have hG67 := hg67; try simp only [gS] at hG67
                            refine sy_seq ?_
                            refine sy_ops ?_
                            refine ops_v hf hh (yv_assign rfl) (.inl rfl) rfl rfl rfl ?_; clear hf; clear a; intro a hf
                            refine ops_end ?_
                            refine then_n ?_
                            refine sy_ret ?_
                            refine blk_r ?_
                            refine then_r ?_
                            refine then_r ?_
                            refine blk_r ?_
                            refine blk_r ?_
                            refine then_r ?_
                            refine then_r ?_
                            refine blk_r ?_
                            refine then_r ?_
                            refine ret_r hf rfl rfl ?_
                            first
                              | exact ⟨rfl, hh.ext⟩
                              | (exfalso; omega)
                              | (exfalso
                                 have h3 : neverB b (2 ^ i) = true := by assumption
                                 rw [hno i (by omega)] at h3; cases h3)
                              | (exfalso
                                 have h3 : neverB b (2 ^ i ||| 2 ^ k) = true := by assumption
                                 rw [hn2 i k (by omega) (by omega) (by omega)] at h3; cases h3)
                              | (exfalso
                                 have hi : i = i0 := by omega
                                 have hk : k = k0 := by omega
                                 subst hi; subst hk
                                 have h3 : neverB b (2 ^ i ||| 2 ^ k) = false := by assumption
                                 rw [hn1] at h3; cases h3)
                          · have hG67 := hg67; try simp only [gS] at hG67
                            refine sy_skip ?_
                            refine blk_n ?_
                            refine then_n ?_
                            refine sy_ops ?_
                            refine ops_v hf hh (yv_move rfl) (.inl rfl) rfl rfl rfl ?_; clear hf; clear a; intro a hf
                            first | refine ops_v hf hh (yv_add rfl rfl (by omega) (by omega)) (.inl rfl) rfl rfl rfl ?_; clear hf; clear a; intro a hf | refine ops_v hf hh (yv_bin rfl rfl rfl) (.inl rfl) rfl rfl rfl ?_; clear hf; clear a; intro a hf
                            refine ops_v hf hh (yv_assign rfl) (.inl rfl) rfl rfl rfl ?_; clear hf; clear a; intro a hf
                            refine ops_end ?_
                            refine then_n ?_
                            exact ⟨k + 1, ⟨by omega, hf.head ⟨rfl, True.intro⟩ (Keep.cons rfl (Keep.cons rfl (Keep.cons rfl (Keep.cons rfl (Keep.cons rfl (Keep.cons rfl (Keep.cons rfl (Keep.cons rfl (Keep.cons rfl (Keep.cons rfl (Keep.cons rfl (Keep.cons rfl (Keep.cons rfl (Keep.cons rfl (Keep.cons rfl (Keep.cons rfl (Keep.cons rfl (Keep.cons rfl (Keep.cons rfl (Keep.cons rfl (Keep.cons rfl (Keep.cons rfl (Keep.cons rfl (Keep.cons rfl (Keep.cons rfl (Keep.cons rfl (Keep.cons rfl (Keep.cons rfl (Keep.cons rfl (Keep.cons rfl (Keep.cons rfl (Keep.cons rfl (Keep.cons rfl (Keep.cons rfl (Keep.cons rfl (Keep.cons rfl (Keep.cons rfl (Keep.cons rfl (Keep.cons rfl (Keep.cons rfl (Keep.cons rfl (Keep.cons rfl (Keep.cons rfl (Keep.cons rfl (Keep.cons rfl (Keep.cons rfl (Keep.cons rfl (Keep.cons rfl (Keep.cons rfl (Keep.cons rfl (Keep.cons rfl (Keep.cons rfl (Keep.cons rfl (Keep.cons rfl (Keep.cons rfl (Keep.cons rfl (Keep.cons rfl (Keep.cons rfl (Keep.app rfl (Keep.rm rfl Keep.base)))))))))))))))))))))))))))))))))))))))))))))))))))))))))))), hh.less (.cons _ (List.Sublist.refl _))⟩, by omega⟩
                        · have hG66 := hg66; try simp only [gS] at hG66
                          refine ops_v hf hh (yv_move rfl) (gon rfl rfl rfl (by first | assumption | rfl | (simp; done) | (simp; omega))) rfl rfl rfl ?_; clear hf; clear a; intro a hf
                          refine ops_v hf hh (yv_move rfl) (gon rfl rfl rfl (by first | assumption | rfl | (simp; done) | (simp; omega))) rfl rfl rfl ?_; clear hf; clear a; intro a hf
                          refine ops_v hf hh (yv_bin rfl rfl rfl) (gon rfl rfl rfl (by first | assumption | rfl | (simp; done) | (simp; omega))) rfl rfl rfl ?_; clear hf; clear a; intro a hf
                          refine ops_v hf hh (yv_move rfl) (gon rfl rfl rfl (by first | assumption | rfl | (simp; done) | (simp; omega))) rfl rfl rfl ?_; clear hf; clear a; intro a hf
                          refine guard_split hf (t := 232) rfl (fun hg69 => ?_) (fun hg69 => ?_)
                          · have hG69 := hg69; try simp only [gS] at hG69
                            refine ops_v hf hh (yv_move rfl) (gon rfl rfl rfl (by first | assumption | rfl | (simp; done) | (simp; omega))) rfl rfl rfl ?_; clear hf; clear a; intro a hf
                            refine ops_v hf hh (yv_move rfl) (gon rfl rfl rfl (by first | assumption | rfl | (simp; done) | (simp; omega))) rfl rfl rfl ?_; clear hf; clear a; intro a hf
                            refine ops_v hf hh (yv_bin rfl rfl rfl) (gon rfl rfl rfl (by first | assumption | rfl | (simp; done) | (simp; omega))) rfl rfl rfl ?_; clear hf; clear a; intro a hf
                            refine ops_v hf hh (yv_pick_t rfl (by first | assumption | rfl | (simp; done) | (simp; omega)) rfl) (gon rfl rfl rfl (by first | assumption | rfl | (simp; done) | (simp; omega))) rfl rfl rfl ?_; clear hf; clear a; intro a hf
                            refine ops_v hf hh (yv_pick_f rfl (by first | assumption | rfl | (simp; done) | (simp; omega)) rfl) (gon rfl rfl rfl (by first | assumption | rfl | (simp; done) | (simp; omega))) rfl rfl rfl ?_; clear hf; clear a; intro a hf
                            refine ops_v hf hh (yv_move rfl) (gon rfl rfl rfl (by first | assumption | rfl | (simp; done) | (simp; omega))) rfl rfl rfl ?_; clear hf; clear a; intro a hf
                            refine guard_split hf (t := 238) rfl (fun hg71 => ?_) (fun hg71 => ?_)
                            · have hG71 := hg71; try simp only [gS] at hG71
                              refine ops_v hf hh (yv_move rfl) (gon rfl rfl rfl (by first | assumption | rfl | (simp; done) | (simp; omega))) rfl rfl rfl ?_; clear hf; clear a; intro a hf
                              refine ops_v hf hh (yv_not rfl) (gon rfl rfl rfl (by first | assumption | rfl | (simp; done) | (simp; omega))) rfl rfl rfl ?_; clear hf; clear a; intro a hf
                              refine ops_v hf hh (yv_pick_t rfl (by first | assumption | rfl | (simp; done) | (simp; omega)) rfl) (gon rfl rfl rfl (by first | assumption | rfl | (simp; done) | (simp; omega))) rfl rfl rfl ?_; clear hf; clear a; intro a hf
                              refine ops_v hf hh (yv_pick_f rfl (by first | assumption | rfl | (simp; done) | (simp; omega)) rfl) (gon rfl rfl rfl (by first | assumption | rfl | (simp; done) | (simp; omega))) rfl rfl rfl ?_; clear hf; clear a; intro a hf
                              refine ops_v hf hh (yv_pick_t rfl (by first | assumption | rfl | (simp; done) | (simp; omega)) rfl) (gon rfl rfl rfl (by first | assumption | rfl | (simp; done) | (simp; omega))) rfl rfl rfl ?_; clear hf; clear a; intro a hf
                              refine ops_v hf hh (yv_pick_f rfl (by first | assumption | rfl | (simp; done) | (simp; omega)) rfl) (.inl rfl) rfl rfl rfl ?_; clear hf; clear a; intro a hf
                              refine ops_end ?_
                              refine then_n ?_
                              refine sy_cond hf rfl (fun hg72 => ?_) (fun hg72 => ?_)
                              · have hG72 := hg72; try simp only [gS] at hG72
                                refine sy_seq ?_
                                refine sy_ops ?_
                                refine ops_v hf hh (yv_assign rfl) (.inl rfl) rfl rfl rfl ?_; clear hf; clear a; intro a hf
                                refine ops_end ?_
                                refine then_n ?_
                                refine sy_ret ?_
                                refine blk_r ?_
                                refine then_r ?_
                                refine then_r ?_
                                refine blk_r ?_
                                refine blk_r ?_
                                refine then_r ?_
                                refine then_r ?_
                                refine blk_r ?_
                                refine then_r ?_
                                refine ret_r hf rfl rfl ?_
                                first
                                  | exact ⟨rfl, hh.ext⟩
                                  | (exfalso; omega)
                                  | (exfalso
                                     have h3 : neverB b (2 ^ i) = true := by assumption
                                     rw [hno i (by omega)] at h3; cases h3)
                                  | (exfalso
                                     have h3 : neverB b (2 ^ i ||| 2 ^ k) = true := by assumption
                                     rw [hn2 i k (by omega) (by omega) (by omega)] at h3; cases h3)
                                  | (exfalso
                                     have hi : i = i0 := by omega
                                     have hk : k = k0 := by omega
                                     subst hi; subst hk
                                     have h3 : neverB b (2 ^ i ||| 2 ^ k) = false := by assumption
                                     rw [hn1] at h3; cases h3)
                              · have hG72 := hg72; try simp only [gS] at hG72
                                refine sy_skip ?_
                                refine blk_n ?_
                                refine then_n ?_
                                refine sy_ops ?_
                                refine ops_v hf hh (yv_move rfl) (.inl rfl) rfl rfl rfl ?_; clear hf; clear a; intro a hf
                                first | refine ops_v hf hh (yv_add rfl rfl (by omega) (by omega)) (.inl rfl) rfl rfl rfl ?_; clear hf; clear a; intro a hf | refine ops_v hf hh (yv_bin rfl rfl rfl) (.inl rfl) rfl rfl rfl ?_; clear hf; clear a; intro a hf
                                refine ops_v hf hh (yv_assign rfl) (.inl rfl) rfl rfl rfl ?_; clear hf; clear a; intro a hf
                                refine ops_end ?_
                                refine then_n ?_
                                exact ⟨k + 1, ⟨by omega, hf.head ⟨rfl, True.intro⟩ (Keep.cons rfl (Keep.cons rfl (Keep.cons rfl (Keep.cons rfl (Keep.cons rfl (Keep.cons rfl (Keep.cons rfl (Keep.cons rfl (Keep.cons rfl (Keep.cons rfl (Keep.cons rfl (Keep.cons rfl (Keep.cons rfl (Keep.cons rfl (Keep.cons rfl (Keep.cons rfl (Keep.cons rfl (Keep.cons rfl (Keep.cons rfl (Keep.cons rfl (Keep.cons rfl (Keep.cons rfl (Keep.cons rfl (Keep.cons rfl (Keep.cons rfl (Keep.cons rfl (Keep.cons rfl (Keep.cons rfl (Keep.cons rfl (Keep.cons rfl (Keep.cons rfl (Keep.cons rfl (Keep.cons rfl (Keep.cons rfl (Keep.cons rfl (Keep.cons rfl (Keep.cons rfl (Keep.cons rfl (Keep.cons rfl (Keep.cons rfl (Keep.cons rfl (Keep.cons rfl (Keep.cons rfl (Keep.cons rfl (Keep.cons rfl (Keep.cons rfl (Keep.cons rfl (Keep.cons rfl (Keep.cons rfl (Keep.cons rfl (Keep.cons rfl (Keep.cons rfl (Keep.cons rfl (Keep.cons rfl (Keep.cons rfl (Keep.cons rfl (Keep.cons rfl (Keep.cons rfl (Keep.app rfl (Keep.rm rfl Keep.base)))))))))))))))))))))))))))))))))))))))))))))))))))))))))))), hh.less (.cons _ (List.Sublist.refl _))⟩, by omega⟩
                            · have hG71 := hg71; try simp only [gS] at hG71
                              refine ops_off hf (goff rfl rfl rfl (by first | assumption | rfl | (simp; done) | (simp; omega))) rfl rfl ?_; clear hf; clear a; intro a hf
                              refine ops_off hf (goff rfl rfl rfl (by first | assumption | rfl | (simp; done) | (simp; omega))) rfl rfl ?_; clear hf; clear a; intro a hf
                              refine ops_v hf hh (yv_pick_f rfl (by first | assumption | rfl | (simp; done) | (simp; omega)) rfl) (gon rfl rfl rfl (by first | assumption | rfl | (simp; done) | (simp; omega))) rfl rfl rfl ?_; clear hf; clear a; intro a hf
                              refine ops_v hf hh (yv_pick_f rfl (by first | assumption | rfl | (simp; done) | (simp; omega)) rfl) (gon rfl rfl rfl (by first | assumption | rfl | (simp; done) | (simp; omega))) rfl rfl rfl ?_; clear hf; clear a; intro a hf
                              refine ops_v hf hh (yv_pick_t rfl (by first | assumption | rfl | (simp; done) | (simp; omega)) rfl) (gon rfl rfl rfl (by first | assumption | rfl | (simp; done) | (simp; omega))) rfl rfl rfl ?_; clear hf; clear a; intro a hf
                              refine ops_v hf hh (yv_pick_f rfl (by first | assumption | rfl | (simp; done) | (simp; omega)) rfl) (.inl rfl) rfl rfl rfl ?_; clear hf; clear a; intro a hf
                              refine ops_end ?_
                              refine then_n ?_
                              refine sy_cf hf rfl (by first | assumption | rfl | (simp; done) | (simp; omega)) ?_
                              refine sy_skip ?_
                              refine blk_n ?_
                              refine then_n ?_
                              refine sy_ops ?_
                              refine ops_v hf hh (yv_move rfl) (.inl rfl) rfl rfl rfl ?_; clear hf; clear a; intro a hf
                              first | refine ops_v hf hh (yv_add rfl rfl (by omega) (by omega)) (.inl rfl) rfl rfl rfl ?_; clear hf; clear a; intro a hf | refine ops_v hf hh (yv_bin rfl rfl rfl) (.inl rfl) rfl rfl rfl ?_; clear hf; clear a; intro a hf
                              refine ops_v hf hh (yv_assign rfl) (.inl rfl) rfl rfl rfl ?_; clear hf; clear a; intro a hf
                              refine ops_end ?_
                              refine then_n ?_
                              exact ⟨k + 1, ⟨by omega, hf.head ⟨rfl, True.intro⟩ (Keep.cons rfl (Keep.cons rfl (Keep.cons rfl (Keep.cons rfl (Keep.cons rfl (Keep.cons rfl (Keep.cons rfl (Keep.cons rfl (Keep.cons rfl (Keep.cons rfl (Keep.cons rfl (Keep.cons rfl (Keep.cons rfl (Keep.cons rfl (Keep.cons rfl (Keep.cons rfl (Keep.cons rfl (Keep.cons rfl (Keep.cons rfl (Keep.cons rfl (Keep.cons rfl (Keep.cons rfl (Keep.cons rfl (Keep.cons rfl (Keep.cons rfl (Keep.cons rfl (Keep.cons rfl (Keep.cons rfl (Keep.cons rfl (Keep.cons rfl (Keep.cons rfl (Keep.cons rfl (Keep.cons rfl (Keep.cons rfl (Keep.cons rfl (Keep.cons rfl (Keep.cons rfl (Keep.cons rfl (Keep.cons rfl (Keep.cons rfl (Keep.cons rfl (Keep.cons rfl (Keep.cons rfl (Keep.cons rfl (Keep.cons rfl (Keep.cons rfl (Keep.cons rfl (Keep.cons rfl (Keep.cons rfl (Keep.cons rfl (Keep.cons rfl (Keep.cons rfl (Keep.cons rfl (Keep.cons rfl (Keep.cons rfl (Keep.cons rfl (Keep.cons rfl (Keep.cons rfl (Keep.app rfl (Keep.rm rfl Keep.base)))))))))))))))))))))))))))))))))))))))))))))))))))))))))))), hh.less (.cons _ (List.Sublist.refl _))⟩, by omega⟩
                          · have hG69 := hg69; try simp only [gS] at hG69
                            refine ops_off hf (goff rfl rfl rfl (by first | assumption | rfl | (simp; done) | (simp; omega))) rfl rfl ?_; clear hf; clear a; intro a hf
                            refine ops_off hf (goff rfl rfl rfl (by first | assumption | rfl | (simp; done) | (simp; omega))) rfl rfl ?_; clear hf; clear a; intro a hf
                            refine ops_off hf (goff rfl rfl rfl (by first | assumption | rfl | (simp; done) | (simp; omega))) rfl rfl ?_; clear hf; clear a; intro a hf
                            refine ops_v hf hh (yv_pick_f rfl (by first | assumption | rfl | (simp; done) | (simp; omega)) rfl) (gon rfl rfl rfl (by first | assumption | rfl | (simp; done) | (simp; omega))) rfl rfl rfl ?_; clear hf; clear a; intro a hf
                            refine ops_v hf hh (yv_pick_f rfl (by first | assumption | rfl | (simp; done) | (simp; omega)) rfl) (gon rfl rfl rfl (by first | assumption | rfl | (simp; done) | (simp; omega))) rfl rfl rfl ?_; clear hf; clear a; intro a hf
                            refine ops_v hf hh (yv_move rfl) (gon rfl rfl rfl (by first | assumption | rfl | (simp; done) | (simp; omega))) rfl rfl rfl ?_; clear hf; clear a; intro a hf
                            refine ops_off hf (goff rfl rfl rfl (by first | assumption | rfl | (simp; done) | (simp; omega))) rfl rfl ?_; clear hf; clear a; intro a hf
                            refine ops_off hf (goff rfl rfl rfl (by first | assumption | rfl | (simp; done) | (simp; omega))) rfl rfl ?_; clear hf; clear a; intro a hf
                            refine ops_v hf hh (yv_pick_f rfl (by first | assumption | rfl | (simp; done) | (simp; omega)) rfl) (gon rfl rfl rfl (by first | assumption | rfl | (simp; done) | (simp; omega))) rfl rfl rfl ?_; clear hf; clear a; intro a hf
                            refine ops_v hf hh (yv_pick_f rfl (by first | assumption | rfl | (simp; done) | (simp; omega)) rfl) (gon rfl rfl rfl (by first | assumption | rfl | (simp; done) | (simp; omega))) rfl rfl rfl ?_; clear hf; clear a; intro a hf
                            refine ops_v hf hh (yv_pick_t rfl (by first | assumption | rfl | (simp; done) | (simp; omega)) rfl) (gon rfl rfl rfl (by first | assumption | rfl | (simp; done) | (simp; omega))) rfl rfl rfl ?_; clear hf; clear a; intro a hf
                            refine ops_v hf hh (yv_pick_f rfl (by first | assumption | rfl | (simp; done) | (simp; omega)) rfl) (.inl rfl) rfl rfl rfl ?_; clear hf; clear a; intro a hf
                            refine ops_end ?_
                            refine then_n ?_
                            refine sy_cf hf rfl (by first | assumption | rfl | (simp; done) | (simp; omega)) ?_
                            refine sy_skip ?_
                            refine blk_n ?_
                            refine then_n ?_
                            refine sy_ops ?_
                            refine ops_v hf hh (yv_move rfl) (.inl rfl) rfl rfl rfl ?_; clear hf; clear a; intro a hf
                            first | refine ops_v hf hh (yv_add rfl rfl (by omega) (by omega)) (.inl rfl) rfl rfl rfl ?_; clear hf; clear a; intro a hf | refine ops_v hf hh (yv_bin rfl rfl rfl) (.inl rfl) rfl rfl rfl ?_; clear hf; clear a; intro a hf
                            refine ops_v hf hh (yv_assign rfl) (.inl rfl) rfl rfl rfl ?_; clear hf; clear a; intro a hf
                            refine ops_end ?_
                            refine then_n ?_
                            exact ⟨k + 1, ⟨by omega, hf.head ⟨rfl, True.intro⟩ (Keep.cons rfl (Keep.cons rfl (Keep.cons rfl (Keep.cons rfl (Keep.cons rfl (Keep.cons rfl (Keep.cons rfl (Keep.cons rfl (Keep.cons rfl (Keep.cons rfl (Keep.cons rfl (Keep.cons rfl (Keep.cons rfl (Keep.cons rfl (Keep.cons rfl (Keep.cons rfl (Keep.cons rfl (Keep.cons rfl (Keep.cons rfl (Keep.cons rfl (Keep.cons rfl (Keep.cons rfl (Keep.cons rfl (Keep.cons rfl (Keep.cons rfl (Keep.cons rfl (Keep.cons rfl (Keep.cons rfl (Keep.cons rfl (Keep.cons rfl (Keep.cons rfl (Keep.cons rfl (Keep.cons rfl (Keep.cons rfl (Keep.cons rfl (Keep.cons rfl (Keep.cons rfl (Keep.cons rfl (Keep.cons rfl (Keep.cons rfl (Keep.cons rfl (Keep.cons rfl (Keep.cons rfl (Keep.cons rfl (Keep.cons rfl (Keep.cons rfl (Keep.cons rfl (Keep.cons rfl (Keep.cons rfl (Keep.cons rfl (Keep.cons rfl (Keep.cons rfl (Keep.cons rfl (Keep.cons rfl (Keep.cons rfl (Keep.cons rfl (Keep.cons rfl (Keep.cons rfl (Keep.app rfl (Keep.rm rfl Keep.base)))))))))))))))))))))))))))))))))))))))))))))))))))))))))))), hh.less (.cons _ (List.Sublist.refl _))⟩, by omega⟩
                    · have hG55 := hg55; try simp only [gS] at hG55
                      refine ops_off hf (goff rfl rfl rfl (by first | assumption | rfl | (simp; done) | (simp; omega))) rfl rfl ?_; clear hf; clear a; intro a hf
                      refine ops_off hf (goff rfl rfl rfl (by first | assumption | rfl | (simp; done) | (simp; omega))) rfl rfl ?_; clear hf; clear a; intro a hf
                      refine ops_off hf (goff rfl rfl rfl (by first | assumption | rfl | (simp; done) | (simp; omega))) rfl rfl ?_; clear hf; clear a; intro a hf
                      refine ops_v hf hh (yv_pick_f rfl (by first | assumption | rfl | (simp; done) | (simp; omega)) rfl) (gon rfl rfl rfl (by first | assumption | rfl | (simp; done) | (simp; omega))) rfl rfl rfl ?_; clear hf; clear a; intro a hf
                      refine ops_v hf hh (yv_move rfl) (gon rfl rfl rfl (by first | assumption | rfl | (simp; done) | (simp; omega))) rfl rfl rfl ?_; clear hf; clear a; intro a hf
                      refine ops_off hf (goff rfl rfl rfl (by first | assumption | rfl | (simp; done) | (simp; omega))) rfl rfl ?_; clear hf; clear a; intro a hf
                      refine ops_v hf hh (yv_pick_f rfl (by first | assumption | rfl | (simp; done) | (simp; omega)) rfl) (gon rfl rfl rfl (by first | assumption | rfl | (simp; done) | (simp; omega))) rfl rfl rfl ?_; clear hf; clear a; intro a hf
                      refine ops_v hf hh (yv_move rfl) (gon rfl rfl rfl (by first | assumption | rfl | (simp; done) | (simp; omega))) rfl rfl rfl ?_; clear hf; clear a; intro a hf
                      refine ops_v hf hh (yv_move rfl) (gon rfl rfl rfl (by first | assumption | rfl | (simp; done) | (simp; omega))) rfl rfl rfl ?_; clear hf; clear a; intro a hf
                      refine ops_v hf hh (yv_move rfl) (gon rfl rfl rfl (by first | assumption | rfl | (simp; done) | (simp; omega))) rfl rfl rfl ?_; clear hf; clear a; intro a hf
                      refine ops_v hf hh (yv_bin rfl rfl rfl) (gon rfl rfl rfl (by first | assumption | rfl | (simp; done) | (simp; omega))) rfl rfl rfl ?_; clear hf; clear a; intro a hf
                      refine ops_v hf hh (yv_move rfl) (gon rfl rfl rfl (by first | assumption | rfl | (simp; done) | (simp; omega))) rfl rfl rfl ?_; clear hf; clear a; intro a hf
                      refine guard_split hf (t := 228) rfl (fun hg74 => ?_) (fun hg74 => ?_)
                      · have hG74 := hg74; try simp only [gS] at hG74
                        refine ops_off hf (goff rfl rfl rfl (by first | assumption | rfl | (simp; done) | (simp; omega))) rfl rfl ?_; clear hf; clear a; intro a hf
                        refine ops_off hf (goff rfl rfl rfl (by first | assumption | rfl | (simp; done) | (simp; omega))) rfl rfl ?_; clear hf; clear a; intro a hf
                        refine ops_off hf (goff rfl rfl rfl (by first | assumption | rfl | (simp; done) | (simp; omega))) rfl rfl ?_; clear hf; clear a; intro a hf
                        refine ops_off hf (goff rfl rfl rfl (by first | assumption | rfl | (simp; done) | (simp; omega))) rfl rfl ?_; clear hf; clear a; intro a hf
                        refine ops_off hf (goffu rfl rfl rfl) rfl rfl ?_; clear hf; clear a; intro a hf
                        refine ops_off hf (goffu rfl rfl rfl) rfl rfl ?_; clear hf; clear a; intro a hf
                        refine ops_off hf (goffu rfl rfl rfl) rfl rfl ?_; clear hf; clear a; intro a hf
                        refine ops_off hf (goff rfl rfl rfl (by first | assumption | rfl | (simp; done) | (simp; omega))) rfl rfl ?_; clear hf; clear a; intro a hf
                        refine ops_v hf hh (yv_pick_t rfl (by first | assumption | rfl | (simp; done) | (simp; omega)) rfl) (gon rfl rfl rfl (by first | assumption | rfl | (simp; done) | (simp; omega))) rfl rfl rfl ?_; clear hf; clear a; intro a hf
                        refine ops_v hf hh (yv_move rfl) (gon rfl rfl rfl (by first | assumption | rfl | (simp; done) | (simp; omega))) rfl rfl rfl ?_; clear hf; clear a; intro a hf
                        refine ops_v hf hh (yv_move rfl) (gon rfl rfl rfl (by first | assumption | rfl | (simp; done) | (simp; omega))) rfl rfl rfl ?_; clear hf; clear a; intro a hf
                        refine ops_v hf hh (yv_not rfl) (gon rfl rfl rfl (by first | assumption | rfl | (simp; done) | (simp; omega))) rfl rfl rfl ?_; clear hf; clear a; intro a hf
                        refine ops_v hf hh (yv_pick_t rfl (by first | assumption | rfl | (simp; done) | (simp; omega)) rfl) (gon rfl rfl rfl (by first | assumption | rfl | (simp; done) | (simp; omega))) rfl rfl rfl ?_; clear hf; clear a; intro a hf
                        refine ops_v hf hh (yv_pick_f rfl (by first | assumption | rfl | (simp; done) | (simp; omega)) rfl) (gon rfl rfl rfl (by first | assumption | rfl | (simp; done) | (simp; omega))) rfl rfl rfl ?_; clear hf; clear a; intro a hf
                        refine ops_v hf hh (yv_pick_t rfl (by first | assumption | rfl | (simp; done) | (simp; omega)) rfl) (gon rfl rfl rfl (by first | assumption | rfl | (simp; done) | (simp; omega))) rfl rfl rfl ?_; clear hf; clear a; intro a hf
                        refine ops_v hf hh (yv_pick_f rfl (by first | assumption | rfl | (simp; done) | (simp; omega)) rfl) (.inl rfl) rfl rfl rfl ?_; clear hf; clear a; intro a hf
                        refine ops_end ?_
                        refine then_n ?_
                        refine sy_cond hf rfl (fun hg75 => ?_) (fun hg75 => ?_)
                        · have hG75 := hg75; try simp only [gS] at hG75
                          refine sy_seq ?_
                          refine sy_ops ?_
                          refine ops_v hf hh (yv_assign rfl) (.inl rfl) rfl rfl rfl ?_; clear hf; clear a; intro a hf
                          refine ops_end ?_
                          refine then_n ?_
                          refine sy_ret ?_
                          refine blk_r ?_
                          refine then_r ?_
                          refine then_r ?_
                          refine blk_r ?_
                          refine blk_r ?_
                          refine then_r ?_
                          refine then_r ?_
                          refine blk_r ?_
                          refine then_r ?_
                          refine ret_r hf rfl rfl ?_
                          first
                            | exact ⟨rfl, hh.ext⟩
                            | (exfalso; omega)
                            | (exfalso
                               have h3 : neverB b (2 ^ i) = true := by assumption
                               rw [hno i (by omega)] at h3; cases h3)
                            | (exfalso
                               have h3 : neverB b (2 ^ i ||| 2 ^ k) = true := by assumption
                               rw [hn2 i k (by omega) (by omega) (by omega)] at h3; cases h3)
                            | (exfalso
                               have hi : i = i0 := by omega
                               have hk : k = k0 := by omega
                               subst hi; subst hk
                               have h3 : neverB b (2 ^ i ||| 2 ^ k) = false := by assumption
                               rw [hn1] at h3; cases h3)
                        · have hG75 := hg75; try simp only [gS] at hG75
                          refine sy_skip ?_
                          refine blk_n ?_
                          refine then_n ?_
                          refine sy_ops ?_
                          refine ops_v hf hh (yv_move rfl) (.inl rfl) rfl rfl rfl ?_; clear hf; clear a; intro a hf
                          first | refine ops_v hf hh (yv_add rfl rfl (by omega) (by omega)) (.inl rfl) rfl rfl rfl ?_; clear hf; clear a; intro a hf | refine ops_v hf hh (yv_bin rfl rfl rfl) (.inl rfl) rfl rfl rfl ?_; clear hf; clear a; intro a hf
                          refine ops_v hf hh (yv_assign rfl) (.inl rfl) rfl rfl rfl ?_; clear hf; clear a; intro a hf
                          refine ops_end ?_
                          refine then_n ?_
                          exact ⟨k + 1, ⟨by omega, hf.head ⟨rfl, True.intro⟩ (Keep.cons rfl (Keep.cons rfl (Keep.cons rfl (Keep.cons rfl (Keep.cons rfl (Keep.cons rfl (Keep.cons rfl (Keep.cons rfl (Keep.cons rfl (Keep.cons rfl (Keep.cons rfl (Keep.cons rfl (Keep.cons rfl (Keep.cons rfl (Keep.cons rfl (Keep.cons rfl (Keep.cons rfl (Keep.cons rfl (Keep.cons rfl (Keep.cons rfl (Keep.cons rfl (Keep.cons rfl (Keep.cons rfl (Keep.cons rfl (Keep.cons rfl (Keep.cons rfl (Keep.cons rfl (Keep.cons rfl (Keep.cons rfl (Keep.cons rfl (Keep.cons rfl (Keep.cons rfl (Keep.cons rfl (Keep.cons rfl (Keep.cons rfl (Keep.cons rfl (Keep.cons rfl (Keep.cons rfl (Keep.cons rfl (Keep.cons rfl (Keep.cons rfl (Keep.cons rfl (Keep.cons rfl (Keep.cons rfl (Keep.cons rfl (Keep.cons rfl (Keep.cons rfl (Keep.cons rfl (Keep.cons rfl (Keep.cons rfl (Keep.cons rfl (Keep.cons rfl (Keep.cons rfl (Keep.cons rfl (Keep.cons rfl (Keep.cons rfl (Keep.cons rfl (Keep.cons rfl (Keep.app rfl (Keep.rm rfl Keep.base)))))))))))))))))))))))))))))))))))))))))))))))))))))))))))), hh.less (.cons _ (List.Sublist.refl _))⟩, by omega⟩
                      · have hG74 := hg74; try simp only [gS] at hG74
                        refine ops_v hf hh (yv_move rfl) (gon rfl rfl rfl (by first | assumption | rfl | (simp; done) | (simp; omega))) rfl rfl rfl ?_; clear hf; clear a; intro a hf
                        refine ops_v hf hh (yv_move rfl) (gon rfl rfl rfl (by first | assumption | rfl | (simp; done) | (simp; omega))) rfl rfl rfl ?_; clear hf; clear a; intro a hf
                        refine ops_v hf hh (yv_bin rfl rfl rfl) (gon rfl rfl rfl (by first | assumption | rfl | (simp; done) | (simp; omega))) rfl rfl rfl ?_; clear hf; clear a; intro a hf
                        refine ops_v hf hh (yv_move rfl) (gon rfl rfl rfl (by first | assumption | rfl | (simp; done) | (simp; omega))) rfl rfl rfl ?_; clear hf; clear a; intro a hf
                        refine guard_split hf (t := 232) rfl (fun hg77 => ?_) (fun hg77 => ?_)
                        · have hG77 := hg77; try simp only [gS] at hG77
                          refine ops_v hf hh (yv_move rfl) (gon rfl rfl rfl (by first | assumption | rfl | (simp; done) | (simp; omega))) rfl rfl rfl ?_; clear hf; clear a; intro a hf
                          refine ops_v hf hh (yv_move rfl) (gon rfl rfl rfl (by first | assumption | rfl | (simp; done) | (simp; omega))) rfl rfl rfl ?_; clear hf; clear a; intro a hf
                          refine ops_v hf hh (yv_bin rfl rfl rfl) (gon rfl rfl rfl (by first | assumption | rfl | (simp; done) | (simp; omega))) rfl rfl rfl ?_; clear hf; clear a; intro a hf
                          refine ops_v hf hh (yv_pick_t rfl (by first | assumption | rfl | (simp; done) | (simp; omega)) rfl) (gon rfl rfl rfl (by first | assumption | rfl | (simp; done) | (simp; omega))) rfl rfl rfl ?_; clear hf; clear a; intro a hf
                          refine ops_v hf hh (yv_pick_f rfl (by first | assumption | rfl | (simp; done) | (simp; omega)) rfl) (gon rfl rfl rfl (by first | assumption | rfl | (simp; done) | (simp; omega))) rfl rfl rfl ?_; clear hf; clear a; intro a hf
                          refine ops_v hf hh (yv_move rfl) (gon rfl rfl rfl (by first | assumption | rfl | (simp; done) | (simp; omega))) rfl rfl rfl ?_; clear hf; clear a; intro a hf
                          refine guard_split hf (t := 238) rfl (fun hg79 => ?_) (fun hg79 => ?_)
                          · have hG79 := hg79; try simp only [gS] at hG79
                            refine ops_v hf hh (yv_move rfl) (gon rfl rfl rfl (by first | assumption | rfl | (simp; done) | (simp; omega))) rfl rfl rfl ?_; clear hf; clear a; intro a hf
                            refine ops_v hf hh (yv_not rfl) (gon rfl rfl rfl (by first | assumption | rfl | (simp; done) | (simp; omega))) rfl rfl rfl ?_; clear hf; clear a; intro a hf
                            refine ops_v hf hh (yv_pick_t rfl (by first | assumption | rfl | (simp; done) | (simp; omega)) rfl) (gon rfl rfl rfl (by first | assumption | rfl | (simp; done) | (simp; omega))) rfl rfl rfl ?_; clear hf; clear a; intro a hf
                            refine ops_v hf hh (yv_pick_f rfl (by first | assumption | rfl | (simp; done) | (simp; omega)) rfl) (gon rfl rfl rfl (by first | assumption | rfl | (simp; done) | (simp; omega))) rfl rfl rfl ?_; clear hf; clear a; intro a hf
                            refine ops_v hf hh (yv_pick_t rfl (by first | assumption | rfl | (simp; done) | (simp; omega)) rfl) (gon rfl rfl rfl (by first | assumption | rfl | (simp; done) | (simp; omega))) rfl rfl rfl ?_; clear hf; clear a; intro a hf
                            refine ops_v hf hh (yv_pick_f rfl (by first | assumption | rfl | (simp; done) | (simp; omega)) rfl) (.inl rfl) rfl rfl rfl ?_; clear hf; clear a; intro a hf
                            refine ops_end ?_
                            refine then_n ?_
                            refine sy_cond hf rfl (fun hg80 => ?_) (fun hg80 => ?_)
                            · have hG80 := hg80; try simp only [gS] at hG80
                              refine sy_seq ?_
                              refine sy_ops ?_
                              refine ops_v hf hh (yv_assign rfl) (.inl rfl) rfl rfl rfl ?_; clear hf; clear a; intro a hf
                              refine ops_end ?_
                              refine then_n ?_
                              refine sy_ret ?_
                              refine blk_r ?_
                              refine then_r ?_
                              refine then_r ?_
                              refine blk_r ?_
                              refine blk_r ?_
                              refine then_r ?_
                              refine then_r ?_
                              refine blk_r ?_
                              refine then_r ?_
                              refine ret_r hf rfl rfl ?_
                              first
                                | exact ⟨rfl, hh.ext⟩
                                | (exfalso; omega)
                                | (exfalso
                                   have h3 : neverB b (2 ^ i) = true := by assumption
                                   rw [hno i (by omega)] at h3; cases h3)
                                | (exfalso
                                   have h3 : neverB b (2 ^ i ||| 2 ^ k) = true := by assumption
                                   rw [hn2 i k (by omega) (by omega) (by omega)] at h3; cases h3)
                                | (exfalso
                                   have hi : i = i0 := by omega
                                   have hk : k = k0 := by omega
                                   subst hi; subst hk
                                   have h3 : neverB b (2 ^ i ||| 2 ^ k) = false := by assumption
                                   rw [hn1] at h3; cases h3)
                            · have hG80 := hg80; try simp only [gS] at hG80
                              refine sy_skip ?_
                              refine blk_n ?_
                              refine then_n ?_
                              refine sy_ops ?_
                              refine ops_v hf hh (yv_move rfl) (.inl rfl) rfl rfl rfl ?_; clear hf; clear a; intro a hf
                              first | refine ops_v hf hh (yv_add rfl rfl (by omega) (by omega)) (.inl rfl) rfl rfl rfl ?_; clear hf; clear a; intro a hf | refine ops_v hf hh (yv_bin rfl rfl rfl) (.inl rfl) rfl rfl rfl ?_; clear hf; clear a; intro a hf
                              refine ops_v hf hh (yv_assign rfl) (.inl rfl) rfl rfl rfl ?_; clear hf; clear a; intro a hf
                              refine ops_end ?_
                              refine then_n ?_
                              exact ⟨k + 1, ⟨by omega, hf.head ⟨rfl, True.intro⟩ (Keep.cons rfl (Keep.cons rfl (Keep.cons rfl (Keep.cons rfl (Keep.cons rfl (Keep.cons rfl (Keep.cons rfl (Keep.cons rfl (Keep.cons rfl (Keep.cons rfl (Keep.cons rfl (Keep.cons rfl (Keep.cons rfl (Keep.cons rfl (Keep.cons rfl (Keep.cons rfl (Keep.cons rfl (Keep.cons rfl (Keep.cons rfl (Keep.cons rfl (Keep.cons rfl (Keep.cons rfl (Keep.cons rfl (Keep.cons rfl (Keep.cons rfl (Keep.cons rfl (Keep.cons rfl (Keep.cons rfl (Keep.cons rfl (Keep.cons rfl (Keep.cons rfl (Keep.cons rfl (Keep.cons rfl (Keep.cons rfl (Keep.cons rfl (Keep.cons rfl (Keep.cons rfl (Keep.cons rfl (Keep.cons rfl (Keep.cons rfl (Keep.cons rfl (Keep.cons rfl (Keep.cons rfl (Keep.cons rfl (Keep.cons rfl (Keep.cons rfl (Keep.cons rfl (Keep.cons rfl (Keep.cons rfl (Keep.cons rfl (Keep.cons rfl (Keep.cons rfl (Keep.cons rfl (Keep.cons rfl (Keep.cons rfl (Keep.cons rfl (Keep.cons rfl (Keep.cons rfl (Keep.app rfl (Keep.rm rfl Keep.base)))))))))))))))))))))))))))))))))))))))))))))))))))))))))))), hh.less (.cons _ (List.Sublist.refl _))⟩, by omega⟩
                          · have hG79 := hg79; try simp only [gS] at hG79
                            refine ops_off hf (goff rfl rfl rfl (by first | assumption | rfl | (simp; done) | (simp; omega))) rfl rfl ?_; clear hf; clear a; intro a hf
                            refine ops_off hf (goff rfl rfl rfl (by first | assumption | rfl | (simp; done) | (simp; omega))) rfl rfl ?_; clear hf; clear a; intro a hf
                            refine ops_v hf hh (yv_pick_f rfl (by first | assumption | rfl | (simp; done) | (simp; omega)) rfl) (gon rfl rfl rfl (by first | assumption | rfl | (simp; done) | (simp; omega))) rfl rfl rfl ?_; clear hf; clear a; intro a hf
                            refine ops_v hf hh (yv_pick_f rfl (by first | assumption | rfl | (simp; done) | (simp; omega)) rfl) (gon rfl rfl rfl (by first | assumption | rfl | (simp; done) | (simp; omega))) rfl rfl rfl ?_; clear hf; clear a; intro a hf
                            refine ops_v hf hh (yv_pick_t rfl (by first | assumption | rfl | (simp; done) | (simp; omega)) rfl) (gon rfl rfl rfl (by first | assumption | rfl | (simp; done) | (simp; omega))) rfl rfl rfl ?_; clear hf; clear a; intro a hf
                            refine ops_v hf hh (yv_pick_f rfl (by first | assumption | rfl | (simp; done) | (simp; omega)) rfl) (.inl rfl) rfl rfl rfl ?_; clear hf; clear a; intro a hf
                            refine ops_end ?_
                            refine then_n ?_
                            refine sy_cf hf rfl (by first | assumption | rfl | (simp; done) | (simp; omega)) ?_
                            refine sy_skip ?_
                            refine blk_n ?_
                            refine then_n ?_
                            refine sy_ops ?_
                            refine ops_v hf hh (yv_move rfl) (.inl rfl) rfl rfl rfl ?_; clear hf; clear a; intro a hf
                            first | refine ops_v hf hh (yv_add rfl rfl (by omega) (by omega)) (.inl rfl) rfl rfl rfl ?_; clear hf; clear a; intro a hf | refine ops_v hf hh (yv_bin rfl rfl rfl) (.inl rfl) rfl rfl rfl ?_; clear hf; clear a; intro a hf
                            refine ops_v hf hh (yv_assign rfl) (.inl rfl) rfl rfl rfl ?_; clear hf; clear a; intro a hf
                            refine ops_end ?_
                            refine then_n ?_
                            exact ⟨k + 1, ⟨by omega, hf.head ⟨rfl, True.intro⟩ (Keep.cons rfl (Keep.cons rfl (Keep.cons rfl (Keep.cons rfl (Keep.cons rfl (Keep.cons rfl (Keep.cons rfl (Keep.cons rfl (Keep.cons rfl (Keep.cons rfl (Keep.cons rfl (Keep.cons rfl (Keep.cons rfl (Keep.cons rfl (Keep.cons rfl (Keep.cons rfl (Keep.cons rfl (Keep.cons rfl (Keep.cons rfl (Keep.cons rfl (Keep.cons rfl (Keep.cons rfl (Keep.cons rfl (Keep.cons rfl (Keep.cons rfl (Keep.cons rfl (Keep.cons rfl (Keep.cons rfl (Keep.cons rfl (Keep.cons rfl (Keep.cons rfl (Keep.cons rfl (Keep.cons rfl (Keep.cons rfl (Keep.cons rfl (Keep.cons rfl (Keep.cons rfl (Keep.cons rfl (Keep.cons rfl (Keep.cons rfl (Keep.cons rfl (Keep.cons rfl (Keep.cons rfl (Keep.cons rfl (Keep.cons rfl (Keep.cons rfl (Keep.cons rfl (Keep.cons rfl (Keep.cons rfl (Keep.cons rfl (Keep.cons rfl (Keep.cons rfl (Keep.cons rfl (Keep.cons rfl (Keep.cons rfl (Keep.cons rfl (Keep.cons rfl (Keep.cons rfl (Keep.app rfl (Keep.rm rfl Keep.base)))))))))))))))))))))))))))))))))))))))))))))))))))))))))))), hh.less (.cons _ (List.Sublist.refl _))⟩, by omega⟩
                        · have hG77 := hg77; try simp only [gS] at hG77
                          refine ops_off hf (goff rfl rfl rfl (by first | assumption | rfl | (simp; done) | (simp; omega))) rfl rfl ?_; clear hf; clear a; intro a hf
                          refine ops_off hf (goff rfl rfl rfl (by first | assumption | rfl | (simp; done) | (simp; omega))) rfl rfl ?_; clear hf; clear a; intro a hf
                          refine ops_off hf (goff rfl rfl rfl (by first | assumption | rfl | (simp; done) | (simp; omega))) rfl rfl ?_; clear hf; clear a; intro a hf
                          refine ops_v hf hh (yv_pick_f rfl (by first | assumption | rfl | (simp; done) | (simp; omega)) rfl) (gon rfl rfl rfl (by first | assumption | rfl | (simp; done) | (simp; omega))) rfl rfl rfl ?_; clear hf; clear a; intro a hf
                          refine ops_v hf hh (yv_pick_f rfl (by first | assumption | rfl | (simp; done) | (simp; omega)) rfl) (gon rfl rfl rfl (by first | assumption | rfl | (simp; done) | (simp; omega))) rfl rfl rfl ?_; clear hf; clear a; intro a hf
                          refine ops_v hf hh (yv_move rfl) (gon rfl rfl rfl (by first | assumption | rfl | (simp; done) | (simp; omega))) rfl rfl rfl ?_; clear hf; clear a; intro a hf
                          refine ops_off hf (goff rfl rfl rfl (by first | assumption | rfl | (simp; done) | (simp; omega))) rfl rfl ?_; clear hf; clear a; intro a hf
                          refine ops_off hf (goff rfl rfl rfl (by first | assumption | rfl | (simp; done) | (simp; omega))) rfl rfl ?_; clear hf; clear a; intro a hf
                          refine ops_v hf hh (yv_pick_f rfl (by first | assumption | rfl | (simp; done) | (simp; omega)) rfl) (gon rfl rfl rfl (by first | assumption | rfl | (simp; done) | (simp; omega))) rfl rfl rfl ?_; clear hf; clear a; intro a hf
                          refine ops_v hf hh (yv_pick_f rfl (by first | assumption | rfl | (simp; done) | (simp; omega)) rfl) (gon rfl rfl rfl (by first | assumption | rfl | (simp; done) | (simp; omega))) rfl rfl rfl ?_; clear hf; clear a; intro a hf
                          refine ops_v hf hh (yv_pick_t rfl (by first | assumption | rfl | (simp; done) | (simp; omega)) rfl) (gon rfl rfl rfl (by first | assumption | rfl | (simp; done) | (simp; omega))) rfl rfl rfl ?_; clear hf; clear a; intro a hf
                          refine ops_v hf hh (yv_pick_f rfl (by first | assumption | rfl | (simp; done) | (simp; omega)) rfl) (.inl rfl) rfl rfl rfl ?_; clear hf; clear a; intro a hf
                          refine ops_end ?_
                          refine then_n ?_
                          refine sy_cf hf rfl (by first | assumption | rfl | (simp; done) | (simp; omega)) ?_
                          refine sy_skip ?_
                          refine blk_n ?_
                          refine then_n ?_
                          refine sy_ops ?_
                          refine ops_v hf hh (yv_move rfl) (.inl rfl) rfl rfl rfl ?_; clear hf; clear a; intro a hf
                          first | refine ops_v hf hh (yv_add rfl rfl (by omega) (by omega)) (.inl rfl) rfl rfl rfl ?_; clear hf; clear a; intro a hf | refine ops_v hf hh (yv_bin rfl rfl rfl) (.inl rfl) rfl rfl rfl ?_; clear hf; clear a; intro a hf
                          refine ops_v hf hh (yv_assign rfl) (.inl rfl) rfl rfl rfl ?_; clear hf; clear a; intro a hf
                          refine ops_end ?_
                          refine then_n ?_
                          exact ⟨k + 1, ⟨by omega, hf.head ⟨rfl, True.intro⟩ (Keep.cons rfl (Keep.cons rfl (Keep.cons rfl (Keep.cons rfl (Keep.cons rfl (Keep.cons rfl (Keep.cons rfl (Keep.cons rfl (Keep.cons rfl (Keep.cons rfl (Keep.cons rfl (Keep.cons rfl (Keep.cons rfl (Keep.cons rfl (Keep.cons rfl (Keep.cons rfl (Keep.cons rfl (Keep.cons rfl (Keep.cons rfl (Keep.cons rfl (Keep.cons rfl (Keep.cons rfl (Keep.cons rfl (Keep.cons rfl (Keep.cons rfl (Keep.cons rfl (Keep.cons rfl (Keep.cons rfl (Keep.cons rfl (Keep.cons rfl (Keep.cons rfl (Keep.cons rfl (Keep.cons rfl (Keep.cons rfl (Keep.cons rfl (Keep.cons rfl (Keep.cons rfl (Keep.cons rfl (Keep.cons rfl (Keep.cons rfl (Keep.cons rfl (Keep.cons rfl (Keep.cons rfl (Keep.cons rfl (Keep.cons rfl (Keep.cons rfl (Keep.cons rfl (Keep.cons rfl (Keep.cons rfl (Keep.cons rfl (Keep.cons rfl (Keep.cons rfl (Keep.cons rfl (Keep.cons rfl (Keep.cons rfl (Keep.cons rfl (Keep.cons rfl (Keep.cons rfl (Keep.app rfl (Keep.rm rfl Keep.base)))))))))))))))))))))))))))))))))))))))))))))))))))))))))))), hh.less (.cons _ (List.Sublist.refl _))⟩, by omega⟩
                  · have hG49 := hg49; try simp only [gS] at hG49
                    refine ops_off hf (goff rfl rfl rfl (by first | assumption | rfl | (simp; done) | (simp; omega))) rfl rfl ?_; clear hf; clear a; intro a hf
                    refine ops_off hf (goff rfl rfl rfl (by first | assumption | rfl | (simp; done) | (simp; omega))) rfl rfl ?_; clear hf; clear a; intro a hf
                    refine ops_v hf hh (yv_pick_f rfl (by first | assumption | rfl | (simp; done) | (simp; omega)) rfl) (.inl rfl) rfl rfl rfl ?_; clear hf; clear a; intro a hf
                    refine ops_end ?_
                    refine then_n ?_
                    refine sy_cf hf rfl (by first | assumption | rfl | (simp; done) | (simp; omega)) ?_
                    refine sy_exit ?_
                    refine then_e ?_
                    refine then_e ?_
                    refine blk_e ?_
                    refine blk_n ?_
                    refine then_n ?_
                    refine sy_ops ?_
                    first | refine ops_v hf hh (yv_add rfl rfl (by omega) (by omega)) (.inl rfl) rfl rfl rfl ?_; clear hf; clear a; intro a hf | refine ops_v hf hh (yv_bin rfl rfl rfl) (.inl rfl) rfl rfl rfl ?_; clear hf; clear a; intro a hf
                    refine ops_v hf hh (yv_move rfl) (.inl rfl) rfl rfl rfl ?_; clear hf; clear a; intro a hf
                    refine ops_end ?_
                    refine then_n ?_
                    exact ⟨i + 1, ⟨by omega, hf.head ⟨rfl, True.intro⟩ (Keep.cons rfl (Keep.cons rfl (Keep.cons rfl (Keep.cons rfl (Keep.cons rfl (Keep.cons rfl (Keep.cons rfl (Keep.cons rfl (Keep.cons rfl (Keep.app rfl (Keep.rm rfl (Keep.cons rfl (Keep.cons rfl (Keep.cons rfl (Keep.cons rfl (Keep.cons rfl (Keep.cons rfl (Keep.cons rfl (Keep.cons rfl (Keep.cons rfl (Keep.cons rfl (Keep.cons rfl (Keep.cons rfl (Keep.cons rfl (Keep.cons rfl (Keep.cons rfl (Keep.cons rfl (Keep.cons rfl (Keep.cons rfl (Keep.cons rfl (Keep.cons rfl (Keep.cons rfl (Keep.cons rfl (Keep.cons rfl (Keep.cons rfl (Keep.cons rfl (Keep.cons rfl (Keep.cons rfl (Keep.cons rfl (Keep.cons rfl (Keep.cons rfl (Keep.cons rfl (Keep.cons rfl (Keep.cons rfl (Keep.cons rfl (Keep.cons rfl (Keep.cons rfl (Keep.cons rfl (Keep.cons rfl (Keep.app rfl (Keep.rm rfl Keep.base))))))))))))))))))))))))))))))))))))))))))))))))))), hh.less (.cons _ (List.Sublist.refl _))⟩, by omega⟩
            · have hG43 := hg43; try simp only [gS] at hG43
              refine sy_exit ?_
              refine then_e ?_
              refine then_e ?_
              refine blk_e ?_
              refine then_n ?_
              refine sy_seq ?_
              refine sy_ops ?_
              refine ops_call hf Tryd.en_12 rfl rfl rfl (.inl rfl) rfl (c12 _ (hT.ext hh.ext (by simp))) ?_; clear hf; clear a; intro v a w hR hf
              obtain ⟨rfl, hx⟩ := hR; replace hh := hh.more hx; clear hx
              refine ops_v hf hh (yv_assign rfl) (.inl rfl) rfl rfl rfl ?_; clear hf; clear a; intro a hf
              refine ops_end ?_
              refine then_n ?_
              refine sy_ret ?_
              refine ret_r hf rfl rfl ?_
              first
                | exact ⟨rfl, hh.ext⟩
                | (exfalso; omega)
                | (exfalso
                   have h3 : neverB b (2 ^ i) = true := by assumption
                   rw [hno i (by omega)] at h3; cases h3)
                | (exfalso
                   have h3 : neverB b (2 ^ i ||| 2 ^ k) = true := by assumption
                   rw [hn2 i k (by omega) (by omega) (by omega)] at h3; cases h3)
                | (exfalso
                   have hi : i = i0 := by omega
                   have hk : k = k0 := by omega
                   subst hi; subst hk
                   have h3 : neverB b (2 ^ i ||| 2 ^ k) = false := by assumption
                   rw [hn1] at h3; cases h3)
      · have hG37 := hg37; try simp only [gS] at hG37
        refine ops_off hf (goff rfl rfl rfl (by first | assumption | rfl | (simp; done) | (simp; omega))) rfl rfl ?_; clear hf; clear a; intro a hf
        refine ops_off hf (goff rfl rfl rfl (by first | assumption | rfl | (simp; done) | (simp; omega))) rfl rfl ?_; clear hf; clear a; intro a hf
        refine ops_off hf (goff rfl rfl rfl (by first | assumption | rfl | (simp; done) | (simp; omega))) rfl rfl ?_; clear hf; clear a; intro a hf
        refine ops_off hf (goff rfl rfl rfl (by first | assumption | rfl | (simp; done) | (simp; omega))) rfl rfl ?_; clear hf; clear a; intro a hf
        refine ops_off hf (goff rfl rfl rfl (by first | assumption | rfl | (simp; done) | (simp; omega))) rfl rfl ?_; clear hf; clear a; intro a hf
        refine ops_v hf hh (yv_pick_f rfl (by first | assumption | rfl | (simp; done) | (simp; omega)) rfl) (gon rfl rfl rfl (by first | assumption | rfl | (simp; done) | (simp; omega))) rfl rfl rfl ?_; clear hf; clear a; intro a hf
        refine ops_v hf hh (yv_pick_f rfl (by first | assumption | rfl | (simp; done) | (simp; omega)) rfl) (.inl rfl) rfl rfl rfl ?_; clear hf; clear a; intro a hf
        refine ops_end ?_
        refine then_n ?_
        refine sy_cf hf rfl (by first | assumption | rfl | (simp; done) | (simp; omega)) ?_
        refine sy_skip ?_
        refine then_n ?_
        refine sy_seq ?_
        refine sy_ops ?_
        refine ops_v hf hh (yv_makeFunc rfl rfl) (.inl rfl) rfl rfl rfl ?_; clear hf; clear a; intro a hf
        refine ops_v hf hh (yv_assign rfl) (.inl rfl) rfl rfl rfl ?_; clear hf; clear a; intro a hf
        refine ops_end ?_
        refine then_n ?_
        refine sy_seq ?_
        refine sy_seq ?_
        refine sy_ops ?_
        refine ops_v hf hh (yv_move rfl) (.inl rfl) rfl rfl rfl ?_; clear hf; clear a; intro a hf
        refine ops_v hf hh (yv_move rfl) (.inl rfl) rfl rfl rfl ?_; clear hf; clear a; intro a hf
        refine ops_end ?_
        refine then_n ?_
        refine sy_block ?_
        refine sy_loopF (σ := Nat) [4, 15, 16, 17, 18, 153, 154, 155, 156, 157, 158, 159, 160, 161, 162, 163, 164, 165, 166, 167, 168, 169, 170, 171, 172, 173, 174, 175, 176, 177, 178, 179, 180, 181, 182, 183, 184, 185, 186, 187, 188, 189, 190, 191, 192, 193, 194, 195, 196, 197, 198, 199, 200, 201, 202, 203, 204, 205, 206, 207, 208, 209, 210, 211, 212, 213, 214, 215, 216, 217, 218, 219, 220, 221, 222, 223, 224, 225, 226, 227, 228, 229, 230, 231, 232, 233, 234, 235, 236, 237, 238, 239, 240, 241, 242, 243, 244, 245] (fun i => [(153, .int .i64 i)]) (fun i => i ≤ b.scenes.length) (fun i => b.scenes.length - i) (0) hf hh ?_ ?_ ?_
        · repeat' (first | exact True.intro | refine And.intro rfl ?_)
        · first | exact True.intro | omega | (simp; omega) | simp
        · rintro i a w hpr hf hh
          refine sy_seq ?_
          refine sy_ops ?_
          refine ops_v hf hh (yv_bin rfl rfl rfl) (.inl rfl) rfl rfl rfl ?_; clear hf; clear a; intro a hf
          refine ops_end ?_
          refine then_n ?_
          refine sy_seq ?_
          refine sy_cond hf rfl (fun hg83 => ?_) (fun hg83 => ?_)
          · have hG83 := hg83; try simp only [gS] at hG83
            refine sy_skip ?_
            refine then_n ?_
            refine sy_seq ?_
            refine sy_block ?_
            refine sy_seq ?_
            refine sy_ops ?_
            refine ops_v hf hh (yv_move rfl) (.inl rfl) rfl rfl rfl ?_; clear hf; clear a; intro a hf
            refine ops_v hf hh (yv_assign rfl) (.inl rfl) rfl rfl rfl ?_; clear hf; clear a; intro a hf
            refine ops_end ?_
            refine then_n ?_
            refine sy_seq ?_
            refine sy_seq ?_
            refine sy_ops ?_
            refine ops_v hf hh (yv_move rfl) (.inl rfl) rfl rfl rfl ?_; clear hf; clear a; intro a hf
            refine ops_v hf hh (yv_move rfl) (.inl rfl) rfl rfl rfl ?_; clear hf; clear a; intro a hf
            refine ops_buildSl hf hh Tryd.bl_45_1 rfl rfl (.inl rfl) rfl ?_; clear hf hh; clear a; intro B158 a w hf hh
            refine ops_call hf Tryd.en_32 rfl rfl rfl (.inl rfl) rfl (c32a b sa sc B2 B158 i _ hV (hT.ext hh.ext (by simp)) (hS.ext hh.ext) (by omega) (hh.at (i := 1) rfl) (hh.at (i := 0) rfl)) ?_; clear hf; clear a; intro v a w hR hf
            obtain ⟨rfl, hx⟩ := hR; replace hh := hh.more hx; clear hx
            refine ops_v hf hh (yv_assign rfl) (.inl rfl) rfl rfl rfl ?_; clear hf; clear a; intro a hf
            refine ops_end ?_
            refine then_n ?_
            refine sy_seq ?_
            refine sy_ops ?_
            refine ops_v hf hh (yv_move rfl) (.inl rfl) rfl rfl rfl ?_; clear hf; clear a; intro a hf
            refine ops_v hf hh (yv_bin rfl rfl rfl) (.inl rfl) rfl rfl rfl ?_; clear hf; clear a; intro a hf
            refine ops_v hf hh (yv_move rfl) (.inl rfl) rfl rfl rfl ?_; clear hf; clear a; intro a hf
            refine ops_v hf hh (yv_move rfl) (gon rfl rfl rfl (by first | assumption | rfl | (simp; done) | (simp; omega))) rfl rfl rfl ?_; clear hf; clear a; intro a hf
            refine ops_v hf hh (yv_not rfl) (gon rfl rfl rfl (by first | assumption | rfl | (simp; done) | (simp; omega))) rfl rfl rfl ?_; clear hf; clear a; intro a hf
            refine ops_v hf hh (yv_pick_t rfl (by first | assumption | rfl | (simp; done) | (simp; omega)) rfl) (.inl rfl) rfl rfl rfl ?_; clear hf; clear a; intro a hf
            refine ops_v hf hh (yv_move rfl) (.inl rfl) rfl rfl rfl ?_; clear hf; clear a; intro a hf
            refine guard_split hf (t := 166) rfl (fun hg86 => ?_) (fun hg86 => ?_)
            · have hG86 := hg86; try simp only [gS] at hG86
              refine ops_off hf (goff rfl rfl rfl (by first | assumption | rfl | (simp; done) | (simp; omega))) rfl rfl ?_; clear hf; clear a; intro a hf
              refine ops_off hf (goff rfl rfl rfl (by first | assumption | rfl | (simp; done) | (simp; omega))) rfl rfl ?_; clear hf; clear a; intro a hf
              refine ops_off hf (goff rfl rfl rfl (by first | assumption | rfl | (simp; done) | (simp; omega))) rfl rfl ?_; clear hf; clear a; intro a hf
              refine ops_off hf (goffu rfl rfl rfl) rfl rfl ?_; clear hf; clear a; intro a hf
              refine ops_off hf (goffu rfl rfl rfl) rfl rfl ?_; clear hf; clear a; intro a hf
              refine ops_off hf (goffu rfl rfl rfl) rfl rfl ?_; clear hf; clear a; intro a hf
              refine ops_off hf (goffu rfl rfl rfl) rfl rfl ?_; clear hf; clear a; intro a hf
              refine ops_off hf (goffu rfl rfl rfl) rfl rfl ?_; clear hf; clear a; intro a hf
              refine ops_off hf (goffu rfl rfl rfl) rfl rfl ?_; clear hf; clear a; intro a hf
              refine ops_off hf (goffu rfl rfl rfl) rfl rfl ?_; clear hf; clear a; intro a hf
              refine ops_off hf (goffu rfl rfl rfl) rfl rfl ?_; clear hf; clear a; intro a hf
              refine ops_off hf (goffu rfl rfl rfl) rfl rfl ?_; clear hf; clear a; intro a hf
              refine ops_off hf (goffu rfl rfl rfl) rfl rfl ?_; clear hf; clear a; intro a hf
              refine ops_off hf (goffu rfl rfl rfl) rfl rfl ?_; clear hf; clear a; intro a hf
              refine ops_off hf (goffu rfl rfl rfl) rfl rfl ?_; clear hf; clear a; intro a hf
              refine ops_off hf (goffu rfl rfl rfl) rfl rfl ?_; clear hf; clear a; intro a hf
              refine ops_off hf (goffu rfl rfl rfl) rfl rfl ?_; clear hf; clear a; intro a hf
              refine ops_off hf (goffu rfl rfl rfl) rfl rfl ?_; clear hf; clear a; intro a hf
              refine ops_off hf (goff rfl rfl rfl (by first | assumption | rfl | (simp; done) | (simp; omega))) rfl rfl ?_; clear hf; clear a; intro a hf
              refine ops_v hf hh (yv_pick_t rfl (by first | assumption | rfl | (simp; done) | (simp; omega)) rfl) (.inl rfl) rfl rfl rfl ?_; clear hf; clear a; intro a hf
              refine ops_end ?_
              refine then_n ?_
              refine sy_ct hf rfl (by first | assumption | rfl | (simp; done) | (simp; omega)) ?_
              refine sy_seq ?_
              refine sy_ops ?_
              refine ops_v hf hh (yv_assign rfl) (.inl rfl) rfl rfl rfl ?_; clear hf; clear a; intro a hf
              refine ops_end ?_
              refine then_n ?_
              refine sy_ret ?_
              refine then_r ?_
              refine blk_r ?_
              refine then_r ?_
              refine then_r ?_
              refine blk_r ?_
              refine then_r ?_
              refine ret_r hf rfl rfl ?_
              first
                | exact ⟨rfl, hh.ext⟩
                | (exfalso; omega)
                | (exfalso
                   have h3 : neverB b (2 ^ i) = true := by assumption
                   rw [hno i (by omega)] at h3; cases h3)
                | (exfalso
                   have h3 : neverB b (2 ^ i ||| 2 ^ k) = true := by assumption
                   rw [hn2 i k (by omega) (by omega) (by omega)] at h3; cases h3)
                | (exfalso
                   have hi : i = i0 := by omega
                   have hk : k = k0 := by omega
                   subst hi; subst hk
                   have h3 : neverB b (2 ^ i ||| 2 ^ k) = false := by assumption
                   rw [hn1] at h3; cases h3)
            · have hG86 := hg86; try simp only [gS] at hG86
              refine ops_v hf hh (yv_move rfl) (gon rfl rfl rfl (by first | assumption | rfl | (simp; done) | (simp; omega))) rfl rfl rfl ?_; clear hf; clear a; intro a hf
              refine ops_v hf hh (yv_bin rfl rfl rfl) (gon rfl rfl rfl (by first | assumption | rfl | (simp; done) | (simp; omega))) rfl rfl rfl ?_; clear hf; clear a; intro a hf
              refine ops_v hf hh (yv_move rfl) (gon rfl rfl rfl (by first | assumption | rfl | (simp; done) | (simp; omega))) rfl rfl rfl ?_; clear hf; clear a; intro a hf
              refine ops_off hf (goff rfl rfl rfl (by first | assumption | rfl | (simp; done) | (simp; omega))) rfl rfl ?_; clear hf; clear a; intro a hf
              refine ops_off hf (goff rfl rfl rfl (by first | assumption | rfl | (simp; done) | (simp; omega))) rfl rfl ?_; clear hf; clear a; intro a hf
              refine ops_off hf (goff rfl rfl rfl (by first | assumption | rfl | (simp; done) | (simp; omega))) rfl rfl ?_; clear hf; clear a; intro a hf
              refine ops_off hf (goff rfl rfl rfl (by first | assumption | rfl | (simp; done) | (simp; omega))) rfl rfl ?_; clear hf; clear a; intro a hf
              refine ops_off hf (goffu rfl rfl rfl) rfl rfl ?_; clear hf; clear a; intro a hf
              refine ops_off hf (goffu rfl rfl rfl) rfl rfl ?_; clear hf; clear a; intro a hf
              refine ops_off hf (goff rfl rfl rfl (by first | assumption | rfl | (simp; done) | (simp; omega))) rfl rfl ?_; clear hf; clear a; intro a hf
              refine ops_off hf (goff rfl rfl rfl (by first | assumption | rfl | (simp; done) | (simp; omega))) rfl rfl ?_; clear hf; clear a; intro a hf
              refine ops_off hf (goffu rfl rfl rfl) rfl rfl ?_; clear hf; clear a; intro a hf
              refine ops_off hf (goffu rfl rfl rfl) rfl rfl ?_; clear hf; clear a; intro a hf
              refine ops_off hf (goffu rfl rfl rfl) rfl rfl ?_; clear hf; clear a; intro a hf
              refine ops_off hf (goffu rfl rfl rfl) rfl rfl ?_; clear hf; clear a; intro a hf
              refine ops_off hf (goffu rfl rfl rfl) rfl rfl ?_; clear hf; clear a; intro a hf
              refine ops_off hf (goffu rfl rfl rfl) rfl rfl ?_; clear hf; clear a; intro a hf
              refine ops_off hf (goff rfl rfl rfl (by first | assumption | rfl | (simp; done) | (simp; omega))) rfl rfl ?_; clear hf; clear a; intro a hf
              refine ops_v hf hh (yv_pick_f rfl (by first | assumption | rfl | (simp; done) | (simp; omega)) rfl) (gon rfl rfl rfl (by first | assumption | rfl | (simp; done) | (simp; omega))) rfl rfl rfl ?_; clear hf; clear a; intro a hf
              refine ops_v hf hh (yv_pick_f rfl (by first | assumption | rfl | (simp; done) | (simp; omega)) rfl) (.inl rfl) rfl rfl rfl ?_; clear hf; clear a; intro a hf
              refine ops_end ?_
              refine then_n ?_
              refine sy_cf hf rfl (by first | assumption | rfl | (simp; done) | (simp; omega)) ?_
              refine sy_skip ?_
              refine then_n ?_
              refine sy_seq ?_
              refine sy_ops ?_
              refine ops_v hf hh (yv_move rfl) (.inl rfl) rfl rfl rfl ?_; clear hf; clear a; intro a hf
              first | refine ops_v hf hh (yv_add rfl rfl (by omega) (by omega)) (.inl rfl) rfl rfl rfl ?_; clear hf; clear a; intro a hf | refine ops_v hf hh (yv_bin rfl rfl rfl) (.inl rfl) rfl rfl rfl ?_; clear hf; clear a; intro a hf
              refine ops_v hf hh (yv_assign rfl) (.inl rfl) rfl rfl rfl ?_; clear hf; clear a; intro a hf
              refine ops_end ?_
              refine then_n ?_
              refine sy_block ?_
              refine sy_loopF (σ := Nat) [4, 17, 18, 189, 190, 191, 192, 193, 194, 195, 196, 197, 198, 199, 200, 201, 202, 203, 204, 205, 206, 207, 208, 209, 210, 211, 212, 213, 214, 215, 216, 217, 218, 219, 220, 221, 222, 223, 224, 225, 226, 227, 228, 229, 230, 231, 232, 233, 234, 235, 236, 237, 238, 239, 240, 241, 242, 243, 244] (fun k => [(17, .int .i64 k)]) (fun k => i + 1 ≤ k ∧ k ≤ b.scenes.length) (fun k => b.scenes.length - k) (i + 1) hf hh ?_ ?_ ?_
              · repeat' (first | exact True.intro | refine And.intro rfl ?_)
              · omega
              · rintro k a w ⟨hk1, hk2⟩ hf hh
                refine sy_seq ?_
                refine sy_seq ?_
                refine sy_ops ?_
                refine ops_v hf hh (yv_move rfl) (.inl rfl) rfl rfl rfl ?_; clear hf; clear a; intro a hf
                refine ops_v hf hh (yv_move rfl) (.inl rfl) rfl rfl rfl ?_; clear hf; clear a; intro a hf
                refine ops_v hf hh (yv_bin rfl rfl rfl) (.inl rfl) rfl rfl rfl ?_; clear hf; clear a; intro a hf
                refine ops_v hf hh (yv_move rfl) (.inl rfl) rfl rfl rfl ?_; clear hf; clear a; intro a hf
                refine guard_split hf (t := 192) rfl (fun hg89 => ?_) (fun hg89 => ?_)
                · have hG89 := hg89; try simp only [gS] at hG89
                  refine ops_v hf hh (yv_move rfl) (gon rfl rfl rfl (by first | assumption | rfl | (simp; done) | (simp; omega))) rfl rfl rfl ?_; clear hf; clear a; intro a hf
                  refine ops_v hf hh (yv_bin rfl rfl rfl) (gon rfl rfl rfl (by first | assumption | rfl | (simp; done) | (simp; omega))) rfl rfl rfl ?_; clear hf; clear a; intro a hf
                  refine ops_v hf hh (yv_pick_t rfl (by first | assumption | rfl | (simp; done) | (simp; omega)) rfl) (.inl rfl) rfl rfl rfl ?_; clear hf; clear a; intro a hf
                  refine ops_end ?_
                  refine then_n ?_
                  refine sy_ct hf rfl (by first | assumption | rfl | (simp; done) | (simp; omega)) ?_
                  refine sy_skip ?_
                  refine then_n ?_
                  refine sy_seq ?_
                  refine sy_block ?_
                  refine sy_seq ?_
                  refine sy_ops ?_
                  refine ops_v hf hh (yv_move rfl) (.inl rfl) rfl rfl rfl ?_; clear hf; clear a; intro a hf
                  refine ops_v hf hh (yv_move rfl) (.inl rfl) rfl rfl rfl ?_; clear hf; clear a; intro a hf
                  refine ops_v hf hh (yv_move rfl) (.inl rfl) rfl rfl rfl ?_; clear hf; clear a; intro a hf
                  refine ops_buildSl hf hh Tryd.bl_45_2 rfl rfl (.inl rfl) rfl ?_; clear hf hh; clear a; intro B201 a w hf hh
                  refine ops_call hf Tryd.en_32 rfl rfl rfl (.inl rfl) rfl (c32b b sa sc B2 B201 i k _ hV (hT.ext hh.ext (by simp)) (hS.ext hh.ext) (by omega) (by omega) (hh.at (i := 2) rfl) (hh.at (i := 0) rfl)) ?_; clear hf; clear a; intro v a w hR hf
                  obtain ⟨rfl, hx⟩ := hR; replace hh := hh.more hx; clear hx
                  refine ops_v hf hh (yv_assign rfl) (.inl rfl) rfl rfl rfl ?_; clear hf; clear a; intro a hf
                  refine ops_end ?_
                  refine then_n ?_
                  refine sy_seq ?_
                  refine sy_ops ?_
                  refine ops_v hf hh (yv_move rfl) (.inl rfl) rfl rfl rfl ?_; clear hf; clear a; intro a hf
                  refine ops_v hf hh (yv_bin rfl rfl rfl) (.inl rfl) rfl rfl rfl ?_; clear hf; clear a; intro a hf
                  refine ops_v hf hh (yv_move rfl) (.inl rfl) rfl rfl rfl ?_; clear hf; clear a; intro a hf
                  refine ops_off hf (goff rfl rfl rfl (by first | assumption | rfl | (simp; done) | (simp; omega))) rfl rfl ?_; clear hf; clear a; intro a hf
                  refine ops_off hf (goff rfl rfl rfl (by first | assumption | rfl | (simp; done) | (simp; omega))) rfl rfl ?_; clear hf; clear a; intro a hf
                  refine ops_v hf hh (yv_pick_f rfl (by first | assumption | rfl | (simp; done) | (simp; omega)) rfl) (.inl rfl) rfl rfl rfl ?_; clear hf; clear a; intro a hf
                  refine ops_v hf hh (yv_move rfl) (.inl rfl) rfl rfl rfl ?_; clear hf; clear a; intro a hf
                  refine ops_v hf hh (yv_move rfl) (gon rfl rfl rfl (by first | assumption | rfl | (simp; done) | (simp; omega))) rfl rfl rfl ?_; clear hf; clear a; intro a hf
                  refine ops_v hf hh (yv_bin rfl rfl rfl) (gon rfl rfl rfl (by first | assumption | rfl | (simp; done) | (simp; omega))) rfl rfl rfl ?_; clear hf; clear a; intro a hf
                  refine ops_v hf hh (yv_move rfl) (gon rfl rfl rfl (by first | assumption | rfl | (simp; done) | (simp; omega))) rfl rfl rfl ?_; clear hf; clear a; intro a hf
                  refine ops_v hf hh (yv_move rfl) (gon rfl rfl rfl (by first | assumption | rfl | (simp; done) | (simp; omega))) rfl rfl rfl ?_; clear hf; clear a; intro a hf
                  refine ops_v hf hh (yv_move rfl) (gon rfl rfl rfl (by first | assumption | rfl | (simp; done) | (simp; omega))) rfl rfl rfl ?_; clear hf; clear a; intro a hf
                  refine ops_v hf hh (yv_bin rfl rfl rfl) (gon rfl rfl rfl (by first | assumption | rfl | (simp; done) | (simp; omega))) rfl rfl rfl ?_; clear hf; clear a; intro a hf
                  refine ops_v hf hh (yv_move rfl) (gon rfl rfl rfl (by first | assumption | rfl | (simp; done) | (simp; omega))) rfl rfl rfl ?_; clear hf; clear a; intro a hf
                  refine guard_split hf (t := 216) rfl (fun hg95 => ?_) (fun hg95 => ?_)
                  · have hG95 := hg95; try simp only [gS] at hG95
                    refine ops_v hf hh (yv_move rfl) (gon rfl rfl rfl (by first | assumption | rfl | (simp; done) | (simp; omega))) rfl rfl rfl ?_; clear hf; clear a; intro a hf
                    refine ops_v hf hh (yv_move rfl) (gon rfl rfl rfl (by first | assumption | rfl | (simp; done) | (simp; omega))) rfl rfl rfl ?_; clear hf; clear a; intro a hf
                    refine ops_v hf hh (yv_bin rfl rfl rfl) (gon rfl rfl rfl (by first | assumption | rfl | (simp; done) | (simp; omega))) rfl rfl rfl ?_; clear hf; clear a; intro a hf
                    refine ops_v hf hh (yv_pick_t rfl (by first | assumption | rfl | (simp; done) | (simp; omega)) rfl) (gon rfl rfl rfl (by first | assumption | rfl | (simp; done) | (simp; omega))) rfl rfl rfl ?_; clear hf; clear a; intro a hf
                    refine ops_v hf hh (yv_move rfl) (gon rfl rfl rfl (by first | assumption | rfl | (simp; done) | (simp; omega))) rfl rfl rfl ?_; clear hf; clear a; intro a hf
                    refine guard_split hf (t := 221) rfl (fun hg97 => ?_) (fun hg97 => ?_)
                    · have hG97 := hg97; try simp only [gS] at hG97
                      refine ops_v hf hh (yv_move rfl) (gon rfl rfl rfl (by first | assumption | rfl | (simp; done) | (simp; omega))) rfl rfl rfl ?_; clear hf; clear a; intro a hf
                      refine ops_v hf hh (yv_pick_t rfl (by first | assumption | rfl | (simp; done) | (simp; omega)) rfl) (gon rfl rfl rfl (by first | assumption | rfl | (simp; done) | (simp; omega))) rfl rfl rfl ?_; clear hf; clear a; intro a hf
                      refine ops_v hf hh (yv_move rfl) (gon rfl rfl rfl (by first | assumption | rfl | (simp; done) | (simp; omega))) rfl rfl rfl ?_; clear hf; clear a; intro a hf
                      refine guard_split hf (t := 224) rfl (fun hg98 => ?_) (fun hg98 => ?_)
                      · have hG98 := hg98; try simp only [gS] at hG98
                        refine ops_off hf (goff rfl rfl rfl (by first | assumption | rfl | (simp; done) | (simp; omega))) rfl rfl ?_; clear hf; clear a; intro a hf
                        refine ops_off hf (goff rfl rfl rfl (by first | assumption | rfl | (simp; done) | (simp; omega))) rfl rfl ?_; clear hf; clear a; intro a hf
                        refine ops_off hf (goff rfl rfl rfl (by first | assumption | rfl | (simp; done) | (simp; omega))) rfl rfl ?_; clear hf; clear a; intro a hf
                        refine ops_off hf (goff rfl rfl rfl (by first | assumption | rfl | (simp; done) | (simp; omega))) rfl rfl ?_; clear hf; clear a; intro a hf
                        refine ops_off hf (goffu rfl rfl rfl) rfl rfl ?_; clear hf; clear a; intro a hf
                        refine ops_off hf (goffu rfl rfl rfl) rfl rfl ?_; clear hf; clear a; intro a hf
                        refine ops_off hf (goffu rfl rfl rfl) rfl rfl ?_; clear hf; clear a; intro a hf
                        refine ops_off hf (goffu rfl rfl rfl) rfl rfl ?_; clear hf; clear a; intro a hf
                        refine ops_off hf (goffu rfl rfl rfl) rfl rfl ?_; clear hf; clear a; intro a hf
                        refine ops_off hf (goffu rfl rfl rfl) rfl rfl ?_; clear hf; clear a; intro a hf
                        refine ops_off hf (goffu rfl rfl rfl) rfl rfl ?_; clear hf; clear a; intro a hf
                        refine ops_off hf (goffu rfl rfl rfl) rfl rfl ?_; clear hf; clear a; intro a hf
                        refine ops_off hf (goff rfl rfl rfl (by first | assumption | rfl | (simp; done) | (simp; omega))) rfl rfl ?_; clear hf; clear a; intro a hf
                        refine ops_off hf (goff rfl rfl rfl (by first | assumption | rfl | (simp; done) | (simp; omega))) rfl rfl ?_; clear hf; clear a; intro a hf
                        refine ops_off hf (goffu rfl rfl rfl) rfl rfl ?_; clear hf; clear a; intro a hf
                        refine ops_off hf (goffu rfl rfl rfl) rfl rfl ?_; clear hf; clear a; intro a hf
                        refine ops_off hf (goff rfl rfl rfl (by first | assumption | rfl | (simp; done) | (simp; omega))) rfl rfl ?_; clear hf; clear a; intro a hf
                        refine ops_v hf hh (yv_pick_t rfl (by first | assumption | rfl | (simp; done) | (simp; omega)) rfl) (gon rfl rfl rfl (by first | assumption | rfl | (simp; done) | (simp; omega))) rfl rfl rfl ?_; clear hf; clear a; intro a hf
                        refine ops_v hf hh (yv_pick_t rfl (by first | assumption | rfl | (simp; done) | (simp; omega)) rfl) (gon rfl rfl rfl (by first | assumption | rfl | (simp; done) | (simp; omega))) rfl rfl rfl ?_; clear hf; clear a; intro a hf
                        refine ops_v hf hh (yv_pick_f rfl (by first | assumption | rfl | (simp; done) | (simp; omega)) rfl) (.inl rfl) rfl rfl rfl ?_; clear hf; clear a; intro a hf
                        refine ops_end ?_
                        refine then_n ?_
                        refine sy_ct hf rfl (by first | assumption | rfl | (simp; done) | (simp; omega)) ?_
                        refine sy_seq ?_
                        refine sy_ops ?_
                        refine ops_v hf hh (yv_assign rfl) (.inl rfl) rfl rfl rfl ?_; clear hf; clear a; intro a hf
                        refine ops_end ?_
                        refine then_n ?_
                        refine sy_ret ?_
                        refine blk_r ?_
                        refine then_r ?_
                        refine then_r ?_
                        refine blk_r ?_
                        refine blk_r ?_
                        refine then_r ?_
                        refine then_r ?_
                        refine blk_r ?_
                        refine then_r ?_
                        refine ret_r hf rfl rfl ?_
                        first
                          | exact ⟨rfl, hh.ext⟩
                          | (exfalso; omega)
                          | (exfalso
                             have h3 : neverB b (2 ^ i) = true := by assumption
                             rw [hno i (by omega)] at h3; cases h3)
                          | (exfalso
                             have h3 : neverB b (2 ^ i ||| 2 ^ k) = true := by assumption
                             rw [hn2 i k (by omega) (by omega) (by omega)] at h3; cases h3)
                          | (exfalso
                             have hi : i = i0 := by omega
                             have hk : k = k0 := by omega
                             subst hi; subst hk
                             have h3 : neverB b (2 ^ i ||| 2 ^ k) = false := by assumption
                             rw [hn1] at h3; cases h3)
                      · have hG98 := hg98; try simp only [gS] at hG98
                        refine ops_v hf hh (yv_move rfl) (gon rfl rfl rfl (by first | assumption | rfl | (simp; done) | (simp; omega))) rfl rfl rfl ?_; clear hf; clear a; intro a hf
                        refine ops_v hf hh (yv_move rfl) (gon rfl rfl rfl (by first | assumption | rfl | (simp; done) | (simp; omega))) rfl rfl rfl ?_; clear hf; clear a; intro a hf
                        refine ops_v hf hh (yv_bin rfl rfl rfl) (gon rfl rfl rfl (by first | assumption | rfl | (simp; done) | (simp; omega))) rfl rfl rfl ?_; clear hf; clear a; intro a hf
                        refine ops_v hf hh (yv_move rfl) (gon rfl rfl rfl (by first | assumption | rfl | (simp; done) | (simp; omega))) rfl rfl rfl ?_; clear hf; clear a; intro a hf
                        refine guard_split hf (t := 228) rfl (fun hg100 => ?_) (fun hg100 => ?_)
                        · have hG100 := hg100; try simp only [gS] at hG100
                          refine ops_off hf (goff rfl rfl rfl (by first | assumption | rfl | (simp; done) | (simp; omega))) rfl rfl ?_; clear hf; clear a; intro a hf
                          refine ops_off hf (goff rfl rfl rfl (by first | assumption | rfl | (simp; done) | (simp; omega))) rfl rfl ?_; clear hf; clear a; intro a hf
                          refine ops_off hf (goff rfl rfl rfl (by first | assumption | rfl | (simp; done) | (simp; omega))) rfl rfl ?_; clear hf; clear a; intro a hf
                          refine ops_off hf (goff rfl rfl rfl (by first | assumption | rfl | (simp; done) | (simp; omega))) rfl rfl ?_; clear hf; clear a; intro a hf
                          refine ops_off hf (goffu rfl rfl rfl) rfl rfl ?_; clear hf; clear a; intro a hf
                          refine ops_off hf (goffu rfl rfl rfl) rfl rfl ?_; clear hf; clear a; intro a hf
                          refine ops_off hf (goffu rfl rfl rfl) rfl rfl ?_; clear hf; clear a; intro a hf
                          refine ops_off hf (goff rfl rfl rfl (by first | assumption | rfl | (simp; done) | (simp; omega))) rfl rfl ?_; clear hf; clear a; intro a hf
                          refine ops_v hf hh (yv_pick_t rfl (by first | assumption | rfl | (simp; done) | (simp; omega)) rfl) (gon rfl rfl rfl (by first | assumption | rfl | (simp; done) | (simp; omega))) rfl rfl rfl ?_; clear hf; clear a; intro a hf
                          refine ops_v hf hh (yv_move rfl) (gon rfl rfl rfl (by first | assumption | rfl | (simp; done) | (simp; omega))) rfl rfl rfl ?_; clear hf; clear a; intro a hf
                          refine ops_v hf hh (yv_move rfl) (gon rfl rfl rfl (by first | assumption | rfl | (simp; done) | (simp; omega))) rfl rfl rfl ?_; clear hf; clear a; intro a hf
                          refine ops_v hf hh (yv_not rfl) (gon rfl rfl rfl (by first | assumption | rfl | (simp; done) | (simp; omega))) rfl rfl rfl ?_; clear hf; clear a; intro a hf
                          refine ops_v hf hh (yv_pick_t rfl (by first | assumption | rfl | (simp; done) | (simp; omega)) rfl) (gon rfl rfl rfl (by first | assumption | rfl | (simp; done) | (simp; omega))) rfl rfl rfl ?_; clear hf; clear a; intro a hf
                          refine ops_v hf hh (yv_pick_f rfl (by first | assumption | rfl | (simp; done) | (simp; omega)) rfl) (gon rfl rfl rfl (by first | assumption | rfl | (simp; done) | (simp; omega))) rfl rfl rfl ?_; clear hf; clear a; intro a hf
                          refine ops_v hf hh (yv_pick_t rfl (by first | assumption | rfl | (simp; done) | (simp; omega)) rfl) (gon rfl rfl rfl (by first | assumption | rfl | (simp; done) | (simp; omega))) rfl rfl rfl ?_; clear hf; clear a; intro a hf
                          refine ops_v hf hh (yv_pick_f rfl (by first | assumption | rfl | (simp; done) | (simp; omega)) rfl) (.inl rfl) rfl rfl rfl ?_; clear hf; clear a; intro a hf
                          refine ops_end ?_
                          refine then_n ?_
                          refine sy_ct hf rfl (by first | assumption | rfl | (simp; done) | (simp; omega)) ?_
                          refine sy_seq ?_
                          refine sy_ops ?_
                          refine ops_v hf hh (yv_assign rfl) (.inl rfl) rfl rfl rfl ?_; clear hf; clear a; intro a hf
                          refine ops_end ?_
                          refine then_n ?_
                          refine sy_ret ?_
                          refine blk_r ?_
                          refine then_r ?_
                          refine then_r ?_
                          refine blk_r ?_
                          refine blk_r ?_
                          refine then_r ?_
                          refine then_r ?_
                          refine blk_r ?_
                          refine then_r ?_
                          refine ret_r hf rfl rfl ?_
                          first
                            | exact ⟨rfl, hh.ext⟩
                            | (exfalso; omega)
                            | (exfalso
                               have h3 : neverB b (2 ^ i) = true := by assumption
                               rw [hno i (by omega)] at h3; cases h3)
                            | (exfalso
                               have h3 : neverB b (2 ^ i ||| 2 ^ k) = true := by assumption
                               rw [hn2 i k (by omega) (by omega) (by omega)] at h3; cases h3)
                            | (exfalso
                               have hi : i = i0 := by omega
                               have hk : k = k0 := by omega
                               subst hi; subst hk
                               have h3 : neverB b (2 ^ i ||| 2 ^ k) = false := by assumption
                               rw [hn1] at h3; cases h3)
                        · have hG100 := hg100; try simp only [gS] at hG100
                          refine ops_v hf hh (yv_move rfl) (gon rfl rfl rfl (by first | assumption | rfl | (simp; done) | (simp; omega))) rfl rfl rfl ?_; clear hf; clear a; intro a hf
                          refine ops_v hf hh (yv_move rfl) (gon rfl rfl rfl (by first | assumption | rfl | (simp; done) | (simp; omega))) rfl rfl rfl ?_; clear hf; clear a; intro a hf
                          refine ops_v hf hh (yv_bin rfl rfl rfl) (gon rfl rfl rfl (by first | assumption | rfl | (simp; done) | (simp; omega))) rfl rfl rfl ?_; clear hf; clear a; intro a hf
                          refine ops_v hf hh (yv_move rfl) (gon rfl rfl rfl (by first | assumption | rfl | (simp; done) | (simp; omega))) rfl rfl rfl ?_; clear hf; clear a; intro a hf
                          refine guard_split hf (t := 232) rfl (fun hg102 => ?_) (fun hg102 => ?_)
                          · have hG102 := hg102; try simp only [gS] at hG102
                            refine ops_v hf hh (yv_move rfl) (gon rfl rfl rfl (by first | assumption | rfl | (simp; done) | (simp; omega))) rfl rfl rfl ?_; clear hf; clear a; intro a hf
                            refine ops_v hf hh (yv_move rfl) (gon rfl rfl rfl (by first | assumption | rfl | (simp; done) | (simp; omega))) rfl rfl rfl ?_; clear hf; clear a; intro a hf
                            refine ops_v hf hh (yv_bin rfl rfl rfl) (gon rfl rfl rfl (by first | assumption | rfl | (simp; done) | (simp; omega))) rfl rfl rfl ?_; clear hf; clear a; intro a hf
                            refine ops_v hf hh (yv_pick_t rfl (by first | assumption | rfl | (simp; done) | (simp; omega)) rfl) (gon rfl rfl rfl (by first | assumption | rfl | (simp; done) | (simp; omega))) rfl rfl rfl ?_; clear hf; clear a; intro a hf
                            refine ops_v hf hh (yv_pick_f rfl (by first | assumption | rfl | (simp; done) | (simp; omega)) rfl) (gon rfl rfl rfl (by first | assumption | rfl | (simp; done) | (simp; omega))) rfl rfl rfl ?_; clear hf; clear a; intro a hf
                            refine ops_v hf hh (yv_move rfl) (gon rfl rfl rfl (by first | assumption | rfl | (simp; done) | (simp; omega))) rfl rfl rfl ?_; clear hf; clear a; intro a hf
                            refine guard_split hf (t := 238) rfl (fun hg104 => ?_) (fun hg104 => ?_)
                            · have hG104 := hg104; try simp only [gS] at hG104
                              refine ops_v hf hh (yv_move rfl) (gon rfl rfl rfl (by first | assumption | rfl | (simp; done) | (simp; omega))) rfl rfl rfl ?_; clear hf; clear a; intro a hf
                              refine ops_v hf hh (yv_not rfl) (gon rfl rfl rfl (by first | assumption | rfl | (simp; done) | (simp; omega))) rfl rfl rfl ?_; clear hf; clear a; intro a hf
                              refine ops_v hf hh (yv_pick_t rfl (by first | assumption | rfl | (simp; done) | (simp; omega)) rfl) (gon rfl rfl rfl (by first | assumption | rfl | (simp; done) | (simp; omega))) rfl rfl rfl ?_; clear hf; clear a; intro a hf
                              refine ops_v hf hh (yv_pick_f rfl (by first | assumption | rfl | (simp; done) | (simp; omega)) rfl) (gon rfl rfl rfl (by first | assumption | rfl | (simp; done) | (simp; omega))) rfl rfl rfl ?_; clear hf; clear a; intro a hf
                              refine ops_v hf hh (yv_pick_t rfl (by first | assumption | rfl | (simp; done) | (simp; omega)) rfl) (gon rfl rfl rfl (by first | assumption | rfl | (simp; done) | (simp; omega))) rfl rfl rfl ?_; clear hf; clear a; intro a hf
                              refine ops_v hf hh (yv_pick_f rfl (by first | assumption | rfl | (simp; done) | (simp; omega)) rfl) (.inl rfl) rfl rfl rfl ?_; clear hf; clear a; intro a hf
                              refine ops_end ?_
                              refine then_n ?_
                              refine sy_ct hf rfl (by first | assumption | rfl | (simp; done) | (simp; omega)) ?_
                              refine sy_seq ?_
                              refine sy_ops ?_
                              refine ops_v hf hh (yv_assign rfl) (.inl rfl) rfl rfl rfl ?_; clear hf; clear a; intro a hf
                              refine ops_end ?_
                              refine then_n ?_
                              refine sy_ret ?_
                              refine blk_r ?_
                              refine then_r ?_
                              refine then_r ?_
                              refine blk_r ?_
                              refine blk_r ?_
                              refine then_r ?_
                              refine then_r ?_
                              refine blk_r ?_
                              refine then_r ?_
                              refine ret_r hf rfl rfl ?_
                              first
                                | exact ⟨rfl, hh.ext⟩
                                | (exfalso; omega)
                                | (exfalso
                                   have h3 : neverB b (2 ^ i) = true := by assumption
                                   rw [hno i (by omega)] at h3; cases h3)
                                | (exfalso
                                   have h3 : neverB b (2 ^ i ||| 2 ^ k) = true := by assumption
                                   rw [hn2 i k (by omega) (by omega) (by omega)] at h3; cases h3)
                                | (exfalso
                                   have hi : i = i0 := by omega
                                   have hk : k = k0 := by omega
                                   subst hi; subst hk
                                   have h3 : neverB b (2 ^ i ||| 2 ^ k) = false := by assumption
                                   rw [hn1] at h3; cases h3)
                            · have hG104 := hg104; try simp only [gS] at hG104
                              refine ops_off hf (goff rfl rfl rfl (by first | assumption | rfl | (simp; done) | (simp; omega))) rfl rfl ?_; clear hf; clear a; intro a hf
                              refine ops_off hf (goff rfl rfl rfl (by first | assumption | rfl | (simp; done) | (simp; omega))) rfl rfl ?_; clear hf; clear a; intro a hf
                              refine ops_v hf hh (yv_pick_f rfl (by first | assumption | rfl | (simp; done) | (simp; omega)) rfl) (gon rfl rfl rfl (by first | assumption | rfl | (simp; done) | (simp; omega))) rfl rfl rfl ?_; clear hf; clear a; intro a hf
                              refine ops_v hf hh (yv_pick_f rfl (by first | assumption | rfl | (simp; done) | (simp; omega)) rfl) (gon rfl rfl rfl (by first | assumption | rfl | (simp; done) | (simp; omega))) rfl rfl rfl ?_; clear hf; clear a; intro a hf
                              refine ops_v hf hh (yv_pick_t rfl (by first | assumption | rfl | (simp; done) | (simp; omega)) rfl) (gon rfl rfl rfl (by first | assumption | rfl | (simp; done) | (simp; omega))) rfl rfl rfl ?_; clear hf; clear a; intro a hf
                              refine ops_v hf hh (yv_pick_f rfl (by first | assumption | rfl | (simp; done) | (simp; omega)) rfl) (.inl rfl) rfl rfl rfl ?_; clear hf; clear a; intro a hf
                              refine ops_end ?_
                              refine then_n ?_
                              refine sy_cf hf rfl (by first | assumption | rfl | (simp; done) | (simp; omega)) ?_
                              refine sy_skip ?_
                              refine blk_n ?_
                              refine then_n ?_
                              refine sy_ops ?_
                              refine ops_v hf hh (yv_move rfl) (.inl rfl) rfl rfl rfl ?_; clear hf; clear a; intro a hf
                              first | refine ops_v hf hh (yv_add rfl rfl (by omega) (by omega)) (.inl rfl) rfl rfl rfl ?_; clear hf; clear a; intro a hf | refine ops_v hf hh (yv_bin rfl rfl rfl) (.inl rfl) rfl rfl rfl ?_; clear hf; clear a; intro a hf
                              refine ops_v hf hh (yv_assign rfl) (.inl rfl) rfl rfl rfl ?_; clear hf; clear a; intro a hf
                              refine ops_end ?_
                              refine then_n ?_
                              exact ⟨k + 1, ⟨by omega, hf.head ⟨rfl, True.intro⟩ (Keep.cons rfl (Keep.cons rfl (Keep.cons rfl (Keep.cons rfl (Keep.cons rfl (Keep.cons rfl (Keep.cons rfl (Keep.cons rfl (Keep.cons rfl (Keep.cons rfl (Keep.cons rfl (Keep.cons rfl (Keep.cons rfl (Keep.cons rfl (Keep.cons rfl (Keep.cons rfl (Keep.cons rfl (Keep.cons rfl (Keep.cons rfl (Keep.cons rfl (Keep.cons rfl (Keep.cons rfl (Keep.cons rfl (Keep.cons rfl (Keep.cons rfl (Keep.cons rfl (Keep.cons rfl (Keep.cons rfl (Keep.cons rfl (Keep.cons rfl (Keep.cons rfl (Keep.cons rfl (Keep.cons rfl (Keep.cons rfl (Keep.cons rfl (Keep.cons rfl (Keep.cons rfl (Keep.cons rfl (Keep.cons rfl (Keep.cons rfl (Keep.cons rfl (Keep.cons rfl (Keep.cons rfl (Keep.cons rfl (Keep.cons rfl (Keep.cons rfl (Keep.cons rfl (Keep.cons rfl (Keep.cons rfl (Keep.cons rfl (Keep.cons rfl (Keep.cons rfl (Keep.cons rfl (Keep.cons rfl (Keep.cons rfl (Keep.cons rfl (Keep.cons rfl (Keep.cons rfl (Keep.app rfl (Keep.rm rfl Keep.base)))))))))))))))))))))))))))))))))))))))))))))))))))))))))))), hh.less (.cons _ (List.Sublist.refl _))⟩, by omega⟩
                          · have hG102 := hg102; try simp only [gS] at hG102
                            refine ops_off hf (goff rfl rfl rfl (by first | assumption | rfl | (simp; done) | (simp; omega))) rfl rfl ?_; clear hf; clear a; intro a hf
                            refine ops_off hf (goff rfl rfl rfl (by first | assumption | rfl | (simp; done) | (simp; omega))) rfl rfl ?_; clear hf; clear a; intro a hf
                            refine ops_off hf (goff rfl rfl rfl (by first | assumption | rfl | (simp; done) | (simp; omega))) rfl rfl ?_; clear hf; clear a; intro a hf
                            refine ops_v hf hh (yv_pick_f rfl (by first | assumption | rfl | (simp; done) | (simp; omega)) rfl) (gon rfl rfl rfl (by first | assumption | rfl | (simp; done) | (simp; omega))) rfl rfl rfl ?_; clear hf; clear a; intro a hf
                            refine ops_v hf hh (yv_pick_f rfl (by first | assumption | rfl | (simp; done) | (simp; omega)) rfl) (gon rfl rfl rfl (by first | assumption | rfl | (simp; done) | (simp; omega))) rfl rfl rfl ?_; clear hf; clear a; intro a hf
                            refine ops_v hf hh (yv_move rfl) (gon rfl rfl rfl (by first | assumption | rfl | (simp; done) | (simp; omega))) rfl rfl rfl ?_; clear hf; clear a; intro a hf
                            refine ops_off hf (goff rfl rfl rfl (by first | assumption | rfl | (simp; done) | (simp; omega))) rfl rfl ?_; clear hf; clear a; intro a hf
                            refine ops_off hf (goff rfl rfl rfl (by first | assumption | rfl | (simp; done) | (simp; omega))) rfl rfl ?_; clear hf; clear a; intro a hf
                            refine ops_v hf hh (yv_pick_f rfl (by first | assumption | rfl | (simp; done) | (simp; omega)) rfl) (gon rfl rfl rfl (by first | assumption | rfl | (simp; done) | (simp; omega))) rfl rfl rfl ?_; clear hf; clear a; intro a hf
                            refine ops_v hf hh (yv_pick_f rfl (by first | assumption | rfl | (simp; done) | (simp; omega)) rfl) (gon rfl rfl rfl (by first | assumption | rfl | (simp; done) | (simp; omega))) rfl rfl rfl ?_; clear hf; clear a; intro a hf
                            refine ops_v hf hh (yv_pick_t rfl (by first | assumption | rfl | (simp; done) | (simp; omega)) rfl) (gon rfl rfl rfl (by first | assumption | rfl | (simp; done) | (simp; omega))) rfl rfl rfl ?_; clear hf; clear a; intro a hf
                            refine ops_v hf hh (yv_pick_f rfl (by first | assumption | rfl | (simp; done) | (simp; omega)) rfl) (.inl rfl) rfl rfl rfl ?_; clear hf; clear a; intro a hf
                            refine ops_end ?_
                            refine then_n ?_
                            refine sy_cf hf rfl (by first | assumption | rfl | (simp; done) | (simp; omega)) ?_
                            refine sy_skip ?_
                            refine blk_n ?_
                            refine then_n ?_
                            refine sy_ops ?_
                            refine ops_v hf hh (yv_move rfl) (.inl rfl) rfl rfl rfl ?_; clear hf; clear a; intro a hf
                            first | refine ops_v hf hh (yv_add rfl rfl (by omega) (by omega)) (.inl rfl) rfl rfl rfl ?_; clear hf; clear a; intro a hf | refine ops_v hf hh (yv_bin rfl rfl rfl) (.inl rfl) rfl rfl rfl ?_; clear hf; clear a; intro a hf
                            refine ops_v hf hh (yv_assign rfl) (.inl rfl) rfl rfl rfl ?_; clear hf; clear a; intro a hf
                            refine ops_end ?_
                            refine then_n ?_
                            exact ⟨k + 1, ⟨by omega, hf.head ⟨rfl, True.intro⟩ (Keep.cons rfl (Keep.cons rfl (Keep.cons rfl (Keep.cons rfl (Keep.cons rfl (Keep.cons rfl (Keep.cons rfl (Keep.cons rfl (Keep.cons rfl (Keep.cons rfl (Keep.cons rfl (Keep.cons rfl (Keep.cons rfl (Keep.cons rfl (Keep.cons rfl (Keep.cons rfl (Keep.cons rfl (Keep.cons rfl (Keep.cons rfl (Keep.cons rfl (Keep.cons rfl (Keep.cons rfl (Keep.cons rfl (Keep.cons rfl (Keep.cons rfl (Keep.cons rfl (Keep.cons rfl (Keep.cons rfl (Keep.cons rfl (Keep.cons rfl (Keep.cons rfl (Keep.cons rfl (Keep.cons rfl (Keep.cons rfl (Keep.cons rfl (Keep.cons rfl (Keep.cons rfl (Keep.cons rfl (Keep.cons rfl (Keep.cons rfl (Keep.cons rfl (Keep.cons rfl (Keep.cons rfl (Keep.cons rfl (Keep.cons rfl (Keep.cons rfl (Keep.cons rfl (Keep.cons rfl (Keep.cons rfl (Keep.cons rfl (Keep.cons rfl (Keep.cons rfl (Keep.cons rfl (Keep.cons rfl (Keep.cons rfl (Keep.cons rfl (Keep.cons rfl (Keep.cons rfl (Keep.app rfl (Keep.rm rfl Keep.base)))))))))))))))))))))))))))))))))))))))))))))))))))))))))))), hh.less (.cons _ (List.Sublist.refl _))⟩, by omega⟩
                    · have hG97 := hg97; try simp only [gS] at hG97
                      refine ops_off hf (goff rfl rfl rfl (by first | assumption | rfl | (simp; done) | (simp; omega))) rfl rfl ?_; clear hf; clear a; intro a hf
                      refine ops_v hf hh (yv_pick_f rfl (by first | assumption | rfl | (simp; done) | (simp; omega)) rfl) (gon rfl rfl rfl (by first | assumption | rfl | (simp; done) | (simp; omega))) rfl rfl rfl ?_; clear hf; clear a; intro a hf
                      refine ops_v hf hh (yv_move rfl) (gon rfl rfl rfl (by first | assumption | rfl | (simp; done) | (simp; omega))) rfl rfl rfl ?_; clear hf; clear a; intro a hf
                      refine ops_v hf hh (yv_move rfl) (gon rfl rfl rfl (by first | assumption | rfl | (simp; done) | (simp; omega))) rfl rfl rfl ?_; clear hf; clear a; intro a hf
                      refine ops_v hf hh (yv_move rfl) (gon rfl rfl rfl (by first | assumption | rfl | (simp; done) | (simp; omega))) rfl rfl rfl ?_; clear hf; clear a; intro a hf
                      refine ops_v hf hh (yv_bin rfl rfl rfl) (gon rfl rfl rfl (by first | assumption | rfl | (simp; done) | (simp; omega))) rfl rfl rfl ?_; clear hf; clear a; intro a hf
                      refine ops_v hf hh (yv_move rfl) (gon rfl rfl rfl (by first | assumption | rfl | (simp; done) | (simp; omega))) rfl rfl rfl ?_; clear hf; clear a; intro a hf
                      refine guard_split hf (t := 228) rfl (fun hg106 => ?_) (fun hg106 => ?_)
                      · have hG106 := hg106; try simp only [gS] at hG106
                        refine ops_off hf (goff rfl rfl rfl (by first | assumption | rfl | (simp; done) | (simp; omega))) rfl rfl ?_; clear hf; clear a; intro a hf
                        refine ops_off hf (goff rfl rfl rfl (by first | assumption | rfl | (simp; done) | (simp; omega))) rfl rfl ?_; clear hf; clear a; intro a hf
                        refine ops_off hf (goff rfl rfl rfl (by first | assumption | rfl | (simp; done) | (simp; omega))) rfl rfl ?_; clear hf; clear a; intro a hf
                        refine ops_off hf (goff rfl rfl rfl (by first | assumption | rfl | (simp; done) | (simp; omega))) rfl rfl ?_; clear hf; clear a; intro a hf
                        refine ops_off hf (goffu rfl rfl rfl) rfl rfl ?_; clear hf; clear a; intro a hf
                        refine ops_off hf (goffu rfl rfl rfl) rfl rfl ?_; clear hf; clear a; intro a hf
                        refine ops_off hf (goffu rfl rfl rfl) rfl rfl ?_; clear hf; clear a; intro a hf
                        refine ops_off hf (goff rfl rfl rfl (by first | assumption | rfl | (simp; done) | (simp; omega))) rfl rfl ?_; clear hf; clear a; intro a hf
                        refine ops_v hf hh (yv_pick_t rfl (by first | assumption | rfl | (simp; done) | (simp; omega)) rfl) (gon rfl rfl rfl (by first | assumption | rfl | (simp; done) | (simp; omega))) rfl rfl rfl ?_; clear hf; clear a; intro a hf
                        refine ops_v hf hh (yv_move rfl) (gon rfl rfl rfl (by first | assumption | rfl | (simp; done) | (simp; omega))) rfl rfl rfl ?_; clear hf; clear a; intro a hf
                        refine ops_v hf hh (yv_move rfl) (gon rfl rfl rfl (by first | assumption | rfl | (simp; done) | (simp; omega))) rfl rfl rfl ?_; clear hf; clear a; intro a hf
                        refine ops_v hf hh (yv_not rfl) (gon rfl rfl rfl (by first | assumption | rfl | (simp; done) | (simp; omega))) rfl rfl rfl ?_; clear hf; clear a; intro a hf
                        refine ops_v hf hh (yv_pick_t rfl (by first | assumption | rfl | (simp; done) | (simp; omega)) rfl) (gon rfl rfl rfl (by first | assumption | rfl | (simp; done) | (simp; omega))) rfl rfl rfl ?_; clear hf; clear a; intro a hf
                        refine ops_v hf hh (yv_pick_f rfl (by first | assumption | rfl | (simp; done) | (simp; omega)) rfl) (gon rfl rfl rfl (by first | assumption | rfl | (simp; done) | (simp; omega))) rfl rfl rfl ?_; clear hf; clear a; intro a hf
                        refine ops_v hf hh (yv_pick_t rfl (by first | assumption | rfl | (simp; done) | (simp; omega)) rfl) (gon rfl rfl rfl (by first | assumption | rfl | (simp; done) | (simp; omega))) rfl rfl rfl ?_; clear hf; clear a; intro a hf
                        refine ops_v hf hh (yv_pick_f rfl (by first | assumption | rfl | (simp; done) | (simp; omega)) rfl) (.inl rfl) rfl rfl rfl ?_; clear hf; clear a; intro a hf
                        refine ops_end ?_
                        refine then_n ?_
                        refine sy_cond hf rfl (fun hg107 => ?_) (fun hg107 => ?_)
                        · have hG107 := hg107; try simp only [gS] at hG107
                          refine sy_seq ?_
                          refine sy_ops ?_
                          refine ops_v hf hh (yv_assign rfl) (.inl rfl) rfl rfl rfl ?_; clear hf; clear a; intro a hf
                          refine ops_end ?_
                          refine then_n ?_
                          refine sy_ret ?_
                          refine blk_r ?_
                          refine then_r ?_
                          refine then_r ?_
                          refine blk_r ?_
                          refine blk_r ?_
                          refine then_r ?_
                          refine then_r ?_
                          refine blk_r ?_
                          refine then_r ?_
                          refine ret_r hf rfl rfl ?_
                          first
                            | exact ⟨rfl, hh.ext⟩
                            | (exfalso; omega)
                            | (exfalso
                               have h3 : neverB b (2 ^ i) = true := by assumption
                               rw [hno i (by omega)] at h3; cases h3)
                            | (exfalso
                               have h3 : neverB b (2 ^ i ||| 2 ^ k) = true := by assumption
                               rw [hn2 i k (by omega) (by omega) (by omega)] at h3; cases h3)
                            | (exfalso
                               have hi : i = i0 := by omega
                               have hk : k = k0 := by omega
                               subst hi; subst hk
                               have h3 : neverB b (2 ^ i ||| 2 ^ k) = false := by assumption
                               rw [hn1] at h3; cases h3)
                        · have hG107 := hg107; try simp only [gS] at hG107
                          refine sy_skip ?_
                          refine blk_n ?_
                          refine then_n ?_
                          refine sy_ops ?_
                          refine ops_v hf hh (yv_move rfl) (.inl rfl) rfl rfl rfl ?_; clear hf; clear a; intro a hf
                          first | refine ops_v hf hh (yv_add rfl rfl (by omega) (by omega)) (.inl rfl) rfl rfl rfl ?_; clear hf; clear a; intro a hf | refine ops_v hf hh (yv_bin rfl rfl rfl) (.inl rfl) rfl rfl rfl ?_; clear hf; clear a; intro a hf
                          refine ops_v hf hh (yv_assign rfl) (.inl rfl) rfl rfl rfl ?_; clear hf; clear a; intro a hf
                          refine ops_end ?_
                          refine then_n ?_
                          exact ⟨k + 1, ⟨by omega, hf.head ⟨rfl, True.intro⟩ (Keep.cons rfl (Keep.cons rfl (Keep.cons rfl (Keep.cons rfl (Keep.cons rfl (Keep.cons rfl (Keep.cons rfl (Keep.cons rfl (Keep.cons rfl (Keep.cons rfl (Keep.cons rfl (Keep.cons rfl (Keep.cons rfl (Keep.cons rfl (Keep.cons rfl (Keep.cons rfl (Keep.cons rfl (Keep.cons rfl (Keep.cons rfl (Keep.cons rfl (Keep.cons rfl (Keep.cons rfl (Keep.cons rfl (Keep.cons rfl (Keep.cons rfl (Keep.cons rfl (Keep.cons rfl (Keep.cons rfl (Keep.cons rfl (Keep.cons rfl (Keep.cons rfl (Keep.cons rfl (Keep.cons rfl (Keep.cons rfl (Keep.cons rfl (Keep.cons rfl (Keep.cons rfl (Keep.cons rfl (Keep.cons rfl (Keep.cons rfl (Keep.cons rfl (Keep.cons rfl (Keep.cons rfl (Keep.cons rfl (Keep.cons rfl (Keep.cons rfl (Keep.cons rfl (Keep.cons rfl (Keep.cons rfl (Keep.cons rfl (Keep.cons rfl (Keep.cons rfl (Keep.cons rfl (Keep.cons rfl (Keep.cons rfl (Keep.cons rfl (Keep.cons rfl (Keep.cons rfl (Keep.app rfl (Keep.rm rfl Keep.base)))))))))))))))))))))))))))))))))))))))))))))))))))))))))))), hh.less (.cons _ (List.Sublist.refl _))⟩, by omega⟩
                      · have hG106 := hg106; try simp only [gS] at hG106
                        refine ops_v hf hh (yv_move rfl) (gon rfl rfl rfl (by first | assumption | rfl | (simp; done) | (simp; omega))) rfl rfl rfl ?_; clear hf; clear a; intro a hf
                        refine ops_v hf hh (yv_move rfl) (gon rfl rfl rfl (by first | assumption | rfl | (simp; done) | (simp; omega))) rfl rfl rfl ?_; clear hf; clear a; intro a hf
                        refine ops_v hf hh (yv_bin rfl rfl rfl) (gon rfl rfl rfl (by first | assumption | rfl | (simp; done) | (simp; omega))) rfl rfl rfl ?_; clear hf; clear a; intro a hf
                        refine ops_v hf hh (yv_move rfl) (gon rfl rfl rfl (by first | assumption | rfl | (simp; done) | (simp; omega))) rfl rfl rfl ?_; clear hf; clear a; intro a hf
                        refine guard_split hf (t := 232) rfl (fun hg109 => ?_) (fun hg109 => ?_)
                        · have hG109 := hg109; try simp only [gS] at hG109
                          refine ops_v hf hh (yv_move rfl) (gon rfl rfl rfl (by first | assumption | rfl | (simp; done) | (simp; omega))) rfl rfl rfl ?_; clear hf; clear a; intro a hf
                          refine ops_v hf hh (yv_move rfl) (gon rfl rfl rfl (by first | assumption | rfl | (simp; done) | (simp; omega))) rfl rfl rfl ?_; clear hf; clear a; intro a hf
                          refine ops_v hf hh (yv_bin rfl rfl rfl) (gon rfl rfl rfl (by first | assumption | rfl | (simp; done) | (simp; omega))) rfl rfl rfl ?_; clear hf; clear a; intro a hf
                          refine ops_v hf hh (yv_pick_t rfl (by first | assumption | rfl | (simp; done) | (simp; omega)) rfl) (gon rfl rfl rfl (by first | assumption | rfl | (simp; done) | (simp; omega))) rfl rfl rfl ?_; clear hf; clear a; intro a hf
                          refine ops_v hf hh (yv_pick_f rfl (by first | assumption | rfl | (simp; done) | (simp; omega)) rfl) (gon rfl rfl rfl (by first | assumption | rfl | (simp; done) | (simp; omega))) rfl rfl rfl ?_; clear hf; clear a; intro a hf
                          refine ops_v hf hh (yv_move rfl) (gon rfl rfl rfl (by first | assumption | rfl | (simp; done) | (simp; omega))) rfl rfl rfl ?_; clear hf; clear a; intro a hf
                          refine guard_split hf (t := 238) rfl (fun hg111 => ?_) (fun hg111 => ?_)
                          · have hG111 := hg111; try simp only [gS] at hG111
                            refine ops_v hf hh (yv_move rfl) (gon rfl rfl rfl (by first | assumption | rfl | (simp; done) | (simp; omega))) rfl rfl rfl ?_; clear hf; clear a; intro a hf
                            refine ops_v hf hh (yv_not rfl) (gon rfl rfl rfl (by first | assumption | rfl | (simp; done) | (simp; omega))) rfl rfl rfl ?_; clear hf; clear a; intro a hf
                            refine ops_v hf hh (yv_pick_t rfl (by first | assumption | rfl | (simp; done) | (simp; omega)) rfl) (gon rfl rfl rfl (by first | assumption | rfl | (simp; done) | (simp; omega))) rfl rfl rfl ?_; clear hf; clear a; intro a hf
                            refine ops_v hf hh (yv_pick_f rfl (by first | assumption | rfl | (simp; done) | (simp; omega)) rfl) (gon rfl rfl rfl (by first | assumption | rfl | (simp; done) | (simp; omega))) rfl rfl rfl ?_; clear hf; clear a; intro a hf
                            refine ops_v hf hh (yv_pick_t rfl (by first | assumption | rfl | (simp; done) | (simp; omega)) rfl) (gon rfl rfl rfl (by first | assumption | rfl | (simp; done) | (simp; omega))) rfl rfl rfl ?_; clear hf; clear a; intro a hf
                            refine ops_v hf hh (yv_pick_f rfl (by first | assumption | rfl | (simp; done) | (simp; omega)) rfl) (.inl rfl) rfl rfl rfl ?_; clear hf; clear a; intro a hf
                            refine ops_end ?_
                            refine then_n ?_
                            refine sy_cond hf rfl (fun hg112 => ?_) (fun hg112 => ?_)
                            · have hG112 := hg112; try simp only [gS] at hG112
                              refine sy_seq ?_
                              refine sy_ops ?_
                              refine ops_v hf hh (yv_assign rfl) (.inl rfl) rfl rfl rfl ?_; clear hf; clear a; intro a hf
                              refine ops_end ?_
                              refine then_n ?_
                              refine sy_ret ?_
                              refine blk_r ?_
                              refine then_r ?_
                              refine then_r ?_
                              refine blk_r ?_
                              refine blk_r ?_
                              refine then_r ?_
                              refine then_r ?_
                              refine blk_r ?_
                              refine then_r ?_
                              refine ret_r hf rfl rfl ?_
                              first
                                | exact ⟨rfl, hh.ext⟩
                                | (exfalso; omega)
                                | (exfalso
                                   have h3 : neverB b (2 ^ i) = true := by assumption
                                   rw [hno i (by omega)] at h3; cases h3)
                                | (exfalso
                                   have h3 : neverB b (2 ^ i ||| 2 ^ k) = true := by assumption
                                   rw [hn2 i k (by omega) (by omega) (by omega)] at h3; cases h3)
                                | (exfalso
                                   have hi : i = i0 := by omega
                                   have hk : k = k0 := by omega
                                   subst hi; subst hk
                                   have h3 : neverB b (2 ^ i ||| 2 ^ k) = false := by assumption
                                   rw [hn1] at h3; cases h3)
                            · have hG112 := hg112; try simp only [gS] at hG112
                              refine sy_skip ?_
                              refine blk_n ?_
                              refine then_n ?_
                              refine sy_ops ?_
                              refine ops_v hf hh (yv_move rfl) (.inl rfl) rfl rfl rfl ?_; clear hf; clear a; intro a hf
                              first | refine ops_v hf hh (yv_add rfl rfl (by omega) (by omega)) (.inl rfl) rfl rfl rfl ?_; clear hf; clear a; intro a hf | refine ops_v hf hh (yv_bin rfl rfl rfl) (.inl rfl) rfl rfl rfl ?_; clear hf; clear a; intro a hf
                              refine ops_v hf hh (yv_assign rfl) (.inl rfl) rfl rfl rfl ?_; clear hf; clear a; intro a hf
                              refine ops_end ?_
                              refine then_n ?_
                              exact ⟨k + 1, ⟨by omega, hf.head ⟨rfl, True.intro⟩ (Keep.cons rfl (Keep.cons rfl (Keep.cons rfl (Keep.cons rfl (Keep.cons rfl (Keep.cons rfl (Keep.cons rfl (Keep.cons rfl (Keep.cons rfl (Keep.cons rfl (Keep.cons rfl (Keep.cons rfl (Keep.cons rfl (Keep.cons rfl (Keep.cons rfl (Keep.cons rfl (Keep.cons rfl (Keep.cons rfl (Keep.cons rfl (Keep.cons rfl (Keep.cons rfl (Keep.cons rfl (Keep.cons rfl (Keep.cons rfl (Keep.cons rfl (Keep.cons rfl (Keep.cons rfl (Keep.cons rfl (Keep.cons rfl (Keep.cons rfl (Keep.cons rfl (Keep.cons rfl (Keep.cons rfl (Keep.cons rfl (Keep.cons rfl (Keep.cons rfl (Keep.cons rfl (Keep.cons rfl (Keep.cons rfl (Keep.cons rfl (Keep.cons rfl (Keep.cons rfl (Keep.cons rfl (Keep.cons rfl (Keep.cons rfl (Keep.cons rfl (Keep.cons rfl (Keep.cons rfl (Keep.cons rfl (Keep.cons rfl (Keep.cons rfl (Keep.cons rfl (Keep.cons rfl (Keep.cons rfl (Keep.cons rfl (Keep.cons rfl (Keep.cons rfl (Keep.cons rfl (Keep.app rfl (Keep.rm rfl Keep.base)))))))))))))))))))))))))))))))))))))))))))))))))))))))))))), hh.less (.cons _ (List.Sublist.refl _))⟩, by omega⟩
                          · have hG111 := hg111; try simp only [gS] at hG111
                            refine ops_off hf (goff rfl rfl rfl (by first | assumption | rfl | (simp; done) | (simp; omega))) rfl rfl ?_; clear hf; clear a; intro a hf
                            refine ops_off hf (goff rfl rfl rfl (by first | assumption | rfl | (simp; done) | (simp; omega))) rfl rfl ?_; clear hf; clear a; intro a hf
                            refine ops_v hf hh (yv_pick_f rfl (by first | assumption | rfl | (simp; done) | (simp; omega)) rfl) (gon rfl rfl rfl (by first | assumption | rfl | (simp; done) | (simp; omega))) rfl rfl rfl ?_; clear hf; clear a; intro a hf
                            refine ops_v hf hh (yv_pick_f rfl (by first | assumption | rfl | (simp; done) | (simp; omega)) rfl) (gon rfl rfl rfl (by first | assumption | rfl | (simp; done) | (simp; omega))) rfl rfl rfl ?_; clear hf; clear a; intro a hf
                            refine ops_v hf hh (yv_pick_t rfl (by first | assumption | rfl | (simp; done) | (simp; omega)) rfl) (gon rfl rfl rfl (by first | assumption | rfl | (simp; done) | (simp; omega))) rfl rfl rfl ?_; clear hf; clear a; intro a hf
                            refine ops_v hf hh (yv_pick_f rfl (by first | assumption | rfl | (simp; done) | (simp; omega)) rfl) (.inl rfl) rfl rfl rfl ?_; clear hf; clear a; intro a hf
                            refine ops_end ?_
                            refine then_n ?_
                            refine sy_cf hf rfl (by first | assumption | rfl | (simp; done) | (simp; omega)) ?_
                            refine sy_skip ?_
                            refine blk_n ?_
                            refine then_n ?_
                            refine sy_ops ?_
                            refine ops_v hf hh (yv_move rfl) (.inl rfl) rfl rfl rfl ?_; clear hf; clear a; intro a hf
                            first | refine ops_v hf hh (yv_add rfl rfl (by omega) (by omega)) (.inl rfl) rfl rfl rfl ?_; clear hf; clear a; intro a hf | refine ops_v hf hh (yv_bin rfl rfl rfl) (.inl rfl) rfl rfl rfl ?_; clear hf; clear a; intro a hf
                            refine ops_v hf hh (yv_assign rfl) (.inl rfl) rfl rfl rfl ?_; clear hf; clear a; intro a hf
                            refine ops_end ?_
                            refine then_n ?_
                            exact ⟨k + 1, ⟨by omega, hf.head ⟨rfl, True.intro⟩ (Keep.cons rfl (Keep.cons rfl (Keep.cons rfl (Keep.cons rfl (Keep.cons rfl (Keep.cons rfl (Keep.cons rfl (Keep.cons rfl (Keep.cons rfl (Keep.cons rfl (Keep.cons rfl (Keep.cons rfl (Keep.cons rfl (Keep.cons rfl (Keep.cons rfl (Keep.cons rfl (Keep.cons rfl (Keep.cons rfl (Keep.cons rfl (Keep.cons rfl (Keep.cons rfl (Keep.cons rfl (Keep.cons rfl (Keep.cons rfl (Keep.cons rfl (Keep.cons rfl (Keep.cons rfl (Keep.cons rfl (Keep.cons rfl (Keep.cons rfl (Keep.cons rfl (Keep.cons rfl (Keep.cons rfl (Keep.cons rfl (Keep.cons rfl (Keep.cons rfl (Keep.cons rfl (Keep.cons rfl (Keep.cons rfl (Keep.cons rfl (Keep.cons rfl (Keep.cons rfl (Keep.cons rfl (Keep.cons rfl (Keep.cons rfl (Keep.cons rfl (Keep.cons rfl (Keep.cons rfl (Keep.cons rfl (Keep.cons rfl (Keep.cons rfl (Keep.cons rfl (Keep.cons rfl (Keep.cons rfl (Keep.cons rfl (Keep.cons rfl (Keep.cons rfl (Keep.cons rfl (Keep.app rfl (Keep.rm rfl Keep.base)))))))))))))))))))))))))))))))))))))))))))))))))))))))))))), hh.less (.cons _ (List.Sublist.refl _))⟩, by omega⟩
                        · have hG109 := hg109; try simp only [gS] at hG109
                          refine ops_off hf (goff rfl rfl rfl (by first | assumption | rfl | (simp; done) | (simp; omega))) rfl rfl ?_; clear hf; clear a; intro a hf
                          refine ops_off hf (goff rfl rfl rfl (by first | assumption | rfl | (simp; done) | (simp; omega))) rfl rfl ?_; clear hf; clear a; intro a hf
                          refine ops_off hf (goff rfl rfl rfl (by first | assumption | rfl | (simp; done) | (simp; omega))) rfl rfl ?_; clear hf; clear a; intro a hf
                          refine ops_v hf hh (yv_pick_f rfl (by first | assumption | rfl | (simp; done) | (simp; omega)) rfl) (gon rfl rfl rfl (by first | assumption | rfl | (simp; done) | (simp; omega))) rfl rfl rfl ?_; clear hf; clear a; intro a hf
                          refine ops_v hf hh (yv_pick_f rfl (by first | assumption | rfl | (simp; done) | (simp; omega)) rfl) (gon rfl rfl rfl (by first | assumption | rfl | (simp; done) | (simp; omega))) rfl rfl rfl ?_; clear hf; clear a; intro a hf
                          refine ops_v hf hh (yv_move rfl) (gon rfl rfl rfl (by first | assumption | rfl | (simp; done) | (simp; omega))) rfl rfl rfl ?_; clear hf; clear a; intro a hf
                          refine ops_off hf (goff rfl rfl rfl (by first | assumption | rfl | (simp; done) | (simp; omega))) rfl rfl ?_; clear hf; clear a; intro a hf
                          refine ops_off hf (goff rfl rfl rfl (by first | assumption | rfl | (simp; done) | (simp; omega))) rfl rfl ?_; clear hf; clear a; intro a hf
                          refine ops_v hf hh (yv_pick_f rfl (by first | assumption | rfl | (simp; done) | (simp; omega)) rfl) (gon rfl rfl rfl (by first | assumption | rfl | (simp; done) | (simp; omega))) rfl rfl rfl ?_; clear hf; clear a; intro a hf
                          refine ops_v hf hh (yv_pick_f rfl (by first | assumption | rfl | (simp; done) | (simp; omega)) rfl) (gon rfl rfl rfl (by first | assumption | rfl | (simp; done) | (simp; omega))) rfl rfl rfl ?_; clear hf; clear a; intro a hf
                          refine ops_v hf hh (yv_pick_t rfl (by first | assumption | rfl | (simp; done) | (simp; omega)) rfl) (gon rfl rfl rfl (by first | assumption | rfl | (simp; done) | (simp; omega))) rfl rfl rfl ?_; clear hf; clear a; intro a hf
                          refine ops_v hf hh (yv_pick_f rfl (by first | assumption | rfl | (simp; done) | (simp; omega)) rfl) (.inl rfl) rfl rfl rfl ?_; clear hf; clear a; intro a hf
                          refine ops_end ?_
                          refine then_n ?_
                          refine sy_cf hf rfl (by first | assumption | rfl | (simp; done) | (simp; omega)) ?_
                          refine sy_skip ?_
                          refine blk_n ?_
                          refine then_n ?_
                          refine sy_ops ?_
                          refine ops_v hf hh (yv_move rfl) (.inl rfl) rfl rfl rfl ?_; clear hf; clear a; intro a hf
                          first | refine ops_v hf hh (yv_add rfl rfl (by omega) (by omega)) (.inl rfl) rfl rfl rfl ?_; clear hf; clear a; intro a hf | refine ops_v hf hh (yv_bin rfl rfl rfl) (.inl rfl) rfl rfl rfl ?_; clear hf; clear a; intro a hf
                          refine ops_v hf hh (yv_assign rfl) (.inl rfl) rfl rfl rfl ?_; clear hf; clear a; intro a hf
                          refine ops_end ?_
                          refine then_n ?_
                          exact ⟨k + 1, ⟨by omega, hf.head ⟨rfl, True.intro⟩ (Keep.cons rfl (Keep.cons rfl (Keep.cons rfl (Keep.cons rfl (Keep.cons rfl (Keep.cons rfl (Keep.cons rfl (Keep.cons rfl (Keep.cons rfl (Keep.cons rfl (Keep.cons rfl (Keep.cons rfl (Keep.cons rfl (Keep.cons rfl (Keep.cons rfl (Keep.cons rfl (Keep.cons rfl (Keep.cons rfl (Keep.cons rfl (Keep.cons rfl (Keep.cons rfl (Keep.cons rfl (Keep.cons rfl (Keep.cons rfl (Keep.cons rfl (Keep.cons rfl (Keep.cons rfl (Keep.cons rfl (Keep.cons rfl (Keep.cons rfl (Keep.cons rfl (Keep.cons rfl (Keep.cons rfl (Keep.cons rfl (Keep.cons rfl (Keep.cons rfl (Keep.cons rfl (Keep.cons rfl (Keep.cons rfl (Keep.cons rfl (Keep.cons rfl (Keep.cons rfl (Keep.cons rfl (Keep.cons rfl (Keep.cons rfl (Keep.cons rfl (Keep.cons rfl (Keep.cons rfl (Keep.cons rfl (Keep.cons rfl (Keep.cons rfl (Keep.cons rfl (Keep.cons rfl (Keep.cons rfl (Keep.cons rfl (Keep.cons rfl (Keep.cons rfl (Keep.cons rfl (Keep.app rfl (Keep.rm rfl Keep.base)))))))))))))))))))))))))))))))))))))))))))))))))))))))))))), hh.less (.cons _ (List.Sublist.refl _))⟩, by omega⟩
                  · have hG95 := hg95; try simp only [gS] at hG95
                    refine ops_off hf (goff rfl rfl rfl (by first | assumption | rfl | (simp; done) | (simp; omega))) rfl rfl ?_; clear hf; clear a; intro a hf
                    refine ops_off hf (goff rfl rfl rfl (by first | assumption | rfl | (simp; done) | (simp; omega))) rfl rfl ?_; clear hf; clear a; intro a hf
                    refine ops_off hf (goff rfl rfl rfl (by first | assumption | rfl | (simp; done) | (simp; omega))) rfl rfl ?_; clear hf; clear a; intro a hf
                    refine ops_v hf hh (yv_pick_f rfl (by first | assumption | rfl | (simp; done) | (simp; omega)) rfl) (gon rfl rfl rfl (by first | assumption | rfl | (simp; done) | (simp; omega))) rfl rfl rfl ?_; clear hf; clear a; intro a hf
                    refine ops_v hf hh (yv_move rfl) (gon rfl rfl rfl (by first | assumption | rfl | (simp; done) | (simp; omega))) rfl rfl rfl ?_; clear hf; clear a; intro a hf
                    refine ops_off hf (goff rfl rfl rfl (by first | assumption | rfl | (simp; done) | (simp; omega))) rfl rfl ?_; clear hf; clear a; intro a hf
                    refine ops_v hf hh (yv_pick_f rfl (by first | assumption | rfl | (simp; done) | (simp; omega)) rfl) (gon rfl rfl rfl (by first | assumption | rfl | (simp; done) | (simp; omega))) rfl rfl rfl ?_; clear hf; clear a; intro a hf
                    refine ops_v hf hh (yv_move rfl) (gon rfl rfl rfl (by first | assumption | rfl | (simp; done) | (simp; omega))) rfl rfl rfl ?_; clear hf; clear a; intro a hf
                    refine ops_v hf hh (yv_move rfl) (gon rfl rfl rfl (by first | assumption | rfl | (simp; done) | (simp; omega))) rfl rfl rfl ?_; clear hf; clear a; intro a hf
                    refine ops_v hf hh (yv_move rfl) (gon rfl rfl rfl (by first | assumption | rfl | (simp; done) | (simp; omega))) rfl rfl rfl ?_; clear hf; clear a; intro a hf
                    refine ops_v hf hh (yv_bin rfl rfl rfl) (gon rfl rfl rfl (by first | assumption | rfl | (simp; done) | (simp; omega))) rfl rfl rfl ?_; clear hf; clear a; intro a hf
                    refine ops_v hf hh (yv_move rfl) (gon rfl rfl rfl (by first | assumption | rfl | (simp; done) | (simp; omega))) rfl rfl rfl ?_; clear hf; clear a; intro a hf
                    refine guard_split hf (t := 228) rfl (fun hg114 => ?_) (fun hg114 => ?_)
                    · have hG114 := hg114; try simp only [gS] at hG114
                      refine ops_off hf (goff rfl rfl rfl (by first | assumption | rfl | (simp; done) | (simp; omega))) rfl rfl ?_; clear hf; clear a; intro a hf
                      refine ops_off hf (goff rfl rfl rfl (by first | assumption | rfl | (simp; done) | (simp; omega))) rfl rfl ?_; clear hf; clear a; intro a hf
                      refine ops_off hf (goff rfl rfl rfl (by first | assumption | rfl | (simp; done) | (simp; omega))) rfl rfl ?_; clear hf; clear a; intro a hf
                      refine ops_off hf (goff rfl rfl rfl (by first | assumption | rfl | (simp; done) | (simp; omega))) rfl rfl ?_; clear hf; clear a; intro a hf
                      refine ops_off hf (goffu rfl rfl rfl) rfl rfl ?_; clear hf; clear a; intro a hf
                      refine ops_off hf (goffu rfl rfl rfl) rfl rfl ?_; clear hf; clear a; intro a hf
                      refine ops_off hf (goffu rfl rfl rfl) rfl rfl ?_; clear hf; clear a; intro a hf
                      refine ops_off hf (goff rfl rfl rfl (by first | assumption | rfl | (simp; done) | (simp; omega))) rfl rfl ?_; clear hf; clear a; intro a hf
                      refine ops_v hf hh (yv_pick_t rfl (by first | assumption | rfl | (simp; done) | (simp; omega)) rfl) (gon rfl rfl rfl (by first | assumption | rfl | (simp; done) | (simp; omega))) rfl rfl rfl ?_; clear hf; clear a; intro a hf
                      refine ops_v hf hh (yv_move rfl) (gon rfl rfl rfl (by first | assumption | rfl | (simp; done) | (simp; omega))) rfl rfl rfl ?_; clear hf; clear a; intro a hf
                      refine ops_v hf hh (yv_move rfl) (gon rfl rfl rfl (by first | assumption | rfl | (simp; done) | (simp; omega))) rfl rfl rfl ?_; clear hf; clear a; intro a hf
                      refine ops_v hf hh (yv_not rfl) (gon rfl rfl rfl (by first | assumption | rfl | (simp; done) | (simp; omega))) rfl rfl rfl ?_; clear hf; clear a; intro a hf
                      refine ops_v hf hh (yv_pick_t rfl (by first | assumption | rfl | (simp; done) | (simp; omega)) rfl) (gon rfl rfl rfl (by first | assumption | rfl | (simp; done) | (simp; omega))) rfl rfl rfl ?_; clear hf; clear a; intro a hf
                      refine ops_v hf hh (yv_pick_f rfl (by first | assumption | rfl | (simp; done) | (simp; omega)) rfl) (gon rfl rfl rfl (by first | assumption | rfl | (simp; done) | (simp; omega))) rfl rfl rfl ?_; clear hf; clear a; intro a hf
                      refine ops_v hf hh (yv_pick_t rfl (by first | assumption | rfl | (simp; done) | (simp; omega)) rfl) (gon rfl rfl rfl (by first | assumption | rfl | (simp; done) | (simp; omega))) rfl rfl rfl ?_; clear hf; clear a; intro a hf
                      refine ops_v hf hh (yv_pick_f rfl (by first | assumption | rfl | (simp; done) | (simp; omega)) rfl) (.inl rfl) rfl rfl rfl ?_; clear hf; clear a; intro a hf
                      refine ops_end ?_
                      refine then_n ?_
                      refine sy_cond hf rfl (fun hg115 => ?_) (fun hg115 => ?_)
                      · have hG115 := hg115; try simp only [gS] at hG115
                        refine sy_seq ?_
                        refine sy_ops ?_
                        refine ops_v hf hh (yv_assign rfl) (.inl rfl) rfl rfl rfl ?_; clear hf; clear a; intro a hf
                        refine ops_end ?_
                        refine then_n ?_
                        refine sy_ret ?_
                        refine blk_r ?_
                        refine then_r ?_
                        refine then_r ?_
                        refine blk_r ?_
                        refine blk_r ?_
                        refine then_r ?_
                        refine then_r ?_
                        refine blk_r ?_
                        refine then_r ?_
                        refine ret_r hf rfl rfl ?_
                        first
                          | exact ⟨rfl, hh.ext⟩
                          | (exfalso; omega)
                          | (exfalso
                             have h3 : neverB b (2 ^ i) = true := by assumption
                             rw [hno i (by omega)] at h3; cases h3)
                          | (exfalso
                             have h3 : neverB b (2 ^ i ||| 2 ^ k) = true := by assumption
                             rw [hn2 i k (by omega) (by omega) (by omega)] at h3; cases h3)
                          | (exfalso
                             have hi : i = i0 := by omega
                             have hk : k = k0 := by omega
                             subst hi; subst hk
                             have h3 : neverB b (2 ^ i ||| 2 ^ k) = false := by assumption
                             rw [hn1] at h3; cases h3)
                      · have hG115 := hg115; try simp only [gS] at hG115
                        refine sy_skip ?_
                        refine blk_n ?_
                        refine then_n ?_
                        refine sy_ops ?_
                        refine ops_v hf hh (yv_move rfl) (.inl rfl) rfl rfl rfl ?_; clear hf; clear a; intro a hf
                        first | refine ops_v hf hh (yv_add rfl rfl (by omega) (by omega)) (.inl rfl) rfl rfl rfl ?_; clear hf; clear a; intro a hf | refine ops_v hf hh (yv_bin rfl rfl rfl) (.inl rfl) rfl rfl rfl ?_; clear hf; clear a; intro a hf
                        refine ops_v hf hh (yv_assign rfl) (.inl rfl) rfl rfl rfl ?_; clear hf; clear a; intro a hf
                        refine ops_end ?_
                        refine then_n ?_
                        exact ⟨k + 1, ⟨by omega, hf.head ⟨rfl, True.intro⟩ (Keep.cons rfl (Keep.cons rfl (Keep.cons rfl (Keep.cons rfl (Keep.cons rfl (Keep.cons rfl (Keep.cons rfl (Keep.cons rfl (Keep.cons rfl (Keep.cons rfl (Keep.cons rfl (Keep.cons rfl (Keep.cons rfl (Keep.cons rfl (Keep.cons rfl (Keep.cons rfl (Keep.cons rfl (Keep.cons rfl (Keep.cons rfl (Keep.cons rfl (Keep.cons rfl (Keep.cons rfl (Keep.cons rfl (Keep.cons rfl (Keep.cons rfl (Keep.cons rfl (Keep.cons rfl (Keep.cons rfl (Keep.cons rfl (Keep.cons rfl (Keep.cons rfl (Keep.cons rfl (Keep.cons rfl (Keep.cons rfl (Keep.cons rfl (Keep.cons rfl (Keep.cons rfl (Keep.cons rfl (Keep.cons rfl (Keep.cons rfl (Keep.cons rfl (Keep.cons rfl (Keep.cons rfl (Keep.cons rfl (Keep.cons rfl (Keep.cons rfl (Keep.cons rfl (Keep.cons rfl (Keep.cons rfl (Keep.cons rfl (Keep.cons rfl (Keep.cons rfl (Keep.cons rfl (Keep.cons rfl (Keep.cons rfl (Keep.cons rfl (Keep.cons rfl (Keep.cons rfl (Keep.app rfl (Keep.rm rfl Keep.base)))))))))))))))))))))))))))))))))))))))))))))))))))))))))))), hh.less (.cons _ (List.Sublist.refl _))⟩, by omega⟩
                    · have hG114 := hg114; try simp only [gS] at hG114
                      refine ops_v hf hh (yv_move rfl) (gon rfl rfl rfl (by first | assumption | rfl | (simp; done) | (simp; omega))) rfl rfl rfl ?_; clear hf; clear a; intro a hf
                      refine ops_v hf hh (yv_move rfl) (gon rfl rfl rfl (by first | assumption | rfl | (simp; done) | (simp; omega))) rfl rfl rfl ?_; clear hf; clear a; intro a hf
                      refine ops_v hf hh (yv_bin rfl rfl rfl) (gon rfl rfl rfl (by first | assumption | rfl | (simp; done) | (simp; omega))) rfl rfl rfl ?_; clear hf; clear a; intro a hf
                      refine ops_v hf hh (yv_move rfl) (gon rfl rfl rfl (by first | assumption | rfl | (simp; done) | (simp; omega))) rfl rfl rfl ?_; clear hf; clear a; intro a hf
                      refine guard_split hf (t := 232) rfl (fun hg117 => ?_) (fun hg117 => ?_)
                      · have hG117 := hg117; try simp only [gS] at hG117
                        refine ops_v hf hh (yv_move rfl) (gon rfl rfl rfl (by first | assumption | rfl | (simp; done) | (simp; omega))) rfl rfl rfl ?_; clear hf; clear a; intro a hf
                        refine ops_v hf hh (yv_move rfl) (gon rfl rfl rfl (by first | assumption | rfl | (simp; done) | (simp; omega))) rfl rfl rfl ?_; clear hf; clear a; intro a hf
                        refine ops_v hf hh (yv_bin rfl rfl rfl) (gon rfl rfl rfl (by first | assumption | rfl | (simp; done) | (simp; omega))) rfl rfl rfl ?_; clear hf; clear a; intro a hf
                        refine ops_v hf hh (yv_pick_t rfl (by first | assumption | rfl | (simp; done) | (simp; omega)) rfl) (gon rfl rfl rfl (by first | assumption | rfl | (simp; done) | (simp; omega))) rfl rfl rfl ?_; clear hf; clear a; intro a hf
                        refine ops_v hf hh (yv_pick_f rfl (by first | assumption | rfl | (simp; done) | (simp; omega)) rfl) (gon rfl rfl rfl (by first | assumption | rfl | (simp; done) | (simp; omega))) rfl rfl rfl ?_; clear hf; clear a; intro a hf
                        refine ops_v hf hh (yv_move rfl) (gon rfl rfl rfl (by first | assumption | rfl | (simp; done) | (simp; omega))) rfl rfl rfl ?_; clear hf; clear a; intro a hf
                        refine guard_split hf (t := 238) rfl (fun hg119 => ?_) (fun hg119 => ?_)
                        · have hG119 := hg119; try simp only [gS] at hG119
                          refine ops_v hf hh (yv_move rfl) (gon rfl rfl rfl (by first | assumption | rfl | (simp; done) | (simp; omega))) rfl rfl rfl ?_; clear hf; clear a; intro a hf
                          refine ops_v hf hh (yv_not rfl) (gon rfl rfl rfl (by first | assumption | rfl | (simp; done) | (simp; omega))) rfl rfl rfl ?_; clear hf; clear a; intro a hf
                          refine ops_v hf hh (yv_pick_t rfl (by first | assumption | rfl | (simp; done) | (simp; omega)) rfl) (gon rfl rfl rfl (by first | assumption | rfl | (simp; done) | (simp; omega))) rfl rfl rfl ?_; clear hf; clear a; intro a hf
                          refine ops_v hf hh (yv_pick_f rfl (by first | assumption | rfl | (simp; done) | (simp; omega)) rfl) (gon rfl rfl rfl (by first | assumption | rfl | (simp; done) | (simp; omega))) rfl rfl rfl ?_; clear hf; clear a; intro a hf
                          refine ops_v hf hh (yv_pick_t rfl (by first | assumption | rfl | (simp; done) | (simp; omega)) rfl) (gon rfl rfl rfl (by first | assumption | rfl | (simp; done) | (simp; omega))) rfl rfl rfl ?_; clear hf; clear a; intro a hf
                          refine ops_v hf hh (yv_pick_f rfl (by first | assumption | rfl | (simp; done) | (simp; omega)) rfl) (.inl rfl) rfl rfl rfl ?_; clear hf; clear a; intro a hf
                          refine ops_end ?_
                          refine then_n ?_
                          refine sy_cond hf rfl (fun hg120 => ?_) (fun hg120 => ?_)
                          · have hG120 := hg120; try simp only [gS] at hG120
                            refine sy_seq ?_
                            refine sy_ops ?_
                            refine ops_v hf hh (yv_assign rfl) (.inl rfl) rfl rfl rfl ?_; clear hf; clear a; intro a hf
                            refine ops_end ?_
                            refine then_n ?_
                            refine sy_ret ?_
                            refine blk_r ?_
                            refine then_r ?_
                            refine then_r ?_
                            refine blk_r ?_
                            refine blk_r ?_
                            refine then_r ?_
                            refine then_r ?_
                            refine blk_r ?_
                            refine then_r ?_
                            refine ret_r hf rfl rfl ?_
                            first
                              | exact ⟨rfl, hh.ext⟩
                              | (exfalso; omega)
                              | (exfalso
                                 have h3 : neverB b (2 ^ i) = true := by assumption
                                 rw [hno i (by omega)] at h3; cases h3)
                              | (exfalso
                                 have h3 : neverB b (2 ^ i ||| 2 ^ k) = true := by assumption
                                 rw [hn2 i k (by omega) (by omega) (by omega)] at h3; cases h3)
                              | (exfalso
                                 have hi : i = i0 := by omega
                                 have hk : k = k0 := by omega
                                 subst hi; subst hk
                                 have h3 : neverB b (2 ^ i ||| 2 ^ k) = false := by assumption
                                 rw [hn1] at h3; cases h3)
                          · have hG120 := hg120; try simp only [gS] at hG120
                            refine sy_skip ?_
                            refine blk_n ?_
                            refine then_n ?_
                            refine sy_ops ?_
                            refine ops_v hf hh (yv_move rfl) (.inl rfl) rfl rfl rfl ?_; clear hf; clear a; intro a hf
                            first | refine ops_v hf hh (yv_add rfl rfl (by omega) (by omega)) (.inl rfl) rfl rfl rfl ?_; clear hf; clear a; intro a hf | refine ops_v hf hh (yv_bin rfl rfl rfl) (.inl rfl) rfl rfl rfl ?_; clear hf; clear a; intro a hf
                            refine ops_v hf hh (yv_assign rfl) (.inl rfl) rfl rfl rfl ?_; clear hf; clear a; intro a hf
                            refine ops_end ?_
                            refine then_n ?_
                            exact ⟨k + 1, ⟨by omega, hf.head ⟨rfl, True.intro⟩ (Keep.cons rfl (Keep.cons rfl (Keep.cons rfl (Keep.cons rfl (Keep.cons rfl (Keep.cons rfl (Keep.cons rfl (Keep.cons rfl (Keep.cons rfl (Keep.cons rfl (Keep.cons rfl (Keep.cons rfl (Keep.cons rfl (Keep.cons rfl (Keep.cons rfl (Keep.cons rfl (Keep.cons rfl (Keep.cons rfl (Keep.cons rfl (Keep.cons rfl (Keep.cons rfl (Keep.cons rfl (Keep.cons rfl (Keep.cons rfl (Keep.cons rfl (Keep.cons rfl (Keep.cons rfl (Keep.cons rfl (Keep.cons rfl (Keep.cons rfl (Keep.cons rfl (Keep.cons rfl (Keep.cons rfl (Keep.cons rfl (Keep.cons rfl (Keep.cons rfl (Keep.cons rfl (Keep.cons rfl (Keep.cons rfl (Keep.cons rfl (Keep.cons rfl (Keep.cons rfl (Keep.cons rfl (Keep.cons rfl (Keep.cons rfl (Keep.cons rfl (Keep.cons rfl (Keep.cons rfl (Keep.cons rfl (Keep.cons rfl (Keep.cons rfl (Keep.cons rfl (Keep.cons rfl (Keep.cons rfl (Keep.cons rfl (Keep.cons rfl (Keep.cons rfl (Keep.cons rfl (Keep.app rfl (Keep.rm rfl Keep.base)))))))))))))))))))))))))))))))))))))))))))))))))))))))))))), hh.less (.cons _ (List.Sublist.refl _))⟩, by omega⟩
                        · have hG119 := hg119; try simp only [gS] at hG119
                          refine ops_off hf (goff rfl rfl rfl (by first | assumption | rfl | (simp; done) | (simp; omega))) rfl rfl ?_; clear hf; clear a; intro a hf
                          refine ops_off hf (goff rfl rfl rfl (by first | assumption | rfl | (simp; done) | (simp; omega))) rfl rfl ?_; clear hf; clear a; intro a hf
                          refine ops_v hf hh (yv_pick_f rfl (by first | assumption | rfl | (simp; done) | (simp; omega)) rfl) (gon rfl rfl rfl (by first | assumption | rfl | (simp; done) | (simp; omega))) rfl rfl rfl ?_; clear hf; clear a; intro a hf
                          refine ops_v hf hh (yv_pick_f rfl (by first | assumption | rfl | (simp; done) | (simp; omega)) rfl) (gon rfl rfl rfl (by first | assumption | rfl | (simp; done) | (simp; omega))) rfl rfl rfl ?_; clear hf; clear a; intro a hf
                          refine ops_v hf hh (yv_pick_t rfl (by first | assumption | rfl | (simp; done) | (simp; omega)) rfl) (gon rfl rfl rfl (by first | assumption | rfl | (simp; done) | (simp; omega))) rfl rfl rfl ?_; clear hf; clear a; intro a hf
                          refine ops_v hf hh (yv_pick_f rfl (by first | assumption | rfl | (simp; done) | (simp; omega)) rfl) (.inl rfl) rfl rfl rfl ?_; clear hf; clear a; intro a hf
                          refine ops_end ?_
                          refine then_n ?_
                          refine sy_cf hf rfl (by first | assumption | rfl | (simp; done) | (simp; omega)) ?_
                          refine sy_skip ?_
                          refine blk_n ?_
                          refine then_n ?_
                          refine sy_ops ?_
                          refine ops_v hf hh (yv_move rfl) (.inl rfl) rfl rfl rfl ?_; clear hf; clear a; intro a hf
                          first | refine ops_v hf hh (yv_add rfl rfl (by omega) (by omega)) (.inl rfl) rfl rfl rfl ?_; clear hf; clear a; intro a hf | refine ops_v hf hh (yv_bin rfl rfl rfl) (.inl rfl) rfl rfl rfl ?_; clear hf; clear a; intro a hf
                          refine ops_v hf hh (yv_assign rfl) (.inl rfl) rfl rfl rfl ?_; clear hf; clear a; intro a hf
                          refine ops_end ?_
                          refine then_n ?_
                          exact ⟨k + 1, ⟨by omega, hf.head ⟨rfl, True.intro⟩ (Keep.cons rfl (Keep.cons rfl (Keep.cons rfl (Keep.cons rfl (Keep.cons rfl (Keep.cons rfl (Keep.cons rfl (Keep.cons rfl (Keep.cons rfl (Keep.cons rfl (Keep.cons rfl (Keep.cons rfl (Keep.cons rfl (Keep.cons rfl (Keep.cons rfl (Keep.cons rfl (Keep.cons rfl (Keep.cons rfl (Keep.cons rfl (Keep.cons rfl (Keep.cons rfl (Keep.cons rfl (Keep.cons rfl (Keep.cons rfl (Keep.cons rfl (Keep.cons rfl (Keep.cons rfl (Keep.cons rfl (Keep.cons rfl (Keep.cons rfl (Keep.cons rfl (Keep.cons rfl (Keep.cons rfl (Keep.cons rfl (Keep.cons rfl (Keep.cons rfl (Keep.cons rfl (Keep.cons rfl (Keep.cons rfl (Keep.cons rfl (Keep.cons rfl (Keep.cons rfl (Keep.cons rfl (Keep.cons rfl (Keep.cons rfl (Keep.cons rfl (Keep.cons rfl (Keep.cons rfl (Keep.cons rfl (Keep.cons rfl (Keep.cons rfl (Keep.cons rfl (Keep.cons rfl (Keep.cons rfl (Keep.cons rfl (Keep.cons rfl (Keep.cons rfl (Keep.cons rfl (Keep.app rfl (Keep.rm rfl Keep.base)))))))))))))))))))))))))))))))))))))))))))))))))))))))))))), hh.less (.cons _ (List.Sublist.refl _))⟩, by omega⟩
                      · have hG117 := hg117; try simp only [gS] at hG117
                        refine ops_off hf (goff rfl rfl rfl (by first | assumption | rfl | (simp; done) | (simp; omega))) rfl rfl ?_; clear hf; clear a; intro a hf
                        refine ops_off hf (goff rfl rfl rfl (by first | assumption | rfl | (simp; done) | (simp; omega))) rfl rfl ?_; clear hf; clear a; intro a hf
                        refine ops_off hf (goff rfl rfl rfl (by first | assumption | rfl | (simp; done) | (simp; omega))) rfl rfl ?_; clear hf; clear a; intro a hf
                        refine ops_v hf hh (yv_pick_f rfl (by first | assumption | rfl | (simp; done) | (simp; omega)) rfl) (gon rfl rfl rfl (by first | assumption | rfl | (simp; done) | (simp; omega))) rfl rfl rfl ?_; clear hf; clear a; intro a hf
                        refine ops_v hf hh (yv_pick_f rfl (by first | assumption | rfl | (simp; done) | (simp; omega)) rfl) (gon rfl rfl rfl (by first | assumption | rfl | (simp; done) | (simp; omega))) rfl rfl rfl ?_; clear hf; clear a; intro a hf
                        refine ops_v hf hh (yv_move rfl) (gon rfl rfl rfl (by first | assumption | rfl | (simp; done) | (simp; omega))) rfl rfl rfl ?_; clear hf; clear a; intro a hf
                        refine ops_off hf (goff rfl rfl rfl (by first | assumption | rfl | (simp; done) | (simp; omega))) rfl rfl ?_; clear hf; clear a; intro a hf
                        refine ops_off hf (goff rfl rfl rfl (by first | assumption | rfl | (simp; done) | (simp; omega))) rfl rfl ?_; clear hf; clear a; intro a hf
                        refine ops_v hf hh (yv_pick_f rfl (by first | assumption | rfl | (simp; done) | (simp; omega)) rfl) (gon rfl rfl rfl (by first | assumption | rfl | (simp; done) | (simp; omega))) rfl rfl rfl ?_; clear hf; clear a; intro a hf
                        refine ops_v hf hh (yv_pick_f rfl (by first | assumption | rfl | (simp; done) | (simp; omega)) rfl) (gon rfl rfl rfl (by first | assumption | rfl | (simp; done) | (simp; omega))) rfl rfl rfl ?_; clear hf; clear a; intro a hf
                        refine ops_v hf hh (yv_pick_t rfl (by first | assumption | rfl | (simp; done) | (simp; omega)) rfl) (gon rfl rfl rfl (by first | assumption | rfl | (simp; done) | (simp; omega))) rfl rfl rfl ?_; clear hf; clear a; intro a hf
                        refine ops_v hf hh (yv_pick_f rfl (by first | assumption | rfl | (simp; done) | (simp; omega)) rfl) (.inl rfl) rfl rfl rfl ?_; clear hf; clear a; intro a hf
                        refine ops_end ?_
                        refine then_n ?_
                        refine sy_cf hf rfl (by first | assumption | rfl | (simp; done) | (simp; omega)) ?_
                        refine sy_skip ?_
                        refine blk_n ?_
                        refine then_n ?_
                        refine sy_ops ?_
                        refine ops_v hf hh (yv_move rfl) (.inl rfl) rfl rfl rfl ?_; clear hf; clear a; intro a hf
                        first | refine ops_v hf hh (yv_add rfl rfl (by omega) (by omega)) (.inl rfl) rfl rfl rfl ?_; clear hf; clear a; intro a hf | refine ops_v hf hh (yv_bin rfl rfl rfl) (.inl rfl) rfl rfl rfl ?_; clear hf; clear a; intro a hf
                        refine ops_v hf hh (yv_assign rfl) (.inl rfl) rfl rfl rfl ?_; clear hf; clear a; intro a hf
                        refine ops_end ?_
                        refine then_n ?_
                        exact ⟨k + 1, ⟨by omega, hf.head ⟨rfl, True.intro⟩ (Keep.cons rfl (Keep.cons rfl (Keep.cons rfl (Keep.cons rfl (Keep.cons rfl (Keep.cons rfl (Keep.cons rfl (Keep.cons rfl (Keep.cons rfl (Keep.cons rfl (Keep.cons rfl (Keep.cons rfl (Keep.cons rfl (Keep.cons rfl (Keep.cons rfl (Keep.cons rfl (Keep.cons rfl (Keep.cons rfl (Keep.cons rfl (Keep.cons rfl (Keep.cons rfl (Keep.cons rfl (Keep.cons rfl (Keep.cons rfl (Keep.cons rfl (Keep.cons rfl (Keep.cons rfl (Keep.cons rfl (Keep.cons rfl (Keep.cons rfl (Keep.cons rfl (Keep.cons rfl (Keep.cons rfl (Keep.cons rfl (Keep.cons rfl (Keep.cons rfl (Keep.cons rfl (Keep.cons rfl (Keep.cons rfl (Keep.cons rfl (Keep.cons rfl (Keep.cons rfl (Keep.cons rfl (Keep.cons rfl (Keep.cons rfl (Keep.cons rfl (Keep.cons rfl (Keep.cons rfl (Keep.cons rfl (Keep.cons rfl (Keep.cons rfl (Keep.cons rfl (Keep.cons rfl (Keep.cons rfl (Keep.cons rfl (Keep.cons rfl (Keep.cons rfl (Keep.cons rfl (Keep.app rfl (Keep.rm rfl Keep.base)))))))))))))))))))))))))))))))))))))))))))))))))))))))))))), hh.less (.cons _ (List.Sublist.refl _))⟩, by omega⟩
                · have hG89 := hg89; try simp only [gS] at hG89
                  refine ops_off hf (goff rfl rfl rfl (by first | assumption | rfl | (simp; done) | (simp; omega))) rfl rfl ?_; clear hf; clear a; intro a hf
                  refine ops_off hf (goff rfl rfl rfl (by first | assumption | rfl | (simp; done) | (simp; omega))) rfl rfl ?_; clear hf; clear a; intro a hf
                  refine ops_v hf hh (yv_pick_f rfl (by first | assumption | rfl | (simp; done) | (simp; omega)) rfl) (.inl rfl) rfl rfl rfl ?_; clear hf; clear a; intro a hf
                  refine ops_end ?_
                  refine then_n ?_
                  refine sy_cf hf rfl (by first | assumption | rfl | (simp; done) | (simp; omega)) ?_
                  refine sy_exit ?_
                  refine then_e ?_
                  refine then_e ?_
                  refine blk_e ?_
                  refine blk_n ?_
                  refine then_n ?_
                  refine sy_ops ?_
                  first | refine ops_v hf hh (yv_add rfl rfl (by omega) (by omega)) (.inl rfl) rfl rfl rfl ?_; clear hf; clear a; intro a hf | refine ops_v hf hh (yv_bin rfl rfl rfl) (.inl rfl) rfl rfl rfl ?_; clear hf; clear a; intro a hf
                  refine ops_v hf hh (yv_move rfl) (.inl rfl) rfl rfl rfl ?_; clear hf; clear a; intro a hf
                  refine ops_end ?_
                  refine then_n ?_
                  exact ⟨i + 1, ⟨by omega, hf.head ⟨rfl, True.intro⟩ (Keep.cons rfl (Keep.cons rfl (Keep.cons rfl (Keep.cons rfl (Keep.cons rfl (Keep.cons rfl (Keep.cons rfl (Keep.cons rfl (Keep.cons rfl (Keep.app rfl (Keep.rm rfl (Keep.cons rfl (Keep.cons rfl (Keep.cons rfl (Keep.cons rfl (Keep.cons rfl (Keep.cons rfl (Keep.cons rfl (Keep.cons rfl (Keep.cons rfl (Keep.cons rfl (Keep.cons rfl (Keep.cons rfl (Keep.cons rfl (Keep.cons rfl (Keep.cons rfl (Keep.cons rfl (Keep.cons rfl (Keep.cons rfl (Keep.cons rfl (Keep.cons rfl (Keep.cons rfl (Keep.cons rfl (Keep.cons rfl (Keep.cons rfl (Keep.cons rfl (Keep.cons rfl (Keep.cons rfl (Keep.cons rfl (Keep.cons rfl (Keep.cons rfl (Keep.cons rfl (Keep.cons rfl (Keep.cons rfl (Keep.cons rfl (Keep.cons rfl (Keep.cons rfl (Keep.cons rfl (Keep.cons rfl (Keep.app rfl (Keep.rm rfl Keep.base))))))))))))))))))))))))))))))))))))))))))))))))))), hh.less (.cons _ (List.Sublist.refl _))⟩, by omega⟩
          · have hG83 := hg83; try simp only [gS] at hG83
            refine sy_exit ?_
            refine then_e ?_
            refine then_e ?_
            refine blk_e ?_
            refine then_n ?_
            refine sy_seq ?_
            refine sy_ops ?_
            refine ops_call hf Tryd.en_12 rfl rfl rfl (.inl rfl) rfl (c12 _ (hT.ext hh.ext (by simp))) ?_; clear hf; clear a; intro v a w hR hf
            obtain ⟨rfl, hx⟩ := hR; replace hh := hh.more hx; clear hx
            refine ops_v hf hh (yv_assign rfl) (.inl rfl) rfl rfl rfl ?_; clear hf; clear a; intro a hf
            refine ops_end ?_
            refine then_n ?_
            refine sy_ret ?_
            refine ret_r hf rfl rfl ?_
            first
              | exact ⟨rfl, hh.ext⟩
              | (exfalso; omega)
              | (exfalso
                 have h3 : neverB b (2 ^ i) = true := by assumption
                 rw [hno i (by omega)] at h3; cases h3)
              | (exfalso
                 have h3 : neverB b (2 ^ i ||| 2 ^ k) = true := by assumption
                 rw [hn2 i k (by omega) (by omega) (by omega)] at h3; cases h3)
              | (exfalso
                 have hi : i = i0 := by omega
                 have hk : k = k0 := by omega
                 subst hi; subst hk
                 have h3 : neverB b (2 ^ i ||| 2 ^ k) = false := by assumption
                 rw [hn1] at h3; cases h3)
set_option maxRecDepth 100000 in
set_option maxHeartbeats 4000000 in
theorem c9e (b : BarD) (sa : Option Addr) (sc : Nat) (u : World) (hS : ScAt u sa b.scenes) (hT : GTab u) (y : Nat) (hy : y ≤ 65535) (hok : okBar b = true) (hF : firstP b (allS b) = none) (h1 : oneB b = none) (h2 : twoB b = none) : Calls Tryd.prog 9 #[barV b sa sc, .int .u16 (y : Nat)] u (Ret fun v w' => v = .bool true ∧ Ext [] u w') := by
  refine calls_of Tryd.func9 rfl rfl (fun a hf => ?_)
  have hh := Hp.init u []
  have hV := (okBar_iff b).1 hok
  have hn := hV.n
  have hm1 : 1 ≤ 2 ^ b.scenes.length := Nat.one_le_two_pow
  have hm2 : 2 ^ b.scenes.length ≤ 2 ^ 10 := Nat.pow_le_pow_right (by omega) hn
  have hs1 := hV.s1; have hs2 := hV.s2
  have hpw := shl_bd hs1 hs2
  have hnev : neverB b (2 ^ b.scenes.length - 1) = true := by unfold neverB; rw [hF]; rfl
  have hn0 := never_len0 hV hnev
  have h0n : decide ((b.scenes.length : Int) ≤ 0) = false := decide_eq_false (by omega)
  have hqp := planV_plan hV y
  have hqb := isPlan_bd hqp
  have htq := taken_bd hV (planV b y)
  have hn2 := two_none h2
  have hno := one_none h1
  have hwv : whyV b = .tuple #[.int .i64 3, .int .i64 0, .int .i64 0, .int .i64 11] := by unfold whyV; rw [hnev, h1, h2]; rfl
  refine sy_seq ?_
  refine sy_ops ?_
  refine ops_box hf hh rfl (.inl rfl) rfl ?_; clear hf hh; clear a; intro B2 a w hf hh
  refine ops_v hf hh (yv_assign rfl) (.inl rfl) rfl rfl rfl ?_; clear hf; clear a; intro a hf
  refine ops_end ?_
  refine then_n ?_
  refine sy_seq ?_
  refine sy_seq ?_
  refine sy_ops ?_
  refine ops_v hf hh (yv_fieldAddr Tryd.fo_24_4 rfl) (.inl rfl) rfl rfl rfl ?_; clear hf; clear a; intro a hf
  refine ops_v hf hh (yv_load Tryd.sc_22 rfl (fun _ h => by first | exact h.at (i := 0) rfl | exact h.at (i := 1) rfl | exact h.at (i := 2) rfl | exact h.at (i := 3) rfl) (by first | rfl | assumption)) (.inl rfl) rfl rfl rfl ?_; clear hf; clear a; intro a hf
  refine ops_v hf hh (yv_len Tryd.se_22 rfl) (.inl rfl) rfl rfl rfl ?_; clear hf; clear a; intro a hf
  refine ops_v hf hh (yv_bin rfl rfl rfl) (.inl rfl) rfl rfl rfl ?_; clear hf; clear a; intro a hf
  refine ops_v hf hh (yv_move rfl) (.inl rfl) rfl rfl rfl ?_; clear hf; clear a; intro a hf
  refine guard_split hf (t := 23) rfl (fun hg2 => ?_) (fun hg2 => ?_)
  · have hG2 := hg2; try simp only [gS] at hG2
    refine ops_off hf (goff rfl rfl rfl (by first | assumption | rfl | (simp; done) | (simp; omega))) rfl rfl ?_; clear hf; clear a; intro a hf
    refine ops_off hf (goff rfl rfl rfl (by first | assumption | rfl | (simp; done) | (simp; omega))) rfl rfl ?_; clear hf; clear a; intro a hf
    refine ops_v hf hh (yv_pick_t rfl (by first | assumption | rfl | (simp; done) | (simp; omega)) rfl) (.inl rfl) rfl rfl rfl ?_; clear hf; clear a; intro a hf
    refine ops_end ?_
    refine then_n ?_
    refine sy_ct hf rfl (by first | assumption | rfl | (simp; done) | (simp; omega)) ?_
    refine sy_seq ?_
    refine sy_ops ?_
    refine ops_call hf Tryd.en_12 rfl rfl rfl (.inl rfl) rfl (c12 _ (hT.ext hh.ext (by simp))) ?_; clear hf; clear a; intro v a w hR hf
    obtain ⟨rfl, hx⟩ := hR; replace hh := hh.more hx; clear hx
    refine ops_v hf hh (yv_assign rfl) (.inl rfl) rfl rfl rfl ?_; clear hf; clear a; intro a hf
    refine ops_end ?_
    refine then_n ?_
    refine sy_ret ?_
    refine then_r ?_
    refine ret_r hf rfl rfl ?_
    first
      | exact ⟨rfl, hh.ext⟩
      | (exfalso; omega)
      | (exfalso
         have h3 : neverB b (2 ^ i) = true := by assumption
         rw [hno i (by omega)] at h3; cases h3)
      | (exfalso
         have h3 : neverB b (2 ^ i ||| 2 ^ k) = true := by assumption
         rw [hn2 i k (by omega) (by omega)] at h3; cases h3)
  · have hG2 := hg2; try simp only [gS] at hG2
    refine ops_v hf hh (yv_loads Tryd.ag_24 rfl (fun _ h => by first | exact h.at (i := 0) rfl | exact h.at (i := 1) rfl | exact h.at (i := 2) rfl | exact h.at (i := 3) rfl) (by first | assumption | rfl)) (gon rfl rfl rfl (by first | assumption | rfl | (simp; done) | (simp; omega))) rfl rfl rfl ?_; clear hf; clear a; intro a hf
    refine ops_call hf Tryd.en_17 rfl rfl rfl (gon rfl rfl rfl (by first | assumption | rfl | (simp; done) | (simp; omega))) rfl (c17 b sa sc 7 _ (hS.ext hh.ext)) ?_; clear hf; clear a; intro v a w hR hf
    obtain ⟨rfl, hx⟩ := hR; replace hh := hh.more hx; clear hx
    refine ops_v hf hh (yv_pick_f rfl (by first | assumption | rfl | (simp; done) | (simp; omega)) rfl) (.inl rfl) rfl rfl rfl ?_; clear hf; clear a; intro a hf
    refine ops_end ?_
    refine then_n ?_
    refine sy_cond hf rfl (fun hg5 => ?_) (fun hg5 => ?_)
    · have hG5 := hg5; try simp only [gS] at hG5
      refine sy_seq ?_
      refine sy_ops ?_
      refine ops_call hf Tryd.en_12 rfl rfl rfl (.inl rfl) rfl (c12 _ (hT.ext hh.ext (by simp))) ?_; clear hf; clear a; intro v a w hR hf
      obtain ⟨rfl, hx⟩ := hR; replace hh := hh.more hx; clear hx
      refine ops_v hf hh (yv_assign rfl) (.inl rfl) rfl rfl rfl ?_; clear hf; clear a; intro a hf
      refine ops_end ?_
      refine then_n ?_
      refine sy_ret ?_
      refine then_r ?_
      refine ret_r hf rfl rfl ?_
      first
        | exact ⟨rfl, hh.ext⟩
        | (exfalso; omega)
        | (exfalso
           have h3 : neverB b (2 ^ i) = true := by assumption
           rw [hno i (by omega)] at h3; cases h3)
        | (exfalso
           have h3 : neverB b (2 ^ i ||| 2 ^ k) = true := by assumption
           rw [hn2 i k (by omega) (by omega)] at h3; cases h3)
    · have hG5 := hg5; try simp only [gS] at hG5
      refine sy_skip ?_
      refine then_n ?_
      refine sy_seq ?_
      refine sy_ops ?_
      refine ops_v hf hh (yv_loads Tryd.ag_24 rfl (fun _ h => by first | exact h.at (i := 0) rfl | exact h.at (i := 1) rfl | exact h.at (i := 2) rfl | exact h.at (i := 3) rfl) (by first | assumption | rfl)) (.inl rfl) rfl rfl rfl ?_; clear hf; clear a; intro a hf
      refine ops_call hf Tryd.en_26 rfl rfl rfl (.inl rfl) rfl (hwv ▸ c26v b sa sc _ (hS.ext hh.ext) (hT.ext hh.ext (by simp)) hV) ?_; clear hf; clear a; intro v a w hR hf
      obtain ⟨rfl, hx⟩ := hR; replace hh := hh.more hx; clear hx
      refine ops_v hf hh (yv_move rfl) (.inl rfl) rfl rfl rfl ?_; clear hf; clear a; intro a hf
      refine ops_v hf hh (yv_extract rfl rfl) (.inl rfl) rfl rfl rfl ?_; clear hf; clear a; intro a hf
      refine ops_v hf hh (yv_extract rfl rfl) (.inl rfl) rfl rfl rfl ?_; clear hf; clear a; intro a hf
      refine ops_v hf hh (yv_extract rfl rfl) (.inl rfl) rfl rfl rfl ?_; clear hf; clear a; intro a hf
      refine ops_v hf hh (yv_extract rfl rfl) (.inl rfl) rfl rfl rfl ?_; clear hf; clear a; intro a hf
      refine ops_v hf hh (yv_assign rfl) (.inl rfl) rfl rfl rfl ?_; clear hf; clear a; intro a hf
      refine ops_v hf hh (yv_assign rfl) (.inl rfl) rfl rfl rfl ?_; clear hf; clear a; intro a hf
      refine ops_v hf hh (yv_assign rfl) (.inl rfl) rfl rfl rfl ?_; clear hf; clear a; intro a hf
      refine ops_v hf hh (yv_assign rfl) (.inl rfl) rfl rfl rfl ?_; clear hf; clear a; intro a hf
      refine ops_end ?_
      refine then_n ?_
      refine sy_seq ?_
      refine sy_ops ?_
      refine ops_v hf hh (yv_loads Tryd.ag_24 rfl (fun _ h => by first | exact h.at (i := 0) rfl | exact h.at (i := 1) rfl | exact h.at (i := 2) rfl | exact h.at (i := 3) rfl) (by first | assumption | rfl)) (.inl rfl) rfl rfl rfl ?_; clear hf; clear a; intro a hf
      refine ops_call hf Tryd.en_18 rfl rfl rfl (.inl rfl) rfl (c18x b sa sc _ (hS.ext hh.ext) (hT.ext hh.ext (by simp)) hV hF) ?_; clear hf; clear a; intro v a w hR hf
      obtain ⟨rfl, hx⟩ := hR; replace hh := hh.more hx; clear hx
      refine ops_v hf hh (yv_move rfl) (.inl rfl) rfl rfl rfl ?_; clear hf; clear a; intro a hf
      refine ops_v hf hh (yv_extract rfl rfl) (.inl rfl) rfl rfl rfl ?_; clear hf; clear a; intro a hf
      refine ops_v hf hh (yv_extract rfl rfl) (.inl rfl) rfl rfl rfl ?_; clear hf; clear a; intro a hf
      refine ops_v hf hh (yv_assign rfl) (.inl rfl) rfl rfl rfl ?_; clear hf; clear a; intro a hf
      refine ops_v hf hh (yv_assign rfl) (.inl rfl) rfl rfl rfl ?_; clear hf; clear a; intro a hf
      refine ops_end ?_
      refine then_n ?_
      refine sy_seq ?_
      refine sy_seq ?_
      refine sy_ops ?_
      refine ops_v hf hh (yv_move rfl) (.inl rfl) rfl rfl rfl ?_; clear hf; clear a; intro a hf
      refine ops_v hf hh (yv_move rfl) (.inl rfl) rfl rfl rfl ?_; clear hf; clear a; intro a hf
      refine ops_v hf hh (yv_bin rfl rfl rfl) (.inl rfl) rfl rfl rfl ?_; clear hf; clear a; intro a hf
      refine ops_end ?_
      refine then_n ?_
      refine sy_cf hf rfl (by first | assumption | rfl | (simp; done) | (simp; omega)) ?_
      refine sy_skip ?_
      refine then_n ?_
      refine sy_seq ?_
      refine sy_seq ?_
      refine sy_ops ?_
      refine ops_v hf hh (yv_move rfl) (.inl rfl) rfl rfl rfl ?_; clear hf; clear a; intro a hf
      refine ops_v hf hh (yv_bin rfl rfl rfl) (.inl rfl) rfl rfl rfl ?_; clear hf; clear a; intro a hf
      refine ops_end ?_
      refine then_n ?_
      refine sy_cf hf rfl (by first | assumption | rfl | (simp; done) | (simp; omega)) ?_
      refine sy_skip ?_
      refine then_n ?_
      refine sy_seq ?_
      refine sy_ops ?_
      refine ops_v hf hh (yv_fieldAddr Tryd.fo_24_4 rfl) (.inl rfl) rfl rfl rfl ?_; clear hf; clear a; intro a hf
      refine ops_v hf hh (yv_load Tryd.sc_22 rfl (fun _ h => by first | exact h.at (i := 0) rfl | exact h.at (i := 1) rfl | exact h.at (i := 2) rfl | exact h.at (i := 3) rfl) (by first | rfl | assumption)) (.inl rfl) rfl rfl rfl ?_; clear hf; clear a; intro a hf
      refine ops_v hf hh (yv_len Tryd.se_22 rfl) (.inl rfl) rfl rfl rfl ?_; clear hf; clear a; intro a hf
      refine ops_v hf hh (yv_assign rfl) (.inl rfl) rfl rfl rfl ?_; clear hf; clear a; intro a hf
      refine ops_end ?_
      refine then_n ?_
      refine sy_seq ?_
      refine sy_seq ?_
      refine sy_ops ?_
      refine ops_v hf hh (yv_move rfl) (.inl rfl) rfl rfl rfl ?_; clear hf; clear a; intro a hf
      refine ops_v hf hh (yv_bin rfl rfl rfl) (.inl rfl) rfl rfl rfl ?_; clear hf; clear a; intro a hf
      refine ops_v hf hh (yv_move rfl) (.inl rfl) rfl rfl rfl ?_; clear hf; clear a; intro a hf
      refine ops_v hf hh (yv_move rfl) (gon rfl rfl rfl (by first | assumption | rfl | (simp; done) | (simp; omega))) rfl rfl rfl ?_; clear hf; clear a; intro a hf
      refine ops_v hf hh (yv_move rfl) (gon rfl rfl rfl (by first | assumption | rfl | (simp; done) | (simp; omega))) rfl rfl rfl ?_; clear hf; clear a; intro a hf
      refine ops_v hf hh (yv_bin rfl rfl rfl) (gon rfl rfl rfl (by first | assumption | rfl | (simp; done) | (simp; omega))) rfl rfl rfl ?_; clear hf; clear a; intro a hf
      refine ops_v hf hh (yv_pick_f rfl (by first | assumption | rfl | (simp; done) | (simp; omega)) rfl) (.inl rfl) rfl rfl rfl ?_; clear hf; clear a; intro a hf
      refine ops_v hf hh (yv_move rfl) (.inl rfl) rfl rfl rfl ?_; clear hf; clear a; intro a hf
      refine ops_v hf hh (yv_move rfl) (gon rfl rfl rfl (by first | assumption | rfl | (simp; done) | (simp; omega))) rfl rfl rfl ?_; clear hf; clear a; intro a hf
      refine ops_v hf hh (yv_bin rfl rfl rfl) (gon rfl rfl rfl (by first | assumption | rfl | (simp; done) | (simp; omega))) rfl rfl rfl ?_; clear hf; clear a; intro a hf
      refine ops_v hf hh (yv_pick_f rfl (by first | assumption | rfl | (simp; done) | (simp; omega)) rfl) (.inl rfl) rfl rfl rfl ?_; clear hf; clear a; intro a hf
      refine ops_v hf hh (yv_move rfl) (.inl rfl) rfl rfl rfl ?_; clear hf; clear a; intro a hf
      refine ops_v hf hh (yv_move rfl) (gon rfl rfl rfl (by first | assumption | rfl | (simp; done) | (simp; omega))) rfl rfl rfl ?_; clear hf; clear a; intro a hf
      refine ops_v hf hh (yv_move rfl) (gon rfl rfl rfl (by first | assumption | rfl | (simp; done) | (simp; omega))) rfl rfl rfl ?_; clear hf; clear a; intro a hf
      refine ops_v hf hh (yv_bin rfl rfl rfl) (gon rfl rfl rfl (by first | assumption | rfl | (simp; done) | (simp; omega))) rfl rfl rfl ?_; clear hf; clear a; intro a hf
      refine ops_v hf hh (yv_pick_f rfl (by first | assumption | rfl | (simp; done) | (simp; omega)) rfl) (.inl rfl) rfl rfl rfl ?_; clear hf; clear a; intro a hf
      refine ops_v hf hh (yv_move rfl) (.inl rfl) rfl rfl rfl ?_; clear hf; clear a; intro a hf
      refine ops_v hf hh (yv_move rfl) (gon rfl rfl rfl (by first | assumption | rfl | (simp; done) | (simp; omega))) rfl rfl rfl ?_; clear hf; clear a; intro a hf
      refine ops_v hf hh (yv_bin rfl rfl rfl) (gon rfl rfl rfl (by first | assumption | rfl | (simp; done) | (simp; omega))) rfl rfl rfl ?_; clear hf; clear a; intro a hf
      refine ops_v hf hh (yv_pick_f rfl (by first | assumption | rfl | (simp; done) | (simp; omega)) rfl) (.inl rfl) rfl rfl rfl ?_; clear hf; clear a; intro a hf
      refine ops_v hf hh (yv_move rfl) (.inl rfl) rfl rfl rfl ?_; clear hf; clear a; intro a hf
      refine ops_v hf hh (yv_move rfl) (gon rfl rfl rfl (by first | assumption | rfl | (simp; done) | (simp; omega))) rfl rfl rfl ?_; clear hf; clear a; intro a hf
      refine ops_v hf hh (yv_bin rfl rfl rfl) (gon rfl rfl rfl (by first | assumption | rfl | (simp; done) | (simp; omega))) rfl rfl rfl ?_; clear hf; clear a; intro a hf
      refine ops_v hf hh (yv_pick_f rfl (by first | assumption | rfl | (simp; done) | (simp; omega)) rfl) (.inl rfl) rfl rfl rfl ?_; clear hf; clear a; intro a hf
      refine ops_v hf hh (yv_move rfl) (.inl rfl) rfl rfl rfl ?_; clear hf; clear a; intro a hf
      refine ops_v hf hh (yv_move rfl) (gon rfl rfl rfl (by first | assumption | rfl | (simp; done) | (simp; omega))) rfl rfl rfl ?_; clear hf; clear a; intro a hf
      refine ops_v hf hh (yv_bin rfl rfl rfl) (gon rfl rfl rfl (by first | assumption | rfl | (simp; done) | (simp; omega))) rfl rfl rfl ?_; clear hf; clear a; intro a hf
      refine ops_v hf hh (yv_move rfl) (gon rfl rfl rfl (by first | assumption | rfl | (simp; done) | (simp; omega))) rfl rfl rfl ?_; clear hf; clear a; intro a hf
      refine ops_off hf (goff rfl rfl rfl (by first | assumption | rfl | (simp; done) | (simp; omega))) rfl rfl ?_; clear hf; clear a; intro a hf
      refine ops_off hf (goff rfl rfl rfl (by first | assumption | rfl | (simp; done) | (simp; omega))) rfl rfl ?_; clear hf; clear a; intro a hf
      refine ops_v hf hh (yv_pick_f rfl (by first | assumption | rfl | (simp; done) | (simp; omega)) rfl) (gon rfl rfl rfl (by first | assumption | rfl | (simp; done) | (simp; omega))) rfl rfl rfl ?_; clear hf; clear a; intro a hf
      refine ops_v hf hh (yv_pick_f rfl (by first | assumption | rfl | (simp; done) | (simp; omega)) rfl) (.inl rfl) rfl rfl rfl ?_; clear hf; clear a; intro a hf
      refine ops_v hf hh (yv_move rfl) (.inl rfl) rfl rfl rfl ?_; clear hf; clear a; intro a hf
      refine ops_v hf hh (yv_move rfl) (gon rfl rfl rfl (by first | assumption | rfl | (simp; done) | (simp; omega))) rfl rfl rfl ?_; clear hf; clear a; intro a hf
      refine ops_v hf hh (yv_bin rfl rfl rfl) (gon rfl rfl rfl (by first | assumption | rfl | (simp; done) | (simp; omega))) rfl rfl rfl ?_; clear hf; clear a; intro a hf
      refine ops_v hf hh (yv_move rfl) (gon rfl rfl rfl (by first | assumption | rfl | (simp; done) | (simp; omega))) rfl rfl rfl ?_; clear hf; clear a; intro a hf
      refine ops_off hf (goff rfl rfl rfl (by first | assumption | rfl | (simp; done) | (simp; omega))) rfl rfl ?_; clear hf; clear a; intro a hf
      refine ops_off hf (goff rfl rfl rfl (by first | assumption | rfl | (simp; done) | (simp; omega))) rfl rfl ?_; clear hf; clear a; intro a hf
      refine ops_off hf (goff rfl rfl rfl (by first | assumption | rfl | (simp; done) | (simp; omega))) rfl rfl ?_; clear hf; clear a; intro a hf
      refine ops_v hf hh (yv_pick_f rfl (by first | assumption | rfl | (simp; done) | (simp; omega)) rfl) (gon rfl rfl rfl (by first | assumption | rfl | (simp; done) | (simp; omega))) rfl rfl rfl ?_; clear hf; clear a; intro a hf
      refine ops_v hf hh (yv_pick_f rfl (by first | assumption | rfl | (simp; done) | (simp; omega)) rfl) (.inl rfl) rfl rfl rfl ?_; clear hf; clear a; intro a hf
      refine ops_v hf hh (yv_move rfl) (.inl rfl) rfl rfl rfl ?_; clear hf; clear a; intro a hf
      refine ops_v hf hh (yv_move rfl) (gon rfl rfl rfl (by first | assumption | rfl | (simp; done) | (simp; omega))) rfl rfl rfl ?_; clear hf; clear a; intro a hf
      refine ops_v hf hh (yv_bin rfl rfl rfl) (gon rfl rfl rfl (by first | assumption | rfl | (simp; done) | (simp; omega))) rfl rfl rfl ?_; clear hf; clear a; intro a hf
      refine ops_v hf hh (yv_move rfl) (gon rfl rfl rfl (by first | assumption | rfl | (simp; done) | (simp; omega))) rfl rfl rfl ?_; clear hf; clear a; intro a hf
      refine ops_v hf hh (yv_move rfl) (gon rfl rfl rfl (by first | assumption | rfl | (simp; done) | (simp; omega))) rfl rfl rfl ?_; clear hf; clear a; intro a hf
      refine ops_v hf hh (yv_move rfl) (gon rfl rfl rfl (by first | assumption | rfl | (simp; done) | (simp; omega))) rfl rfl rfl ?_; clear hf; clear a; intro a hf
      first | refine ops_v hf hh (yv_add rfl rfl (by omega) (by omega)) (gon rfl rfl rfl (by first | assumption | rfl | (simp; done) | (simp; omega))) rfl rfl rfl ?_; clear hf; clear a; intro a hf | refine ops_v hf hh (yv_bin rfl rfl rfl) (gon rfl rfl rfl (by first | assumption | rfl | (simp; done) | (simp; omega))) rfl rfl rfl ?_; clear hf; clear a; intro a hf
      refine ops_v hf hh (yv_bin rfl rfl rfl) (gon rfl rfl rfl (by first | assumption | rfl | (simp; done) | (simp; omega))) rfl rfl rfl ?_; clear hf; clear a; intro a hf
      refine ops_v hf hh (yv_pick_t rfl (by first | assumption | rfl | (simp; done) | (simp; omega)) rfl) (gon rfl rfl rfl (by first | assumption | rfl | (simp; done) | (simp; omega))) rfl rfl rfl ?_; clear hf; clear a; intro a hf
      refine ops_v hf hh (yv_pick_f rfl (by first | assumption | rfl | (simp; done) | (simp; omega)) rfl) (.inl rfl) rfl rfl rfl ?_; clear hf; clear a; intro a hf
      refine ops_end ?_
      refine then_n ?_
      refine sy_cf hf rfl (by first | assumption | rfl | (simp; done) | (simp; omega)) ?_
      refine sy_skip ?_
      refine then_n ?_
      refine sy_seq ?_
      refine sy_quiet (C := Hp _ _ _) Tryd.follows (by kernel_rfl) (hh.drawn _) ?_
      refine q_v hf (yv_loads Tryd.ag_24 rfl (fun _ h => by first | exact h.at (i := 0) rfl | exact h.at (i := 1) rfl | exact h.at (i := 2) rfl | exact h.at (i := 3) rfl) (by first | assumption | rfl)) (.inl rfl) rfl rfl ?_; clear hf; clear a; intro a hf
      refine q_v hf (yv_loads Tryd.ag_24 rfl (fun _ h => by first | exact h.at (i := 0) rfl | exact h.at (i := 1) rfl | exact h.at (i := 2) rfl | exact h.at (i := 3) rfl) (by first | assumption | rfl)) (.inl rfl) rfl rfl ?_; clear hf; clear a; intro a hf
      refine q_v hf (yv_move rfl) (.inl rfl) rfl rfl ?_; clear hf; clear a; intro a hf
      refine q_callE hf Tryd.en_30 rfl rfl rfl (.inl rfl) rfl (fun w hh => c30 b sa sc hV y hy _) ?_; clear hf; clear a; intro a hf
      refine q_callE hf Tryd.en_13 rfl rfl rfl (.inl rfl) rfl (fun w hh => c13p b sa sc _ (hS.ext hh.ext) (hT.ext hh.ext (by simp)) hok (planV b y) hqp) ?_; clear hf; clear a; intro a hf
      refine q_v hf (yv_move rfl) (.inl rfl) rfl rfl ?_; clear hf; clear a; intro a hf
      refine q_v hf (yv_extract rfl rfl) (.inl rfl) rfl rfl ?_; clear hf; clear a; intro a hf
      refine q_v hf (yv_extract rfl rfl) (.inl rfl) rfl rfl ?_; clear hf; clear a; intro a hf
      refine q_v hf (yv_assign rfl) (.inl rfl) rfl rfl ?_; clear hf; clear a; intro a hf
      refine q_v hf (yv_assign rfl) (.inl rfl) rfl rfl ?_; clear hf; clear a; intro a hf
      refine q_end fun w hh => ?_
      refine then_n ?_
      refine sy_seq ?_
      refine sy_seq ?_
      refine sy_ops ?_
      refine ops_v hf hh (yv_move rfl) (.inl rfl) rfl rfl rfl ?_; clear hf; clear a; intro a hf
      refine ops_v hf hh (yv_bin rfl rfl rfl) (.inl rfl) rfl rfl rfl ?_; clear hf; clear a; intro a hf
      refine ops_v hf hh (yv_move rfl) (.inl rfl) rfl rfl rfl ?_; clear hf; clear a; intro a hf
      refine ops_v hf hh (yv_move rfl) (gon rfl rfl rfl (by first | assumption | rfl | (simp; done) | (simp; omega))) rfl rfl rfl ?_; clear hf; clear a; intro a hf
      refine ops_v hf hh (yv_bin rfl rfl rfl) (gon rfl rfl rfl (by first | assumption | rfl | (simp; done) | (simp; omega))) rfl rfl rfl ?_; clear hf; clear a; intro a hf
      refine ops_v hf hh (yv_move rfl) (gon rfl rfl rfl (by first | assumption | rfl | (simp; done) | (simp; omega))) rfl rfl rfl ?_; clear hf; clear a; intro a hf
      refine ops_off hf (goff rfl rfl rfl (by first | assumption | rfl | (simp; done) | (simp; omega))) rfl rfl ?_; clear hf; clear a; intro a hf
      refine ops_off hf (goff rfl rfl rfl (by first | assumption | rfl | (simp; done) | (simp; omega))) rfl rfl ?_; clear hf; clear a; intro a hf
      refine ops_off hf (goff rfl rfl rfl (by first | assumption | rfl | (simp; done) | (simp; omega))) rfl rfl ?_; clear hf; clear a; intro a hf
      refine ops_off hf (goff rfl rfl rfl (by first | assumption | rfl | (simp; done) | (simp; omega))) rfl rfl ?_; clear hf; clear a; intro a hf
      refine ops_off hf (goff rfl rfl rfl (by first | assumption | rfl | (simp; done) | (simp; omega))) rfl rfl ?_; clear hf; clear a; intro a hf
      refine ops_v hf hh (yv_pick_f rfl (by first | assumption | rfl | (simp; done) | (simp; omega)) rfl) (gon rfl rfl rfl (by first | assumption | rfl | (simp; done) | (simp; omega))) rfl rfl rfl ?_; clear hf; clear a; intro a hf
      refine ops_v hf hh (yv_pick_f rfl (by first | assumption | rfl | (simp; done) | (simp; omega)) rfl) (.inl rfl) rfl rfl rfl ?_; clear hf; clear a; intro a hf
      refine ops_v hf hh (yv_move rfl) (.inl rfl) rfl rfl rfl ?_; clear hf; clear a; intro a hf
      refine ops_v hf hh (yv_move rfl) (gon rfl rfl rfl (by first | assumption | rfl | (simp; done) | (simp; omega))) rfl rfl rfl ?_; clear hf; clear a; intro a hf
      refine ops_v hf hh (yv_bin rfl rfl rfl) (gon rfl rfl rfl (by first | assumption | rfl | (simp; done) | (simp; omega))) rfl rfl rfl ?_; clear hf; clear a; intro a hf
      refine ops_v hf hh (yv_move rfl) (gon rfl rfl rfl (by first | assumption | rfl | (simp; done) | (simp; omega))) rfl rfl rfl ?_; clear hf; clear a; intro a hf
      refine ops_off hf (goff rfl rfl rfl (by first | assumption | rfl | (simp; done) | (simp; omega))) rfl rfl ?_; clear hf; clear a; intro a hf
      refine ops_off hf (goff rfl rfl rfl (by first | assumption | rfl | (simp; done) | (simp; omega))) rfl rfl ?_; clear hf; clear a; intro a hf
      refine ops_off hf (goff rfl rfl rfl (by first | assumption | rfl | (simp; done) | (simp; omega))) rfl rfl ?_; clear hf; clear a; intro a hf
      refine ops_off hf (goff rfl rfl rfl (by first | assumption | rfl | (simp; done) | (simp; omega))) rfl rfl ?_; clear hf; clear a; intro a hf
      refine ops_off hf (goff rfl rfl rfl (by first | assumption | rfl | (simp; done) | (simp; omega))) rfl rfl ?_; clear hf; clear a; intro a hf
      refine ops_v hf hh (yv_pick_f rfl (by first | assumption | rfl | (simp; done) | (simp; omega)) rfl) (gon rfl rfl rfl (by first | assumption | rfl | (simp; done) | (simp; omega))) rfl rfl rfl ?_; clear hf; clear a; intro a hf
      refine ops_v hf hh (yv_move rfl) (gon rfl rfl rfl (by first | assumption | rfl | (simp; done) | (simp; omega))) rfl rfl rfl ?_; clear hf; clear a; intro a hf
      refine ops_off hf (goff rfl rfl rfl (by first | assumption | rfl | (simp; done) | (simp; omega))) rfl rfl ?_; clear hf; clear a; intro a hf
      refine ops_off hf (goff rfl rfl rfl (by first | assumption | rfl | (simp; done) | (simp; omega))) rfl rfl ?_; clear hf; clear a; intro a hf
      refine ops_off hf (goff rfl rfl rfl (by first | assumption | rfl | (simp; done) | (simp; omega))) rfl rfl ?_; clear hf; clear a; intro a hf
      refine ops_off hf (goff rfl rfl rfl (by first | assumption | rfl | (simp; done) | (simp; omega))) rfl rfl ?_; clear hf; clear a; intro a hf
      refine ops_off hf (goff rfl rfl rfl (by first | assumption | rfl | (simp; done) | (simp; omega))) rfl rfl ?_; clear hf; clear a; intro a hf
      refine ops_v hf hh (yv_pick_f rfl (by first | assumption | rfl | (simp; done) | (simp; omega)) rfl) (gon rfl rfl rfl (by first | assumption | rfl | (simp; done) | (simp; omega))) rfl rfl rfl ?_; clear hf; clear a; intro a hf
      refine ops_v hf hh (yv_pick_f rfl (by first | assumption | rfl | (simp; done) | (simp; omega)) rfl) (.inl rfl) rfl rfl rfl ?_; clear hf; clear a; intro a hf
      refine ops_end ?_
      refine then_n ?_
      refine sy_cf hf rfl (by first | assumption | rfl | (simp; done) | (simp; omega)) ?_
      refine sy_skip ?_
      refine then_n ?_
      refine sy_seq ?_
      refine sy_ops ?_
      refine ops_v hf hh (yv_makeFunc rfl rfl) (.inl rfl) rfl rfl rfl ?_; clear hf; clear a; intro a hf
      refine ops_v hf hh (yv_assign rfl) (.inl rfl) rfl rfl rfl ?_; clear hf; clear a; intro a hf
      refine ops_end ?_
      refine then_n ?_
      refine sy_seq ?_
      refine sy_seq ?_
      refine sy_ops ?_
      refine ops_v hf hh (yv_move rfl) (.inl rfl) rfl rfl rfl ?_; clear hf; clear a; intro a hf
      refine ops_v hf hh (yv_move rfl) (.inl rfl) rfl rfl rfl ?_; clear hf; clear a; intro a hf
      refine ops_end ?_
      refine then_n ?_
      refine sy_block ?_
      refine sy_loopF (σ := Nat) [4, 15, 16, 17, 18, 153, 154, 155, 156, 157, 158, 159, 160, 161, 162, 163, 164, 165, 166, 167, 168, 169, 170, 171, 172, 173, 174, 175, 176, 177, 178, 179, 180, 181, 182, 183, 184, 185, 186, 187, 188, 189, 190, 191, 192, 193, 194, 195, 196, 197, 198, 199, 200, 201, 202, 203, 204, 205, 206, 207, 208, 209, 210, 211, 212, 213, 214, 215, 216, 217, 218, 219, 220, 221, 222, 223, 224, 225, 226, 227, 228, 229, 230, 231, 232, 233, 234, 235, 236, 237, 238, 239, 240, 241, 242, 243, 244, 245] (fun i => [(153, .int .i64 i)]) (fun i => i ≤ b.scenes.length) (fun i => b.scenes.length - i) (0) hf hh ?_ ?_ ?_
      · repeat' (first | exact True.intro | refine And.intro rfl ?_)
      · first | exact True.intro | omega | (simp; omega) | simp
      · rintro i a w hpr hf hh
        refine sy_seq ?_
        refine sy_ops ?_
        refine ops_v hf hh (yv_bin rfl rfl rfl) (.inl rfl) rfl rfl rfl ?_; clear hf; clear a; intro a hf
        refine ops_end ?_
        refine then_n ?_
        refine sy_seq ?_
        refine sy_cond hf rfl (fun hg35 => ?_) (fun hg35 => ?_)
        · have hG35 := hg35; try simp only [gS] at hG35
          refine sy_skip ?_
          refine then_n ?_
          refine sy_seq ?_
          refine sy_block ?_
          refine sy_seq ?_
          refine sy_ops ?_
          refine ops_v hf hh (yv_move rfl) (.inl rfl) rfl rfl rfl ?_; clear hf; clear a; intro a hf
          refine ops_v hf hh (yv_assign rfl) (.inl rfl) rfl rfl rfl ?_; clear hf; clear a; intro a hf
          refine ops_end ?_
          refine then_n ?_
          refine sy_seq ?_
          refine sy_seq ?_
          refine sy_ops ?_
          refine ops_v hf hh (yv_move rfl) (.inl rfl) rfl rfl rfl ?_; clear hf; clear a; intro a hf
          refine ops_v hf hh (yv_move rfl) (.inl rfl) rfl rfl rfl ?_; clear hf; clear a; intro a hf
          refine ops_buildSl hf hh Tryd.bl_45_1 rfl rfl (.inl rfl) rfl ?_; clear hf hh; clear a; intro B158 a w hf hh
          refine ops_call hf Tryd.en_32 rfl rfl rfl (.inl rfl) rfl (c32a b sa sc B2 B158 i _ hV (hT.ext hh.ext (by simp)) (hS.ext hh.ext) (by omega) (hh.at (i := 1) rfl) (hh.at (i := 0) rfl)) ?_; clear hf; clear a; intro v a w hR hf
          obtain ⟨rfl, hx⟩ := hR; replace hh := hh.more hx; clear hx
          refine ops_v hf hh (yv_assign rfl) (.inl rfl) rfl rfl rfl ?_; clear hf; clear a; intro a hf
          refine ops_end ?_
          refine then_n ?_
          refine sy_seq ?_
          refine sy_ops ?_
          refine ops_v hf hh (yv_move rfl) (.inl rfl) rfl rfl rfl ?_; clear hf; clear a; intro a hf
          refine ops_v hf hh (yv_bin rfl rfl rfl) (.inl rfl) rfl rfl rfl ?_; clear hf; clear a; intro a hf
          refine ops_v hf hh (yv_move rfl) (.inl rfl) rfl rfl rfl ?_; clear hf; clear a; intro a hf
          refine ops_v hf hh (yv_move rfl) (gon rfl rfl rfl (by first | assumption | rfl | (simp; done) | (simp; omega))) rfl rfl rfl ?_; clear hf; clear a; intro a hf
          refine ops_v hf hh (yv_not rfl) (gon rfl rfl rfl (by first | assumption | rfl | (simp; done) | (simp; omega))) rfl rfl rfl ?_; clear hf; clear a; intro a hf
          refine ops_v hf hh (yv_pick_t rfl (by first | assumption | rfl | (simp; done) | (simp; omega)) rfl) (.inl rfl) rfl rfl rfl ?_; clear hf; clear a; intro a hf
          refine ops_v hf hh (yv_move rfl) (.inl rfl) rfl rfl rfl ?_; clear hf; clear a; intro a hf
          refine guard_split hf (t := 166) rfl (fun hg38 => ?_) (fun hg38 => ?_)
          · have hG38 := hg38; try simp only [gS] at hG38
            refine ops_off hf (goff rfl rfl rfl (by first | assumption | rfl | (simp; done) | (simp; omega))) rfl rfl ?_; clear hf; clear a; intro a hf
            refine ops_off hf (goff rfl rfl rfl (by first | assumption | rfl | (simp; done) | (simp; omega))) rfl rfl ?_; clear hf; clear a; intro a hf
            refine ops_off hf (goff rfl rfl rfl (by first | assumption | rfl | (simp; done) | (simp; omega))) rfl rfl ?_; clear hf; clear a; intro a hf
            refine ops_off hf (goffu rfl rfl rfl) rfl rfl ?_; clear hf; clear a; intro a hf
            refine ops_off hf (goffu rfl rfl rfl) rfl rfl ?_; clear hf; clear a; intro a hf
            refine ops_off hf (goffu rfl rfl rfl) rfl rfl ?_; clear hf; clear a; intro a hf
            refine ops_off hf (goffu rfl rfl rfl) rfl rfl ?_; clear hf; clear a; intro a hf
            refine ops_off hf (goffu rfl rfl rfl) rfl rfl ?_; clear hf; clear a; intro a hf
            refine ops_off hf (goffu rfl rfl rfl) rfl rfl ?_; clear hf; clear a; intro a hf
            refine ops_off hf (goffu rfl rfl rfl) rfl rfl ?_; clear hf; clear a; intro a hf
            refine ops_off hf (goffu rfl rfl rfl) rfl rfl ?_; clear hf; clear a; intro a hf
            refine ops_off hf (goffu rfl rfl rfl) rfl rfl ?_; clear hf; clear a; intro a hf
            refine ops_off hf (goffu rfl rfl rfl) rfl rfl ?_; clear hf; clear a; intro a hf
            refine ops_off hf (goffu rfl rfl rfl) rfl rfl ?_; clear hf; clear a; intro a hf
            refine ops_off hf (goffu rfl rfl rfl) rfl rfl ?_; clear hf; clear a; intro a hf
            refine ops_off hf (goffu rfl rfl rfl) rfl rfl ?_; clear hf; clear a; intro a hf
            refine ops_off hf (goffu rfl rfl rfl) rfl rfl ?_; clear hf; clear a; intro a hf
            refine ops_off hf (goffu rfl rfl rfl) rfl rfl ?_; clear hf; clear a; intro a hf
            refine ops_off hf (goff rfl rfl rfl (by first | assumption | rfl | (simp; done) | (simp; omega))) rfl rfl ?_; clear hf; clear a; intro a hf
            refine ops_v hf hh (yv_pick_t rfl (by first | assumption | rfl | (simp; done) | (simp; omega)) rfl) (.inl rfl) rfl rfl rfl ?_; clear hf; clear a; intro a hf
            refine ops_end ?_
            refine then_n ?_
            refine sy_ct hf rfl (by first | assumption | rfl | (simp; done) | (simp; omega)) ?_
            refine sy_seq ?_
            refine sy_ops ?_
            refine ops_v hf hh (yv_assign rfl) (.inl rfl) rfl rfl rfl ?_; clear hf; clear a; intro a hf
            refine ops_end ?_
            refine then_n ?_
            refine sy_ret ?_
            refine then_r ?_
            refine blk_r ?_
            refine then_r ?_
            refine then_r ?_
            refine blk_r ?_
            refine then_r ?_
            refine ret_r hf rfl rfl ?_
            first
              | exact ⟨rfl, hh.ext⟩
              | (exfalso; omega)
              | (exfalso
                 have h3 : neverB b (2 ^ i) = true := by assumption
                 rw [hno i (by omega)] at h3; cases h3)
              | (exfalso
                 have h3 : neverB b (2 ^ i ||| 2 ^ k) = true := by assumption
                 rw [hn2 i k (by omega) (by omega)] at h3; cases h3)
          · have hG38 := hg38; try simp only [gS] at hG38
            refine ops_v hf hh (yv_move rfl) (gon rfl rfl rfl (by first | assumption | rfl | (simp; done) | (simp; omega))) rfl rfl rfl ?_; clear hf; clear a; intro a hf
            refine ops_v hf hh (yv_bin rfl rfl rfl) (gon rfl rfl rfl (by first | assumption | rfl | (simp; done) | (simp; omega))) rfl rfl rfl ?_; clear hf; clear a; intro a hf
            refine ops_v hf hh (yv_move rfl) (gon rfl rfl rfl (by first | assumption | rfl | (simp; done) | (simp; omega))) rfl rfl rfl ?_; clear hf; clear a; intro a hf
            refine ops_off hf (goff rfl rfl rfl (by first | assumption | rfl | (simp; done) | (simp; omega))) rfl rfl ?_; clear hf; clear a; intro a hf
            refine ops_off hf (goff rfl rfl rfl (by first | assumption | rfl | (simp; done) | (simp; omega))) rfl rfl ?_; clear hf; clear a; intro a hf
            refine ops_off hf (goff rfl rfl rfl (by first | assumption | rfl | (simp; done) | (simp; omega))) rfl rfl ?_; clear hf; clear a; intro a hf
            refine ops_off hf (goff rfl rfl rfl (by first | assumption | rfl | (simp; done) | (simp; omega))) rfl rfl ?_; clear hf; clear a; intro a hf
            refine ops_off hf (goffu rfl rfl rfl) rfl rfl ?_; clear hf; clear a; intro a hf
            refine ops_off hf (goffu rfl rfl rfl) rfl rfl ?_; clear hf; clear a; intro a hf
            refine ops_off hf (goff rfl rfl rfl (by first | assumption | rfl | (simp; done) | (simp; omega))) rfl rfl ?_; clear hf; clear a; intro a hf
            refine ops_off hf (goff rfl rfl rfl (by first | assumption | rfl | (simp; done) | (simp; omega))) rfl rfl ?_; clear hf; clear a; intro a hf
            refine ops_off hf (goffu rfl rfl rfl) rfl rfl ?_; clear hf; clear a; intro a hf
            refine ops_off hf (goffu rfl rfl rfl) rfl rfl ?_; clear hf; clear a; intro a hf
            refine ops_off hf (goffu rfl rfl rfl) rfl rfl ?_; clear hf; clear a; intro a hf
            refine ops_off hf (goffu rfl rfl rfl) rfl rfl ?_; clear hf; clear a; intro a hf
            refine ops_off hf (goffu rfl rfl rfl) rfl rfl ?_; clear hf; clear a; intro a hf
            refine ops_off hf (goffu rfl rfl rfl) rfl rfl ?_; clear hf; clear a; intro a hf
            refine ops_off hf (goff rfl rfl rfl (by first | assumption | rfl | (simp; done) | (simp; omega))) rfl rfl ?_; clear hf; clear a; intro a hf
            refine ops_v hf hh (yv_pick_f rfl (by first | assumption | rfl | (simp; done) | (simp; omega)) rfl) (gon rfl rfl rfl (by first | assumption | rfl | (simp; done) | (simp; omega))) rfl rfl rfl ?_; clear hf; clear a; intro a hf
            refine ops_v hf hh (yv_pick_f rfl (by first | assumption | rfl | (simp; done) | (simp; omega)) rfl) (.inl rfl) rfl rfl rfl ?_; clear hf; clear a; intro a hf
            refine ops_end ?_
            refine then_n ?_
            refine sy_cf hf rfl (by first | assumption | rfl | (simp; done) | (simp; omega)) ?_
            refine sy_skip ?_
            refine then_n ?_
            refine sy_seq ?_
            refine sy_ops ?_
            refine ops_v hf hh (yv_move rfl) (.inl rfl) rfl rfl rfl ?_; clear hf; clear a; intro a hf
            first | refine ops_v hf hh (yv_add rfl rfl (by omega) (by omega)) (.inl rfl) rfl rfl rfl ?_; clear hf; clear a; intro a hf | refine ops_v hf hh (yv_bin rfl rfl rfl) (.inl rfl) rfl rfl rfl ?_; clear hf; clear a; intro a hf
            refine ops_v hf hh (yv_assign rfl) (.inl rfl) rfl rfl rfl ?_; clear hf; clear a; intro a hf
            refine ops_end ?_
            refine then_n ?_
            refine sy_block ?_
            refine sy_loopF (σ := Nat) [4, 17, 18, 189, 190, 191, 192, 193, 194, 195, 196, 197, 198, 199, 200, 201, 202, 203, 204, 205, 206, 207, 208, 209, 210, 211, 212, 213, 214, 215, 216, 217, 218, 219, 220, 221, 222, 223, 224, 225, 226, 227, 228, 229, 230, 231, 232, 233, 234, 235, 236, 237, 238, 239, 240, 241, 242, 243, 244] (fun k => [(17, .int .i64 k)]) (fun k => i + 1 ≤ k ∧ k ≤ b.scenes.length) (fun k => b.scenes.length - k) (i + 1) hf hh ?_ ?_ ?_
            · repeat' (first | exact True.intro | refine And.intro rfl ?_)
            · omega
            · rintro k a w ⟨hk1, hk2⟩ hf hh
              refine sy_seq ?_
              refine sy_seq ?_
              refine sy_ops ?_
              refine ops_v hf hh (yv_move rfl) (.inl rfl) rfl rfl rfl ?_; clear hf; clear a; intro a hf
              refine ops_v hf hh (yv_move rfl) (.inl rfl) rfl rfl rfl ?_; clear hf; clear a; intro a hf
              refine ops_v hf hh (yv_bin rfl rfl rfl) (.inl rfl) rfl rfl rfl ?_; clear hf; clear a; intro a hf
              refine ops_v hf hh (yv_move rfl) (.inl rfl) rfl rfl rfl ?_; clear hf; clear a; intro a hf
              refine guard_split hf (t := 192) rfl (fun hg41 => ?_) (fun hg41 => ?_)
              · have hG41 := hg41; try simp only [gS] at hG41
                refine ops_v hf hh (yv_move rfl) (gon rfl rfl rfl (by first | assumption | rfl | (simp; done) | (simp; omega))) rfl rfl rfl ?_; clear hf; clear a; intro a hf
                refine ops_v hf hh (yv_bin rfl rfl rfl) (gon rfl rfl rfl (by first | assumption | rfl | (simp; done) | (simp; omega))) rfl rfl rfl ?_; clear hf; clear a; intro a hf
                refine ops_v hf hh (yv_pick_t rfl (by first | assumption | rfl | (simp; done) | (simp; omega)) rfl) (.inl rfl) rfl rfl rfl ?_; clear hf; clear a; intro a hf
                refine ops_end ?_
                refine then_n ?_
                refine sy_ct hf rfl (by first | assumption | rfl | (simp; done) | (simp; omega)) ?_
                refine sy_skip ?_
                refine then_n ?_
                refine sy_seq ?_
                refine sy_block ?_
                refine sy_seq ?_
                refine sy_ops ?_
                refine ops_v hf hh (yv_move rfl) (.inl rfl) rfl rfl rfl ?_; clear hf; clear a; intro a hf
                refine ops_v hf hh (yv_move rfl) (.inl rfl) rfl rfl rfl ?_; clear hf; clear a; intro a hf
                refine ops_v hf hh (yv_move rfl) (.inl rfl) rfl rfl rfl ?_; clear hf; clear a; intro a hf
                refine ops_buildSl hf hh Tryd.bl_45_2 rfl rfl (.inl rfl) rfl ?_; clear hf hh; clear a; intro B201 a w hf hh
                refine ops_call hf Tryd.en_32 rfl rfl rfl (.inl rfl) rfl (c32b b sa sc B2 B201 i k _ hV (hT.ext hh.ext (by simp)) (hS.ext hh.ext) (by omega) (by omega) (hh.at (i := 2) rfl) (hh.at (i := 0) rfl)) ?_; clear hf; clear a; intro v a w hR hf
                obtain ⟨rfl, hx⟩ := hR; replace hh := hh.more hx; clear hx
                refine ops_v hf hh (yv_assign rfl) (.inl rfl) rfl rfl rfl ?_; clear hf; clear a; intro a hf
                refine ops_end ?_
                refine then_n ?_
                refine sy_seq ?_
                refine sy_ops ?_
                refine ops_v hf hh (yv_move rfl) (.inl rfl) rfl rfl rfl ?_; clear hf; clear a; intro a hf
                refine ops_v hf hh (yv_bin rfl rfl rfl) (.inl rfl) rfl rfl rfl ?_; clear hf; clear a; intro a hf
                refine ops_v hf hh (yv_move rfl) (.inl rfl) rfl rfl rfl ?_; clear hf; clear a; intro a hf
                refine ops_v hf hh (yv_move rfl) (gon rfl rfl rfl (by first | assumption | rfl | (simp; done) | (simp; omega))) rfl rfl rfl ?_; clear hf; clear a; intro a hf
                refine ops_v hf hh (yv_not rfl) (gon rfl rfl rfl (by first | assumption | rfl | (simp; done) | (simp; omega))) rfl rfl rfl ?_; clear hf; clear a; intro a hf
                refine ops_v hf hh (yv_pick_t rfl (by first | assumption | rfl | (simp; done) | (simp; omega)) rfl) (.inl rfl) rfl rfl rfl ?_; clear hf; clear a; intro a hf
                refine ops_v hf hh (yv_move rfl) (.inl rfl) rfl rfl rfl ?_; clear hf; clear a; intro a hf
                refine guard_split hf (t := 209) rfl (fun hg45 => ?_) (fun hg45 => ?_)
                · have hG45 := hg45; try simp only [gS] at hG45
                  refine ops_off hf (goff rfl rfl rfl (by first | assumption | rfl | (simp; done) | (simp; omega))) rfl rfl ?_; clear hf; clear a; intro a hf
                  refine ops_off hf (goff rfl rfl rfl (by first | assumption | rfl | (simp; done) | (simp; omega))) rfl rfl ?_; clear hf; clear a; intro a hf
                  refine ops_off hf (goff rfl rfl rfl (by first | assumption | rfl | (simp; done) | (simp; omega))) rfl rfl ?_; clear hf; clear a; intro a hf
                  refine ops_off hf (goffu rfl rfl rfl) rfl rfl ?_; clear hf; clear a; intro a hf
                  refine ops_off hf (goffu rfl rfl rfl) rfl rfl ?_; clear hf; clear a; intro a hf
                  refine ops_off hf (goffu rfl rfl rfl) rfl rfl ?_; clear hf; clear a; intro a hf
                  refine ops_off hf (goffu rfl rfl rfl) rfl rfl ?_; clear hf; clear a; intro a hf
                  refine ops_off hf (goffu rfl rfl rfl) rfl rfl ?_; clear hf; clear a; intro a hf
                  refine ops_off hf (goffu rfl rfl rfl) rfl rfl ?_; clear hf; clear a; intro a hf
                  refine ops_off hf (goffu rfl rfl rfl) rfl rfl ?_; clear hf; clear a; intro a hf
                  refine ops_off hf (goffu rfl rfl rfl) rfl rfl ?_; clear hf; clear a; intro a hf
                  refine ops_off hf (goffu rfl rfl rfl) rfl rfl ?_; clear hf; clear a; intro a hf
                  refine ops_off hf (goffu rfl rfl rfl) rfl rfl ?_; clear hf; clear a; intro a hf
                  refine ops_off hf (goffu rfl rfl rfl) rfl rfl ?_; clear hf; clear a; intro a hf
                  refine ops_off hf (goffu rfl rfl rfl) rfl rfl ?_; clear hf; clear a; intro a hf
                  refine ops_off hf (goffu rfl rfl rfl) rfl rfl ?_; clear hf; clear a; intro a hf
                  refine ops_off hf (goffu rfl rfl rfl) rfl rfl ?_; clear hf; clear a; intro a hf
                  refine ops_off hf (goffu rfl rfl rfl) rfl rfl ?_; clear hf; clear a; intro a hf
                  refine ops_off hf (goffu rfl rfl rfl) rfl rfl ?_; clear hf; clear a; intro a hf
                  refine ops_off hf (goffu rfl rfl rfl) rfl rfl ?_; clear hf; clear a; intro a hf
                  refine ops_off hf (goffu rfl rfl rfl) rfl rfl ?_; clear hf; clear a; intro a hf
                  refine ops_off hf (goffu rfl rfl rfl) rfl rfl ?_; clear hf; clear a; intro a hf
                  refine ops_off hf (goffu rfl rfl rfl) rfl rfl ?_; clear hf; clear a; intro a hf
                  refine ops_off hf (goffu rfl rfl rfl) rfl rfl ?_; clear hf; clear a; intro a hf
                  refine ops_off hf (goffu rfl rfl rfl) rfl rfl ?_; clear hf; clear a; intro a hf
                  refine ops_off hf (goffu rfl rfl rfl) rfl rfl ?_; clear hf; clear a; intro a hf
                  refine ops_off hf (goffu rfl rfl rfl) rfl rfl ?_; clear hf; clear a; intro a hf
                  refine ops_off hf (goffu rfl rfl rfl) rfl rfl ?_; clear hf; clear a; intro a hf
                  refine ops_off hf (goffu rfl rfl rfl) rfl rfl ?_; clear hf; clear a; intro a hf
                  refine ops_off hf (goffu rfl rfl rfl) rfl rfl ?_; clear hf; clear a; intro a hf
                  refine ops_off hf (goffu rfl rfl rfl) rfl rfl ?_; clear hf; clear a; intro a hf
                  refine ops_off hf (goffu rfl rfl rfl) rfl rfl ?_; clear hf; clear a; intro a hf
                  refine ops_off hf (goffu rfl rfl rfl) rfl rfl ?_; clear hf; clear a; intro a hf
                  refine ops_off hf (goff rfl rfl rfl (by first | assumption | rfl | (simp; done) | (simp; omega))) rfl rfl ?_; clear hf; clear a; intro a hf
                  refine ops_v hf hh (yv_pick_t rfl (by first | assumption | rfl | (simp; done) | (simp; omega)) rfl) (.inl rfl) rfl rfl rfl ?_; clear hf; clear a; intro a hf
                  refine ops_end ?_
                  refine then_n ?_
                  refine sy_ct hf rfl (by first | assumption | rfl | (simp; done) | (simp; omega)) ?_
                  refine sy_seq ?_
                  refine sy_ops ?_
                  refine ops_v hf hh (yv_assign rfl) (.inl rfl) rfl rfl rfl ?_; clear hf; clear a; intro a hf
                  refine ops_end ?_
                  refine then_n ?_
                  refine sy_ret ?_
                  refine blk_r ?_
                  refine then_r ?_
                  refine then_r ?_
                  refine blk_r ?_
                  refine blk_r ?_
                  refine then_r ?_
                  refine then_r ?_
                  refine blk_r ?_
                  refine then_r ?_
                  refine ret_r hf rfl rfl ?_
                  first
                    | exact ⟨rfl, hh.ext⟩
                    | (exfalso; omega)
                    | (exfalso
                       have h3 : neverB b (2 ^ i) = true := by assumption
                       rw [hno i (by omega)] at h3; cases h3)
                    | (exfalso
                       have h3 : neverB b (2 ^ i ||| 2 ^ k) = true := by assumption
                       rw [hn2 i k (by omega) (by omega)] at h3; cases h3)
                · have hG45 := hg45; try simp only [gS] at hG45
                  refine ops_v hf hh (yv_move rfl) (gon rfl rfl rfl (by first | assumption | rfl | (simp; done) | (simp; omega))) rfl rfl rfl ?_; clear hf; clear a; intro a hf
                  refine ops_v hf hh (yv_bin rfl rfl rfl) (gon rfl rfl rfl (by first | assumption | rfl | (simp; done) | (simp; omega))) rfl rfl rfl ?_; clear hf; clear a; intro a hf
                  refine ops_v hf hh (yv_move rfl) (gon rfl rfl rfl (by first | assumption | rfl | (simp; done) | (simp; omega))) rfl rfl rfl ?_; clear hf; clear a; intro a hf
                  refine ops_off hf (goff rfl rfl rfl (by first | assumption | rfl | (simp; done) | (simp; omega))) rfl rfl ?_; clear hf; clear a; intro a hf
                  refine ops_off hf (goff rfl rfl rfl (by first | assumption | rfl | (simp; done) | (simp; omega))) rfl rfl ?_; clear hf; clear a; intro a hf
                  refine ops_off hf (goff rfl rfl rfl (by first | assumption | rfl | (simp; done) | (simp; omega))) rfl rfl ?_; clear hf; clear a; intro a hf
                  refine ops_off hf (goff rfl rfl rfl (by first | assumption | rfl | (simp; done) | (simp; omega))) rfl rfl ?_; clear hf; clear a; intro a hf
                  refine ops_off hf (goffu rfl rfl rfl) rfl rfl ?_; clear hf; clear a; intro a hf
                  refine ops_off hf (goffu rfl rfl rfl) rfl rfl ?_; clear hf; clear a; intro a hf
                  refine ops_off hf (goffu rfl rfl rfl) rfl rfl ?_; clear hf; clear a; intro a hf
                  refine ops_off hf (goff rfl rfl rfl (by first | assumption | rfl | (simp; done) | (simp; omega))) rfl rfl ?_; clear hf; clear a; intro a hf
                  refine ops_off hf (goff rfl rfl rfl (by first | assumption | rfl | (simp; done) | (simp; omega))) rfl rfl ?_; clear hf; clear a; intro a hf
                  refine ops_off hf (goffu rfl rfl rfl) rfl rfl ?_; clear hf; clear a; intro a hf
                  refine ops_off hf (goff rfl rfl rfl (by first | assumption | rfl | (simp; done) | (simp; omega))) rfl rfl ?_; clear hf; clear a; intro a hf
                  refine ops_off hf (goff rfl rfl rfl (by first | assumption | rfl | (simp; done) | (simp; omega))) rfl rfl ?_; clear hf; clear a; intro a hf
                  refine ops_off hf (goffu rfl rfl rfl) rfl rfl ?_; clear hf; clear a; intro a hf
                  refine ops_off hf (goffu rfl rfl rfl) rfl rfl ?_; clear hf; clear a; intro a hf
                  refine ops_off hf (goffu rfl rfl rfl) rfl rfl ?_; clear hf; clear a; intro a hf
                  refine ops_off hf (goffu rfl rfl rfl) rfl rfl ?_; clear hf; clear a; intro a hf
                  refine ops_off hf (goffu rfl rfl rfl) rfl rfl ?_; clear hf; clear a; intro a hf
                  refine ops_off hf (goffu rfl rfl rfl) rfl rfl ?_; clear hf; clear a; intro a hf
                  refine ops_off hf (goffu rfl rfl rfl) rfl rfl ?_; clear hf; clear a; intro a hf
                  refine ops_off hf (goffu rfl rfl rfl) rfl rfl ?_; clear hf; clear a; intro a hf
                  refine ops_off hf (goffu rfl rfl rfl) rfl rfl ?_; clear hf; clear a; intro a hf
                  refine ops_off hf (goffu rfl rfl rfl) rfl rfl ?_; clear hf; clear a; intro a hf
                  refine ops_off hf (goffu rfl rfl rfl) rfl rfl ?_; clear hf; clear a; intro a hf
                  refine ops_off hf (goffu rfl rfl rfl) rfl rfl ?_; clear hf; clear a; intro a hf
                  refine ops_off hf (goffu rfl rfl rfl) rfl rfl ?_; clear hf; clear a; intro a hf
                  refine ops_off hf (goffu rfl rfl rfl) rfl rfl ?_; clear hf; clear a; intro a hf
                  refine ops_off hf (goffu rfl rfl rfl) rfl rfl ?_; clear hf; clear a; intro a hf
                  refine ops_off hf (goffu rfl rfl rfl) rfl rfl ?_; clear hf; clear a; intro a hf
                  refine ops_off hf (goffu rfl rfl rfl) rfl rfl ?_; clear hf; clear a; intro a hf
                  refine ops_off hf (goff rfl rfl rfl (by first | assumption | rfl | (simp; done) | (simp; omega))) rfl rfl ?_; clear hf; clear a; intro a hf
                  refine ops_v hf hh (yv_pick_f rfl (by first | assumption | rfl | (simp; done) | (simp; omega)) rfl) (gon rfl rfl rfl (by first | assumption | rfl | (simp; done) | (simp; omega))) rfl rfl rfl ?_; clear hf; clear a; intro a hf
                  refine ops_v hf hh (yv_pick_f rfl (by first | assumption | rfl | (simp; done) | (simp; omega)) rfl) (.inl rfl) rfl rfl rfl ?_; clear hf; clear a; intro a hf
                  refine ops_end ?_
                  refine then_n ?_
                  refine sy_cf hf rfl (by first | assumption | rfl | (simp; done) | (simp; omega)) ?_
                  refine sy_skip ?_
                  refine blk_n ?_
                  refine then_n ?_
                  refine sy_ops ?_
                  refine ops_v hf hh (yv_move rfl) (.inl rfl) rfl rfl rfl ?_; clear hf; clear a; intro a hf
                  first | refine ops_v hf hh (yv_add rfl rfl (by omega) (by omega)) (.inl rfl) rfl rfl rfl ?_; clear hf; clear a; intro a hf | refine ops_v hf hh (yv_bin rfl rfl rfl) (.inl rfl) rfl rfl rfl ?_; clear hf; clear a; intro a hf
                  refine ops_v hf hh (yv_assign rfl) (.inl rfl) rfl rfl rfl ?_; clear hf; clear a; intro a hf
                  refine ops_end ?_
                  refine then_n ?_
                  exact ⟨k + 1, ⟨by omega, hf.head ⟨rfl, True.intro⟩ (Keep.cons rfl (Keep.cons rfl (Keep.cons rfl (Keep.cons rfl (Keep.cons rfl (Keep.cons rfl (Keep.cons rfl (Keep.cons rfl (Keep.cons rfl (Keep.cons rfl (Keep.cons rfl (Keep.cons rfl (Keep.cons rfl (Keep.cons rfl (Keep.cons rfl (Keep.cons rfl (Keep.cons rfl (Keep.cons rfl (Keep.cons rfl (Keep.cons rfl (Keep.cons rfl (Keep.cons rfl (Keep.cons rfl (Keep.cons rfl (Keep.cons rfl (Keep.cons rfl (Keep.cons rfl (Keep.cons rfl (Keep.cons rfl (Keep.cons rfl (Keep.cons rfl (Keep.cons rfl (Keep.cons rfl (Keep.cons rfl (Keep.cons rfl (Keep.cons rfl (Keep.cons rfl (Keep.cons rfl (Keep.cons rfl (Keep.cons rfl (Keep.cons rfl (Keep.cons rfl (Keep.cons rfl (Keep.cons rfl (Keep.cons rfl (Keep.cons rfl (Keep.cons rfl (Keep.cons rfl (Keep.cons rfl (Keep.cons rfl (Keep.cons rfl (Keep.cons rfl (Keep.cons rfl (Keep.cons rfl (Keep.cons rfl (Keep.cons rfl (Keep.cons rfl (Keep.cons rfl (Keep.app rfl (Keep.rm rfl Keep.base)))))))))))))))))))))))))))))))))))))))))))))))))))))))))))), hh.less (.cons _ (List.Sublist.refl _))⟩, by omega⟩
              · have hG41 := hg41; try simp only [gS] at hG41
                refine ops_off hf (goff rfl rfl rfl (by first | assumption | rfl | (simp; done) | (simp; omega))) rfl rfl ?_; clear hf; clear a; intro a hf
                refine ops_off hf (goff rfl rfl rfl (by first | assumption | rfl | (simp; done) | (simp; omega))) rfl rfl ?_; clear hf; clear a; intro a hf
                refine ops_v hf hh (yv_pick_f rfl (by first | assumption | rfl | (simp; done) | (simp; omega)) rfl) (.inl rfl) rfl rfl rfl ?_; clear hf; clear a; intro a hf
                refine ops_end ?_
                refine then_n ?_
                refine sy_cf hf rfl (by first | assumption | rfl | (simp; done) | (simp; omega)) ?_
                refine sy_exit ?_
                refine then_e ?_
                refine then_e ?_
                refine blk_e ?_
                refine blk_n ?_
                refine then_n ?_
                refine sy_ops ?_
                first | refine ops_v hf hh (yv_add rfl rfl (by omega) (by omega)) (.inl rfl) rfl rfl rfl ?_; clear hf; clear a; intro a hf | refine ops_v hf hh (yv_bin rfl rfl rfl) (.inl rfl) rfl rfl rfl ?_; clear hf; clear a; intro a hf
                refine ops_v hf hh (yv_move rfl) (.inl rfl) rfl rfl rfl ?_; clear hf; clear a; intro a hf
                refine ops_end ?_
                refine then_n ?_
                exact ⟨i + 1, ⟨by omega, hf.head ⟨rfl, True.intro⟩ (Keep.cons rfl (Keep.cons rfl (Keep.cons rfl (Keep.cons rfl (Keep.cons rfl (Keep.cons rfl (Keep.cons rfl (Keep.cons rfl (Keep.cons rfl (Keep.app rfl (Keep.rm rfl (Keep.cons rfl (Keep.cons rfl (Keep.cons rfl (Keep.cons rfl (Keep.cons rfl (Keep.cons rfl (Keep.cons rfl (Keep.cons rfl (Keep.cons rfl (Keep.cons rfl (Keep.cons rfl (Keep.cons rfl (Keep.cons rfl (Keep.cons rfl (Keep.cons rfl (Keep.cons rfl (Keep.cons rfl (Keep.cons rfl (Keep.cons rfl (Keep.cons rfl (Keep.cons rfl (Keep.cons rfl (Keep.cons rfl (Keep.cons rfl (Keep.cons rfl (Keep.cons rfl (Keep.cons rfl (Keep.cons rfl (Keep.cons rfl (Keep.cons rfl (Keep.cons rfl (Keep.cons rfl (Keep.cons rfl (Keep.cons rfl (Keep.cons rfl (Keep.cons rfl (Keep.cons rfl (Keep.cons rfl (Keep.app rfl (Keep.rm rfl Keep.base))))))))))))))))))))))))))))))))))))))))))))))))))), hh.less (.cons _ (List.Sublist.refl _))⟩, by omega⟩
        · have hG35 := hg35; try simp only [gS] at hG35
          refine sy_exit ?_
          refine then_e ?_
          refine then_e ?_
          refine blk_e ?_
          refine then_n ?_
          refine sy_seq ?_
          refine sy_ops ?_
          refine ops_call hf Tryd.en_12 rfl rfl rfl (.inl rfl) rfl (c12 _ (hT.ext hh.ext (by simp))) ?_; clear hf; clear a; intro v a w hR hf
          obtain ⟨rfl, hx⟩ := hR; replace hh := hh.more hx; clear hx
          refine ops_v hf hh (yv_assign rfl) (.inl rfl) rfl rfl rfl ?_; clear hf; clear a; intro a hf
          refine ops_end ?_
          refine then_n ?_
          refine sy_ret ?_
          refine ret_r hf rfl rfl ?_
          first
            | exact ⟨rfl, hh.ext⟩
            | (exfalso; omega)
            | (exfalso
               have h3 : neverB b (2 ^ i) = true := by assumption
               rw [hno i (by omega)] at h3; cases h3)
            | (exfalso
               have h3 : neverB b (2 ^ i ||| 2 ^ k) = true := by assumption
               rw [hn2 i k (by omega) (by omega)] at h3; cases h3)
theorem c9 (b : BarD) (sa : Option Addr) (sc : Nat) (u : World) (hS : ScAt u sa b.scenes) (hT : GTab u) (n : Int) (hn : 0 ≤ n ∧ n ≤ 65535) : Calls Tryd.prog 9 #[barV b sa sc, .int .u16 n] u (Ret fun v w' => v = .bool true ∧ Ext [] u w') := by
  obtain ⟨y, rfl⟩ := Int.eq_ofNat_of_zero_le hn.1
  cases hok : okBar b
  · exact c9a b sa sc u hS hT y (by omega) hok
  · cases hF : firstP b (allS b) with
    | some f => exact c9b b sa sc u hS hT y (by omega) f hok hF
    | none =>
      cases h1 : oneB b with
      | some i => exact c9c b sa sc u hS hT y (by omega) i hok hF h1
      | none =>
        cases h2 : twoB b with
        | some x => exact c9d b sa sc u hS hT y (by omega) x.1 x.2 hok hF h1 h2
        | none => exact c9e b sa sc u hS hT y (by omega) hok hF h1 h2
end Go.Proofs.YtkolcbjghphjeaaDoor
