/- The reference's list of plans, walked. -/
import Derived.Test.YtkolcbjghphjeaaDoorN3
namespace Go.Proofs.YtkolcbjghphjeaaDoor
open Go Go.Sy Go.BarM
theorem isPlanI_nat (b : BarD) (p : Nat) : isPlanI b (p : Int) = isPlan b p := by unfold isPlanI; simp
theorem c38n (b : BarD) (sa : Option Addr) (sc : Nat) (p : Nat) (w : World) (hV : Valid b) (h1 : p ≤ 9223372036854775807) : Calls Tryd.prog 38 #[barV b sa sc, .int .i64 p] w (Ret fun v w' => v = .bool (isPlan b p) ∧ Ext [] w w') := by
  have h := c38 b sa sc (p : Int) w hV (by omega)
  rw [isPlanI_nat] at h; exact h
theorem enc_taken {b : BarD} {p i : Nat} {s : Scn} (hs : b.scenes[i]? = some s) : decide (0 ≤ encX (best b p s)) = (taken b p).testBit i := by
  rw [taken_bit, hs]
  show _ = (best b p s).isSome
  cases best b p s <;> simp [encX]
theorem OwnSl.ints {L : List Nat} {oa : Option Addr} {m cap : Nat} {X : List (Nat × Obj)} (h : OwnSl 3 1 (.slice oa m cap) m (L.map iv) X) (h0 : 0 < L.length) :
    ∃ B cur, oa = some ⟨B, 0, none⟩ ∧ X = [(B, .cells cur 3 (0, 0))] ∧ ∀ (k y : Nat), L[k]? = some y → cur[0 + ((k : Nat) : Int).toNat * 1]? = some (.int .i64 (y : Nat)) := by
  obtain ⟨h1, h2⟩ := h
  rw [List.length_map] at h1
  rcases h2 with ⟨_, h2, _⟩ | ⟨B, c2, cur, e, e2, h3, h4, h5, h6⟩
  · omega
  · cases e
    refine ⟨B, cur, rfl, e2, fun k y hy => ?_⟩
    have hk := (List.getElem?_eq_some_iff.1 hy).1
    rw [Int.toNat_natCast, Nat.zero_add, Nat.mul_one, ← Array.getElem?_toList, ← List.getElem?_take_of_lt (j := m * 1) (by omega), h6, List.getElem?_map, hy]; rfl
theorem c50 (b : BarD) (sa : Option Addr) (sc : Nat) (w : World) (hS : ScAt w sa b.scenes) : Calls Tryd.prog 50 #[barV b sa sc, .bool true] w (Ret fun v w' => v = .int .i64 (okE b) ∧ Ext [] w w') := by
  refine calls_of Tryd.func50 rfl rfl (fun a hf => ?_)
  have hh := Hp.init w []
  refine sy_seq ?_
  refine sy_ops ?_
  refine ops_box hf hh rfl (.inl rfl) rfl ?_; clear hf hh; clear a; intro B2 a w hf hh
  refine ops_v hf hh (yv_assign rfl) (.inl rfl) rfl rfl rfl ?_; clear hf; clear a; intro a hf
  refine ops_end ?_
  refine then_n ?_
  refine sy_seq ?_
  refine sy_seq ?_
  refine sy_ops ?_
  refine ops_v hf hh (yv_loads Tryd.ag_24 rfl (fun _ h => by first | exact h.at (i := 0) rfl | exact h.at (i := 1) rfl | exact h.at (i := 2) rfl | exact h.at (i := 3) rfl) (by first | assumption | rfl)) (.inl rfl) rfl rfl rfl ?_; clear hf; clear a; intro a hf
  refine ops_call hf Tryd.en_28 rfl rfl rfl (.inl rfl) rfl (c28 b sa sc _ (hS.ext hh.ext)) ?_; clear hf; clear a; intro v a w hR hf
  obtain ⟨rfl, hx⟩ := hR; replace hh := hh.more hx; clear hx
  refine ops_v hf hh (yv_not rfl) (.inl rfl) rfl rfl rfl ?_; clear hf; clear a; intro a hf
  refine ops_end ?_
  refine then_n ?_
  refine sy_cond hf rfl (fun hg2 => ?_) (fun hg2 => ?_)
  · have hG2 := hg2; try simp only [gS] at hG2
    refine sy_seq ?_
    refine sy_ops ?_
    refine ops_v hf hh (yv_assign rfl) (.inl rfl) rfl rfl rfl ?_; clear hf; clear a; intro a hf
    refine ops_end ?_
    refine then_n ?_
    refine sy_ret ?_
    refine then_r ?_
    refine ret_r hf rfl rfl ?_
    exact ⟨by simp [tup, okE, *], hh.ext⟩
  · have hG2 := hg2; try simp only [gS] at hG2
    refine sy_skip ?_
    refine then_n ?_
    refine sy_seq ?_
    refine sy_seq ?_
    refine sy_ops ?_
    refine ops_v hf hh (yv_move rfl) (.inl rfl) rfl rfl rfl ?_; clear hf; clear a; intro a hf
    refine ops_v hf hh (yv_not rfl) (.inl rfl) rfl rfl rfl ?_; clear hf; clear a; intro a hf
    refine ops_end ?_
    refine then_n ?_
    refine sy_cf hf rfl (by first | assumption | rfl | (simp; done)) ?_
    refine sy_skip ?_
    refine then_n ?_
    refine sy_seq ?_
    refine sy_ops ?_
    refine ops_v hf hh (yv_assign rfl) (.inl rfl) rfl rfl rfl ?_; clear hf; clear a; intro a hf
    refine ops_end ?_
    refine then_n ?_
    refine sy_ret ?_
    refine ret_r hf rfl rfl ?_
    exact ⟨by simp [tup, okE, *], hh.ext⟩
theorem c52 (b : BarD) (sa : Option Addr) (sc : Nat) (w : World) (hn : b.scenes.length ≤ 62) : Calls Tryd.prog 52 #[barV b sa sc] w (Ret fun v w' => v = .int .i64 (allS b : Nat) ∧ Ext [] w w') := by
  refine calls_of Tryd.func52 rfl rfl (fun a hf => ?_)
  have hh := Hp.init w []
  have hp := pow_pos_i b.scenes.length
  have hp2 : 2 ^ b.scenes.length ≤ 2 ^ 62 := Nat.pow_le_pow_right (by omega) hn
  refine sy_seq ?_
  refine sy_ops ?_
  refine ops_box hf hh rfl (.inl rfl) rfl ?_; clear hf hh; clear a; intro B1 a w hf hh
  refine ops_v hf hh (yv_assign rfl) (.inl rfl) rfl rfl rfl ?_; clear hf; clear a; intro a hf
  refine ops_end ?_
  refine then_n ?_
  refine sy_seq ?_
  refine sy_ops ?_
  refine ops_v hf hh (yv_fieldAddr Tryd.fo_24_4 rfl) (.inl rfl) rfl rfl rfl ?_; clear hf; clear a; intro a hf
  refine ops_v hf hh (yv_load Tryd.sc_22 rfl (fun _ h => by first | exact h.at (i := 0) rfl | exact h.at (i := 1) rfl | exact h.at (i := 2) rfl | exact h.at (i := 3) rfl) (by first | rfl | assumption)) (.inl rfl) rfl rfl rfl ?_; clear hf; clear a; intro a hf
  refine ops_v hf hh (yv_len Tryd.se_22 rfl) (.inl rfl) rfl rfl rfl ?_; clear hf; clear a; intro a hf
  refine ops_call hf Tryd.en_56 rfl rfl rfl (.inl rfl) rfl (c56n b.scenes.length hn _) ?_; clear hf; clear a; intro v a w hR hf
  obtain ⟨rfl, hx⟩ := hR; replace hh := hh.more hx; clear hx
  first | refine ops_v hf hh (yv_sub rfl rfl (by omega) (by omega)) (.inl rfl) rfl rfl rfl ?_; clear hf; clear a; intro a hf | refine ops_v hf hh (yv_bin rfl rfl rfl) (.inl rfl) rfl rfl rfl ?_; clear hf; clear a; intro a hf
  refine ops_v hf hh (yv_assign rfl) (.inl rfl) rfl rfl rfl ?_; clear hf; clear a; intro a hf
  refine ops_end ?_
  refine then_n ?_
  refine sy_ret ?_
  refine ret_r hf rfl rfl ?_
  refine ⟨congrArg (Value.int IntKind.i64) ?_, hh.ext⟩
  show _ = ((2 ^ b.scenes.length - 1 : Nat) : Int)
  omega
theorem c51 (b : BarD) (sa : Option Addr) (sc : Nat) (set : Nat) (u : World) (hV : Valid b) (hS : ScAt u sa b.scenes) (hset : set < 2 ^ b.scenes.length) : Calls Tryd.prog 51 #[barV b sa sc, .int .i64 (set : Nat)] u
    (Ret fun v w' => ∃ X, OwnSl 3 1 v (refL b set).length ((refL b set).map iv) X ∧ Hp u [] X w') := by
  refine calls_of Tryd.func51 rfl rfl (fun a hf => ?_)
  have hh := Hp.init u []
  have hs1 := hV.s1; have hs2 := hV.s2; have hn := hV.n
  have hpw := shl_bd hs1 hs2
  have hpn : 2 ^ b.scenes.length ≤ 2 ^ 10 := Nat.pow_le_pow_right (by omega) hn
  refine sy_seq ?_
  refine sy_ops ?_
  refine ops_box hf hh rfl (.inl rfl) rfl ?_; clear hf hh; clear a; intro B2 a w hf hh
  refine ops_v hf hh (yv_assign rfl) (.inl rfl) rfl rfl rfl ?_; clear hf; clear a; intro a hf
  refine ops_end ?_
  refine then_n ?_
  refine sy_seq ?_
  refine sy_ops ?_
  refine ops_v hf hh (yv_assign rfl) (.inl rfl) rfl rfl rfl ?_; clear hf; clear a; intro a hf
  refine ops_end ?_
  refine then_n ?_
  refine sy_seq ?_
  refine sy_seq ?_
  refine sy_ops ?_
  refine ops_v hf hh (yv_assign rfl) (.inl rfl) rfl rfl rfl ?_; clear hf; clear a; intro a hf
  refine ops_end ?_
  refine then_n ?_
  refine sy_block ?_
  refine sy_loopH (σ := Nat × Value) [5, 6, 7, 8, 9, 10, 11, 12, 13, 14, 15, 16, 17, 18, 19, 20, 21, 22, 23, 24, 25, 26, 27, 28, 29, 30, 31, 32, 33, 34, 35, 36, 37, 38, 39, 40, 41, 42, 43, 44, 45, 46, 47, 48] (fun k => [(5, k.2), (6, .int .i64 k.1)]) (fun k => fun w' => k.1 ≤ 2 ^ b.slots.toNat ∧ ∃ X, OwnSl 3 1 k.2 (refK b set k.1).length ((refK b set k.1).map iv) X ∧ Hp u [] ((B2, .cells #[.int .i64 b.slots, .int .i64 b.pitch, .int .i64 b.broken, .int .i64 b.most, .slice sa b.scenes.length sc] 24) :: X) w') (fun k => 2 ^ b.slots.toNat - k.1) ((0, .slice none 0 0)) hf ?_ ?_ ?_
  · repeat' (first | exact True.intro | refine And.intro rfl ?_)
  · refine ⟨Nat.zero_le _, [], ?_, hh⟩; simp only [refK_zero]; exact OwnSl.nil _ _
  · rintro k a w ⟨hk, X, hown, hh⟩ hf
    obtain ⟨k, v⟩ := k
    simp only at hk hown
    have hlen := refK_len b set k
    refine sy_seq ?_
    refine sy_seq ?_
    refine sy_ops ?_
    refine ops_v hf hh (yv_move rfl) (.inl rfl) rfl rfl rfl ?_; clear hf; clear a; intro a hf
    refine ops_v hf hh (yv_fieldAddr Tryd.fo_24_0 rfl) (.inl rfl) rfl rfl rfl ?_; clear hf; clear a; intro a hf
    refine ops_v hf hh (yv_load Tryd.sc_3 rfl (fun _ h => by first | exact h.at (i := 0) rfl) (by first | rfl | assumption)) (.inl rfl) rfl rfl rfl ?_; clear hf; clear a; intro a hf
    refine ops_call hf Tryd.en_56 rfl rfl rfl (.inl rfl) rfl (c56 _ (by omega) (by omega) _) ?_; clear hf; clear a; intro v a w hR hf
    obtain ⟨rfl, hx⟩ := hR; replace hh := hh.more hx; clear hx
    refine ops_v hf hh (yv_bin rfl rfl rfl) (.inl rfl) rfl rfl rfl ?_; clear hf; clear a; intro a hf
    refine ops_end ?_
    refine then_n ?_
    refine sy_cond hf rfl (fun hg3 => ?_) (fun hg3 => ?_)
    · have hG3 := hg3; try simp only [gS] at hG3
      refine sy_skip ?_
      refine then_n ?_
      refine sy_seq ?_
      refine sy_block ?_
      refine sy_seq ?_
      refine sy_seq ?_
      refine sy_ops ?_
      refine ops_v hf hh (yv_loads Tryd.ag_24 rfl (fun _ h => by first | exact h.at (i := 0) rfl) (by first | assumption | rfl)) (.inl rfl) rfl rfl rfl ?_; clear hf; clear a; intro a hf
      refine ops_v hf hh (yv_move rfl) (.inl rfl) rfl rfl rfl ?_; clear hf; clear a; intro a hf
      refine ops_call hf Tryd.en_38 rfl rfl rfl (.inl rfl) rfl (c38n b sa sc k _ hV (by omega)) ?_; clear hf; clear a; intro v a w hR hf
      obtain ⟨rfl, hx⟩ := hR; replace hh := hh.more hx; clear hx
      refine ops_v hf hh (yv_not rfl) (.inl rfl) rfl rfl rfl ?_; clear hf; clear a; intro a hf
      refine ops_end ?_
      refine then_n ?_
      refine sy_cond hf rfl (fun hg5 => ?_) (fun hg5 => ?_)
      · have hG5 := hg5; try simp only [gS] at hG5
        refine sy_exit ?_
        refine then_e ?_
        refine blk_e ?_
        refine then_n ?_
        refine sy_ops ?_
        refine ops_v hf hh (yv_move rfl) (.inl rfl) rfl rfl rfl ?_; clear hf; clear a; intro a hf
        first | refine ops_v hf hh (yv_add rfl rfl (by omega) (by omega)) (.inl rfl) rfl rfl rfl ?_; clear hf; clear a; intro a hf | refine ops_v hf hh (yv_bin rfl rfl rfl) (.inl rfl) rfl rfl rfl ?_; clear hf; clear a; intro a hf
        refine ops_v hf hh (yv_assign rfl) (.inl rfl) rfl rfl rfl ?_; clear hf; clear a; intro a hf
        refine ops_end ?_
        refine then_n ?_
        have hstep := refK_step b set k
        first
          | (have h1 : tkTo b set k i = false := by assumption
             have h2 : tkTo b set k i = true := by assumption
             rw [h1] at h2; cases h2)
          | (have hp : isPlan b k = false := by assumption
             rw [hp, Bool.false_and, if_neg (by simp)] at hstep
             refine ⟨(k + 1, v), ⟨⟨by simp only; omega, X, ?_, hh⟩, hf.head ⟨rfl, rfl, True.intro⟩ (Keep.cons rfl (Keep.cons rfl (Keep.cons rfl (Keep.cons rfl (Keep.cons rfl (Keep.cons rfl (Keep.cons rfl (Keep.cons rfl (Keep.cons rfl (Keep.cons rfl (Keep.cons rfl (Keep.cons rfl (Keep.app rfl (Keep.rm rfl Keep.base))))))))))))))⟩, by simp only; omega⟩
             simp only; rw [hstep]; exact hown)
          | (have ht : tkTo b set k i = false := by assumption
             rw [tkTo_no hset (by omega) ht, Bool.and_false, if_neg (by simp)] at hstep
             refine ⟨(k + 1, v), ⟨⟨by simp only; omega, X, ?_, hh⟩, hf.head ⟨rfl, rfl, True.intro⟩ (Keep.cons rfl (Keep.cons rfl (Keep.cons rfl (Keep.cons rfl (Keep.cons rfl (Keep.cons rfl (Keep.cons rfl (Keep.cons rfl (Keep.cons rfl (Keep.cons rfl (Keep.cons rfl (Keep.cons rfl (Keep.app rfl (Keep.rm rfl Keep.base))))))))))))))⟩, by simp only; omega⟩
             simp only; rw [hstep]; exact hown)
          | (have hi : i = b.scenes.length := by omega
             subst hi
             have ht : tkTo b set k b.scenes.length = true := by assumption
             have hp : isPlan b k = true := by assumption
             rw [tkTo_all hset] at ht
             rw [hp, ht, if_pos (by rfl)] at hstep
             refine ⟨(k + 1, v2), ⟨⟨by simp only; omega, X2, ?_, hh⟩, hf.head ⟨rfl, rfl, True.intro⟩ (Keep.cons rfl (Keep.cons rfl (Keep.cons rfl (Keep.cons rfl (Keep.cons rfl (Keep.cons rfl (Keep.cons rfl (Keep.cons rfl (Keep.cons rfl (Keep.cons rfl (Keep.cons rfl (Keep.cons rfl (Keep.app rfl (Keep.rm rfl Keep.base))))))))))))))⟩, by simp only; omega⟩
             simp only; rw [hstep, List.length_append, List.map_append]; exact hown2)
      · have hG5 := hg5; try simp only [gS] at hG5
        refine sy_skip ?_
        refine then_n ?_
        refine sy_seq ?_
        refine sy_ops ?_
        refine ops_v hf hh (yv_assign rfl) (.inl rfl) rfl rfl rfl ?_; clear hf; clear a; intro a hf
        refine ops_end ?_
        refine then_n ?_
        refine sy_seq ?_
        refine sy_seq ?_
        refine sy_ops ?_
        refine ops_v hf hh (yv_assign rfl) (.inl rfl) rfl rfl rfl ?_; clear hf; clear a; intro a hf
        refine ops_end ?_
        refine then_n ?_
        refine sy_block ?_
        refine sy_loopF (σ := Nat) [7, 8, 9, 10, 22, 23, 24, 25, 26, 27, 28, 29, 30, 31, 32, 33, 34, 35, 36, 37, 38, 39, 40, 41, 42, 43] (fun i => [(7, .bool (tkTo b set k i)), (8, .int .i64 i)]) (fun i => i ≤ b.scenes.length) (fun i => b.scenes.length - i) (0) hf hh ?_ ?_ ?_
        · exact ⟨by rw [tkTo_zero]; rfl, rfl, True.intro⟩
        · first | exact True.intro | omega | (simp; omega) | simp
        · rintro i a w hpr hf hh
          refine sy_seq ?_
          refine sy_seq ?_
          refine sy_ops ?_
          refine ops_v hf hh (yv_move rfl) (.inl rfl) rfl rfl rfl ?_; clear hf; clear a; intro a hf
          refine ops_v hf hh (yv_fieldAddr Tryd.fo_24_4 rfl) (.inl rfl) rfl rfl rfl ?_; clear hf; clear a; intro a hf
          refine ops_v hf hh (yv_load Tryd.sc_22 rfl (fun _ h => by first | exact h.at (i := 0) rfl) (by first | rfl | assumption)) (.inl rfl) rfl rfl rfl ?_; clear hf; clear a; intro a hf
          refine ops_v hf hh (yv_len Tryd.se_22 rfl) (.inl rfl) rfl rfl rfl ?_; clear hf; clear a; intro a hf
          refine ops_v hf hh (yv_bin rfl rfl rfl) (.inl rfl) rfl rfl rfl ?_; clear hf; clear a; intro a hf
          refine ops_v hf hh (yv_move rfl) (.inl rfl) rfl rfl rfl ?_; clear hf; clear a; intro a hf
          refine guard_split hf (t := 27) rfl (fun hg7 => ?_) (fun hg7 => ?_)
          · have hG7 := hg7; try simp only [gS] at hG7
            refine ops_v hf hh (yv_move rfl) (gon rfl rfl rfl (by first | assumption | rfl | (simp; done))) rfl rfl rfl ?_; clear hf; clear a; intro a hf
            refine ops_v hf hh (yv_pick_t rfl (by first | assumption | rfl | (simp; done)) rfl) (.inl rfl) rfl rfl rfl ?_; clear hf; clear a; intro a hf
            refine ops_end ?_
            refine then_n ?_
            refine sy_cond hf rfl (fun hg9 => ?_) (fun hg9 => ?_)
            · have hG9 := hg9; try simp only [gS] at hG9
              refine sy_skip ?_
              refine then_n ?_
              refine sy_seq ?_
              refine sy_block ?_
              refine sy_seq ?_
              obtain ⟨s, hs⟩ := scn_of (l := b.scenes) (i := i) (by omega)
              have henc := enc_taken (p := k) hs
              have hst := tkTo_step b set k i
              refine sy_ops ?_
              refine ops_v hf hh (yv_move rfl) (.inl rfl) rfl rfl rfl ?_; clear hf; clear a; intro a hf
              refine ops_v hf hh (yv_move rfl) (.inl rfl) rfl rfl rfl ?_; clear hf; clear a; intro a hf
              refine ops_call hf Tryd.en_55 rfl rfl rfl (.inl rfl) rfl (c55n set i (by omega) (by omega) _) ?_; clear hf; clear a; intro v a w hR hf
              obtain ⟨rfl, hx⟩ := hR; replace hh := hh.more hx; clear hx
              refine ops_end ?_
              refine then_n ?_
              refine sy_cond hf rfl (fun hg11 => ?_) (fun hg11 => ?_)
              · have hG11 := hg11; try simp only [gS] at hG11
                refine sy_seq ?_
                refine sy_ops ?_
                refine ops_v hf hh (yv_loads Tryd.ag_24 rfl (fun _ h => by first | exact h.at (i := 0) rfl) (by first | assumption | rfl)) (.inl rfl) rfl rfl rfl ?_; clear hf; clear a; intro a hf
                refine ops_v hf hh (yv_move rfl) (.inl rfl) rfl rfl rfl ?_; clear hf; clear a; intro a hf
                refine ops_v hf hh (yv_move rfl) (.inl rfl) rfl rfl rfl ?_; clear hf; clear a; intro a hf
                refine ops_call hf Tryd.en_45 rfl rfl rfl (.inl rfl) rfl (c45 b sa sc k i s _ hs (hS.ext hh.ext) (by omega) (by have := hV.p1; omega) hV.p2 hV.s1 hV.s2) ?_; clear hf; clear a; intro v a w hR hf
                obtain ⟨rfl, hx⟩ := hR; replace hh := hh.more hx; clear hx
                refine ops_v hf hh (yv_move rfl) (.inl rfl) rfl rfl rfl ?_; clear hf; clear a; intro a hf
                refine ops_v hf hh (yv_extract rfl rfl) (.inl rfl) rfl rfl rfl ?_; clear hf; clear a; intro a hf
                refine ops_v hf hh (yv_extract rfl rfl) (.inl rfl) rfl rfl rfl ?_; clear hf; clear a; intro a hf
                refine ops_v hf hh (yv_assign rfl) (.inl rfl) rfl rfl rfl ?_; clear hf; clear a; intro a hf
                refine ops_v hf hh (yv_assign rfl) (.inl rfl) rfl rfl rfl ?_; clear hf; clear a; intro a hf
                refine ops_end ?_
                refine then_n ?_
                refine sy_ops ?_
                refine ops_v hf hh (yv_move rfl) (.inl rfl) rfl rfl rfl ?_; clear hf; clear a; intro a hf
                refine ops_v hf hh (yv_bin rfl rfl rfl) (.inl rfl) rfl rfl rfl ?_; clear hf; clear a; intro a hf
                refine ops_v hf hh (yv_assign rfl) (.inl rfl) rfl rfl rfl ?_; clear hf; clear a; intro a hf
                refine ops_end ?_
                refine blk_n ?_
                refine then_n ?_
                refine sy_ops ?_
                refine ops_v hf hh (yv_move rfl) (.inl rfl) rfl rfl rfl ?_; clear hf; clear a; intro a hf
                first | refine ops_v hf hh (yv_add rfl rfl (by omega) (by omega)) (.inl rfl) rfl rfl rfl ?_; clear hf; clear a; intro a hf | refine ops_v hf hh (yv_bin rfl rfl rfl) (.inl rfl) rfl rfl rfl ?_; clear hf; clear a; intro a hf
                refine ops_v hf hh (yv_assign rfl) (.inl rfl) rfl rfl rfl ?_; clear hf; clear a; intro a hf
                refine ops_end ?_
                refine then_n ?_
                have hall : tkTo b set k i = true := by assumption
                first
                  | (have hb : set.testBit i = true := by assumption
                     exact ⟨i + 1, ⟨by omega, hf.head ⟨congrArg (fun z => some (Value.bool z)) (by rw [hst, hall, hb, henc]; simp), rfl, True.intro⟩ (Keep.cons rfl (Keep.cons rfl (Keep.cons rfl (Keep.cons rfl (Keep.cons rfl (Keep.cons rfl (Keep.cons rfl (Keep.cons rfl (Keep.cons rfl (Keep.cons rfl (Keep.cons rfl (Keep.cons rfl (Keep.cons rfl (Keep.cons rfl (Keep.cons rfl (Keep.cons rfl (Keep.cons rfl (Keep.cons rfl (Keep.cons rfl (Keep.cons rfl (Keep.cons rfl (Keep.cons rfl (Keep.cons rfl (Keep.cons rfl (Keep.cons rfl (Keep.cons rfl (Keep.app rfl (Keep.rm rfl Keep.base)))))))))))))))))))))))))))), hh⟩, by omega⟩)
                  | (have hb : set.testBit i = false := by assumption
                     exact ⟨i + 1, ⟨by omega, hf.head ⟨congrArg (fun z => some (Value.bool z)) (by rw [hst, hb]; simp), rfl, True.intro⟩ (Keep.cons rfl (Keep.cons rfl (Keep.cons rfl (Keep.cons rfl (Keep.cons rfl (Keep.cons rfl (Keep.cons rfl (Keep.cons rfl (Keep.cons rfl (Keep.cons rfl (Keep.cons rfl (Keep.cons rfl (Keep.cons rfl (Keep.cons rfl (Keep.cons rfl (Keep.cons rfl (Keep.cons rfl (Keep.cons rfl (Keep.cons rfl (Keep.cons rfl (Keep.cons rfl (Keep.cons rfl (Keep.cons rfl (Keep.cons rfl (Keep.cons rfl (Keep.cons rfl (Keep.app rfl (Keep.rm rfl Keep.base)))))))))))))))))))))))))))), hh⟩, by omega⟩)
              · have hG11 := hg11; try simp only [gS] at hG11
                refine sy_skip ?_
                refine blk_n ?_
                refine then_n ?_
                refine sy_ops ?_
                refine ops_v hf hh (yv_move rfl) (.inl rfl) rfl rfl rfl ?_; clear hf; clear a; intro a hf
                first | refine ops_v hf hh (yv_add rfl rfl (by omega) (by omega)) (.inl rfl) rfl rfl rfl ?_; clear hf; clear a; intro a hf | refine ops_v hf hh (yv_bin rfl rfl rfl) (.inl rfl) rfl rfl rfl ?_; clear hf; clear a; intro a hf
                refine ops_v hf hh (yv_assign rfl) (.inl rfl) rfl rfl rfl ?_; clear hf; clear a; intro a hf
                refine ops_end ?_
                refine then_n ?_
                have hall : tkTo b set k i = true := by assumption
                first
                  | (have hb : set.testBit i = true := by assumption
                     exact ⟨i + 1, ⟨by omega, hf.head ⟨congrArg (fun z => some (Value.bool z)) (by rw [hst, hall, hb, henc]; simp), rfl, True.intro⟩ (Keep.cons rfl (Keep.cons rfl (Keep.cons rfl (Keep.cons rfl (Keep.cons rfl (Keep.cons rfl (Keep.cons rfl (Keep.cons rfl (Keep.cons rfl (Keep.cons rfl (Keep.cons rfl (Keep.cons rfl (Keep.cons rfl (Keep.cons rfl (Keep.app rfl (Keep.rm rfl Keep.base)))))))))))))))), hh⟩, by omega⟩)
                  | (have hb : set.testBit i = false := by assumption
                     exact ⟨i + 1, ⟨by omega, hf.head ⟨congrArg (fun z => some (Value.bool z)) (by rw [hst, hb]; simp), rfl, True.intro⟩ (Keep.cons rfl (Keep.cons rfl (Keep.cons rfl (Keep.cons rfl (Keep.cons rfl (Keep.cons rfl (Keep.cons rfl (Keep.cons rfl (Keep.cons rfl (Keep.cons rfl (Keep.cons rfl (Keep.cons rfl (Keep.cons rfl (Keep.cons rfl (Keep.app rfl (Keep.rm rfl Keep.base)))))))))))))))), hh⟩, by omega⟩)
            · have hG9 := hg9; try simp only [gS] at hG9
              refine sy_exit ?_
              refine then_e ?_
              refine then_e ?_
              refine blk_e ?_
              refine then_n ?_
              refine sy_seq ?_
              refine sy_ops ?_
              refine ops_v hf hh (yv_move rfl) (.inl rfl) rfl rfl rfl ?_; clear hf; clear a; intro a hf
              refine ops_end ?_
              refine then_n ?_
              refine sy_cond hf rfl (fun hg17 => ?_) (fun hg17 => ?_)
              · have hG17 := hg17; try simp only [gS] at hG17
                refine sy_ops ?_
                refine ops_v hf hh (yv_move rfl) (.inl rfl) rfl rfl rfl ?_; clear hf; clear a; intro a hf
                refine ops_v hf hh (yv_move rfl) (.inl rfl) rfl rfl rfl ?_; clear hf; clear a; intro a hf
                refine ops_buildSl hf hh Tryd.bl_45_1 rfl rfl (.inl rfl) rfl ?_; clear hf hh; clear a; intro B47 a w hf hh
                rename_i Bn _ _
                replace hh := hh.perm (H' := (B47, .cells #[.int .i64 k] 3) :: (X ++ [_])) (List.Perm.cons _ (List.perm_append_comm (l₁ := [_])))
                refine ops_append (e := 3) (size := 1) (xs := (refK b set k).map iv) hf hh Tryd.eb_45 rfl rfl hown rfl rfl rfl (by simp only [maxLen]; omega) (by omega) (.inl rfl) rfl ?_; clear hf hh; clear a; intro v2 X2 a w hown2 hf hh
                replace hh := hh.perm (H' := [_] ++ X2) List.perm_append_comm
                refine ops_v hf hh (yv_assign rfl) (.inl rfl) rfl rfl rfl ?_; clear hf; clear a; intro a hf
                refine ops_end ?_
                refine blk_n ?_
                refine then_n ?_
                refine sy_ops ?_
                refine ops_v hf hh (yv_move rfl) (.inl rfl) rfl rfl rfl ?_; clear hf; clear a; intro a hf
                first | refine ops_v hf hh (yv_add rfl rfl (by omega) (by omega)) (.inl rfl) rfl rfl rfl ?_; clear hf; clear a; intro a hf | refine ops_v hf hh (yv_bin rfl rfl rfl) (.inl rfl) rfl rfl rfl ?_; clear hf; clear a; intro a hf
                refine ops_v hf hh (yv_assign rfl) (.inl rfl) rfl rfl rfl ?_; clear hf; clear a; intro a hf
                refine ops_end ?_
                refine then_n ?_
                have hstep := refK_step b set k
                first
                  | (have h1 : tkTo b set k i = false := by assumption
                     have h2 : tkTo b set k i = true := by assumption
                     rw [h1] at h2; cases h2)
                  | (have hp : isPlan b k = false := by assumption
                     rw [hp, Bool.false_and, if_neg (by simp)] at hstep
                     refine ⟨(k + 1, v), ⟨⟨by simp only; omega, X, ?_, hh⟩, hf.head ⟨rfl, rfl, True.intro⟩ (Keep.cons rfl (Keep.cons rfl (Keep.cons rfl (Keep.cons rfl (Keep.cons rfl (Keep.cons rfl (Keep.cons rfl (Keep.cons rfl (Keep.cons rfl (Keep.cons rfl (Keep.cons rfl (Keep.cons rfl (Keep.cons rfl (Keep.cons rfl (Keep.cons rfl (Keep.cons rfl (Keep.cons rfl (Keep.app rfl (Keep.rm rfl (Keep.cons rfl (Keep.cons rfl (Keep.cons rfl (Keep.cons rfl (Keep.cons rfl (Keep.cons rfl (Keep.cons rfl (Keep.cons rfl (Keep.cons rfl (Keep.cons rfl (Keep.cons rfl (Keep.app rfl (Keep.rm rfl Keep.base))))))))))))))))))))))))))))))))⟩, by simp only; omega⟩
                     simp only; rw [hstep]; exact hown)
                  | (have ht : tkTo b set k i = false := by assumption
                     rw [tkTo_no hset (by omega) ht, Bool.and_false, if_neg (by simp)] at hstep
                     refine ⟨(k + 1, v), ⟨⟨by simp only; omega, X, ?_, hh⟩, hf.head ⟨rfl, rfl, True.intro⟩ (Keep.cons rfl (Keep.cons rfl (Keep.cons rfl (Keep.cons rfl (Keep.cons rfl (Keep.cons rfl (Keep.cons rfl (Keep.cons rfl (Keep.cons rfl (Keep.cons rfl (Keep.cons rfl (Keep.cons rfl (Keep.cons rfl (Keep.cons rfl (Keep.cons rfl (Keep.cons rfl (Keep.cons rfl (Keep.app rfl (Keep.rm rfl (Keep.cons rfl (Keep.cons rfl (Keep.cons rfl (Keep.cons rfl (Keep.cons rfl (Keep.cons rfl (Keep.cons rfl (Keep.cons rfl (Keep.cons rfl (Keep.cons rfl (Keep.cons rfl (Keep.app rfl (Keep.rm rfl Keep.base))))))))))))))))))))))))))))))))⟩, by simp only; omega⟩
                     simp only; rw [hstep]; exact hown)
                  | (have hi : i = b.scenes.length := by omega
                     subst hi
                     have ht : tkTo b set k b.scenes.length = true := by assumption
                     have hp : isPlan b k = true := by assumption
                     rw [tkTo_all hset] at ht
                     rw [hp, ht, if_pos (by rfl)] at hstep
                     refine ⟨(k + 1, v2), ⟨⟨by simp only; omega, X2, ?_, hh⟩, hf.head ⟨rfl, rfl, True.intro⟩ (Keep.cons rfl (Keep.cons rfl (Keep.cons rfl (Keep.cons rfl (Keep.cons rfl (Keep.cons rfl (Keep.cons rfl (Keep.cons rfl (Keep.cons rfl (Keep.cons rfl (Keep.cons rfl (Keep.cons rfl (Keep.cons rfl (Keep.cons rfl (Keep.cons rfl (Keep.cons rfl (Keep.cons rfl (Keep.app rfl (Keep.rm rfl (Keep.cons rfl (Keep.cons rfl (Keep.cons rfl (Keep.cons rfl (Keep.cons rfl (Keep.cons rfl (Keep.cons rfl (Keep.cons rfl (Keep.cons rfl (Keep.cons rfl (Keep.cons rfl (Keep.app rfl (Keep.rm rfl Keep.base))))))))))))))))))))))))))))))))⟩, by simp only; omega⟩
                     simp only; rw [hstep, List.length_append, List.map_append]; exact hown2)
              · have hG17 := hg17; try simp only [gS] at hG17
                refine sy_skip ?_
                refine blk_n ?_
                refine then_n ?_
                refine sy_ops ?_
                refine ops_v hf hh (yv_move rfl) (.inl rfl) rfl rfl rfl ?_; clear hf; clear a; intro a hf
                first | refine ops_v hf hh (yv_add rfl rfl (by omega) (by omega)) (.inl rfl) rfl rfl rfl ?_; clear hf; clear a; intro a hf | refine ops_v hf hh (yv_bin rfl rfl rfl) (.inl rfl) rfl rfl rfl ?_; clear hf; clear a; intro a hf
                refine ops_v hf hh (yv_assign rfl) (.inl rfl) rfl rfl rfl ?_; clear hf; clear a; intro a hf
                refine ops_end ?_
                refine then_n ?_
                have hstep := refK_step b set k
                first
                  | (have h1 : tkTo b set k i = false := by assumption
                     have h2 : tkTo b set k i = true := by assumption
                     rw [h1] at h2; cases h2)
                  | (have hp : isPlan b k = false := by assumption
                     rw [hp, Bool.false_and, if_neg (by simp)] at hstep
                     refine ⟨(k + 1, v), ⟨⟨by simp only; omega, X, ?_, hh⟩, hf.head ⟨rfl, rfl, True.intro⟩ (Keep.cons rfl (Keep.cons rfl (Keep.cons rfl (Keep.cons rfl (Keep.cons rfl (Keep.cons rfl (Keep.cons rfl (Keep.cons rfl (Keep.cons rfl (Keep.cons rfl (Keep.cons rfl (Keep.cons rfl (Keep.app rfl (Keep.rm rfl (Keep.cons rfl (Keep.cons rfl (Keep.cons rfl (Keep.cons rfl (Keep.cons rfl (Keep.cons rfl (Keep.cons rfl (Keep.cons rfl (Keep.cons rfl (Keep.cons rfl (Keep.cons rfl (Keep.app rfl (Keep.rm rfl Keep.base)))))))))))))))))))))))))))⟩, by simp only; omega⟩
                     simp only; rw [hstep]; exact hown)
                  | (have ht : tkTo b set k i = false := by assumption
                     rw [tkTo_no hset (by omega) ht, Bool.and_false, if_neg (by simp)] at hstep
                     refine ⟨(k + 1, v), ⟨⟨by simp only; omega, X, ?_, hh⟩, hf.head ⟨rfl, rfl, True.intro⟩ (Keep.cons rfl (Keep.cons rfl (Keep.cons rfl (Keep.cons rfl (Keep.cons rfl (Keep.cons rfl (Keep.cons rfl (Keep.cons rfl (Keep.cons rfl (Keep.cons rfl (Keep.cons rfl (Keep.cons rfl (Keep.app rfl (Keep.rm rfl (Keep.cons rfl (Keep.cons rfl (Keep.cons rfl (Keep.cons rfl (Keep.cons rfl (Keep.cons rfl (Keep.cons rfl (Keep.cons rfl (Keep.cons rfl (Keep.cons rfl (Keep.cons rfl (Keep.app rfl (Keep.rm rfl Keep.base)))))))))))))))))))))))))))⟩, by simp only; omega⟩
                     simp only; rw [hstep]; exact hown)
                  | (have hi : i = b.scenes.length := by omega
                     subst hi
                     have ht : tkTo b set k b.scenes.length = true := by assumption
                     have hp : isPlan b k = true := by assumption
                     rw [tkTo_all hset] at ht
                     rw [hp, ht, if_pos (by rfl)] at hstep
                     refine ⟨(k + 1, v2), ⟨⟨by simp only; omega, X2, ?_, hh⟩, hf.head ⟨rfl, rfl, True.intro⟩ (Keep.cons rfl (Keep.cons rfl (Keep.cons rfl (Keep.cons rfl (Keep.cons rfl (Keep.cons rfl (Keep.cons rfl (Keep.cons rfl (Keep.cons rfl (Keep.cons rfl (Keep.cons rfl (Keep.cons rfl (Keep.app rfl (Keep.rm rfl (Keep.cons rfl (Keep.cons rfl (Keep.cons rfl (Keep.cons rfl (Keep.cons rfl (Keep.cons rfl (Keep.cons rfl (Keep.cons rfl (Keep.cons rfl (Keep.cons rfl (Keep.cons rfl (Keep.app rfl (Keep.rm rfl Keep.base)))))))))))))))))))))))))))⟩, by simp only; omega⟩
                     simp only; rw [hstep, List.length_append, List.map_append]; exact hown2)
          · have hG7 := hg7; try simp only [gS] at hG7
            refine ops_off hf (goff rfl rfl rfl (by first | assumption | rfl | (simp; done))) rfl rfl ?_; clear hf; clear a; intro a hf
            refine ops_v hf hh (yv_pick_f rfl (by first | assumption | rfl | (simp; done)) rfl) (.inl rfl) rfl rfl rfl ?_; clear hf; clear a; intro a hf
            refine ops_end ?_
            refine then_n ?_
            refine sy_cf hf rfl (by first | assumption | rfl | (simp; done)) ?_
            refine sy_exit ?_
            refine then_e ?_
            refine then_e ?_
            refine blk_e ?_
            refine then_n ?_
            refine sy_seq ?_
            refine sy_ops ?_
            refine ops_v hf hh (yv_move rfl) (.inl rfl) rfl rfl rfl ?_; clear hf; clear a; intro a hf
            refine ops_end ?_
            refine then_n ?_
            refine sy_cond hf rfl (fun hg20 => ?_) (fun hg20 => ?_)
            · have hG20 := hg20; try simp only [gS] at hG20
              refine sy_ops ?_
              refine ops_v hf hh (yv_move rfl) (.inl rfl) rfl rfl rfl ?_; clear hf; clear a; intro a hf
              refine ops_v hf hh (yv_move rfl) (.inl rfl) rfl rfl rfl ?_; clear hf; clear a; intro a hf
              refine ops_buildSl hf hh Tryd.bl_45_1 rfl rfl (.inl rfl) rfl ?_; clear hf hh; clear a; intro B47 a w hf hh
              rename_i Bn _ _
              replace hh := hh.perm (H' := (B47, .cells #[.int .i64 k] 3) :: (X ++ [_])) (List.Perm.cons _ (List.perm_append_comm (l₁ := [_])))
              refine ops_append (e := 3) (size := 1) (xs := (refK b set k).map iv) hf hh Tryd.eb_45 rfl rfl hown rfl rfl rfl (by simp only [maxLen]; omega) (by omega) (.inl rfl) rfl ?_; clear hf hh; clear a; intro v2 X2 a w hown2 hf hh
              replace hh := hh.perm (H' := [_] ++ X2) List.perm_append_comm
              refine ops_v hf hh (yv_assign rfl) (.inl rfl) rfl rfl rfl ?_; clear hf; clear a; intro a hf
              refine ops_end ?_
              refine blk_n ?_
              refine then_n ?_
              refine sy_ops ?_
              refine ops_v hf hh (yv_move rfl) (.inl rfl) rfl rfl rfl ?_; clear hf; clear a; intro a hf
              first | refine ops_v hf hh (yv_add rfl rfl (by omega) (by omega)) (.inl rfl) rfl rfl rfl ?_; clear hf; clear a; intro a hf | refine ops_v hf hh (yv_bin rfl rfl rfl) (.inl rfl) rfl rfl rfl ?_; clear hf; clear a; intro a hf
              refine ops_v hf hh (yv_assign rfl) (.inl rfl) rfl rfl rfl ?_; clear hf; clear a; intro a hf
              refine ops_end ?_
              refine then_n ?_
              have hstep := refK_step b set k
              first
                | (have h1 : tkTo b set k i = false := by assumption
                   have h2 : tkTo b set k i = true := by assumption
                   rw [h1] at h2; cases h2)
                | (have hp : isPlan b k = false := by assumption
                   rw [hp, Bool.false_and, if_neg (by simp)] at hstep
                   refine ⟨(k + 1, v), ⟨⟨by simp only; omega, X, ?_, hh⟩, hf.head ⟨rfl, rfl, True.intro⟩ (Keep.cons rfl (Keep.cons rfl (Keep.cons rfl (Keep.cons rfl (Keep.cons rfl (Keep.cons rfl (Keep.cons rfl (Keep.cons rfl (Keep.cons rfl (Keep.cons rfl (Keep.cons rfl (Keep.cons rfl (Keep.cons rfl (Keep.cons rfl (Keep.cons rfl (Keep.cons rfl (Keep.cons rfl (Keep.app rfl (Keep.rm rfl (Keep.cons rfl (Keep.cons rfl (Keep.cons rfl (Keep.cons rfl (Keep.cons rfl (Keep.cons rfl (Keep.cons rfl (Keep.cons rfl (Keep.cons rfl (Keep.cons rfl (Keep.cons rfl (Keep.app rfl (Keep.rm rfl Keep.base))))))))))))))))))))))))))))))))⟩, by simp only; omega⟩
                   simp only; rw [hstep]; exact hown)
                | (have ht : tkTo b set k i = false := by assumption
                   rw [tkTo_no hset (by omega) ht, Bool.and_false, if_neg (by simp)] at hstep
                   refine ⟨(k + 1, v), ⟨⟨by simp only; omega, X, ?_, hh⟩, hf.head ⟨rfl, rfl, True.intro⟩ (Keep.cons rfl (Keep.cons rfl (Keep.cons rfl (Keep.cons rfl (Keep.cons rfl (Keep.cons rfl (Keep.cons rfl (Keep.cons rfl (Keep.cons rfl (Keep.cons rfl (Keep.cons rfl (Keep.cons rfl (Keep.cons rfl (Keep.cons rfl (Keep.cons rfl (Keep.cons rfl (Keep.cons rfl (Keep.app rfl (Keep.rm rfl (Keep.cons rfl (Keep.cons rfl (Keep.cons rfl (Keep.cons rfl (Keep.cons rfl (Keep.cons rfl (Keep.cons rfl (Keep.cons rfl (Keep.cons rfl (Keep.cons rfl (Keep.cons rfl (Keep.app rfl (Keep.rm rfl Keep.base))))))))))))))))))))))))))))))))⟩, by simp only; omega⟩
                   simp only; rw [hstep]; exact hown)
                | (have hi : i = b.scenes.length := by omega
                   subst hi
                   have ht : tkTo b set k b.scenes.length = true := by assumption
                   have hp : isPlan b k = true := by assumption
                   rw [tkTo_all hset] at ht
                   rw [hp, ht, if_pos (by rfl)] at hstep
                   refine ⟨(k + 1, v2), ⟨⟨by simp only; omega, X2, ?_, hh⟩, hf.head ⟨rfl, rfl, True.intro⟩ (Keep.cons rfl (Keep.cons rfl (Keep.cons rfl (Keep.cons rfl (Keep.cons rfl (Keep.cons rfl (Keep.cons rfl (Keep.cons rfl (Keep.cons rfl (Keep.cons rfl (Keep.cons rfl (Keep.cons rfl (Keep.cons rfl (Keep.cons rfl (Keep.cons rfl (Keep.cons rfl (Keep.cons rfl (Keep.app rfl (Keep.rm rfl (Keep.cons rfl (Keep.cons rfl (Keep.cons rfl (Keep.cons rfl (Keep.cons rfl (Keep.cons rfl (Keep.cons rfl (Keep.cons rfl (Keep.cons rfl (Keep.cons rfl (Keep.cons rfl (Keep.app rfl (Keep.rm rfl Keep.base))))))))))))))))))))))))))))))))⟩, by simp only; omega⟩
                   simp only; rw [hstep, List.length_append, List.map_append]; exact hown2)
            · have hG20 := hg20; try simp only [gS] at hG20
              refine sy_skip ?_
              refine blk_n ?_
              refine then_n ?_
              refine sy_ops ?_
              refine ops_v hf hh (yv_move rfl) (.inl rfl) rfl rfl rfl ?_; clear hf; clear a; intro a hf
              first | refine ops_v hf hh (yv_add rfl rfl (by omega) (by omega)) (.inl rfl) rfl rfl rfl ?_; clear hf; clear a; intro a hf | refine ops_v hf hh (yv_bin rfl rfl rfl) (.inl rfl) rfl rfl rfl ?_; clear hf; clear a; intro a hf
              refine ops_v hf hh (yv_assign rfl) (.inl rfl) rfl rfl rfl ?_; clear hf; clear a; intro a hf
              refine ops_end ?_
              refine then_n ?_
              have hstep := refK_step b set k
              first
                | (have h1 : tkTo b set k i = false := by assumption
                   have h2 : tkTo b set k i = true := by assumption
                   rw [h1] at h2; cases h2)
                | (have hp : isPlan b k = false := by assumption
                   rw [hp, Bool.false_and, if_neg (by simp)] at hstep
                   refine ⟨(k + 1, v), ⟨⟨by simp only; omega, X, ?_, hh⟩, hf.head ⟨rfl, rfl, True.intro⟩ (Keep.cons rfl (Keep.cons rfl (Keep.cons rfl (Keep.cons rfl (Keep.cons rfl (Keep.cons rfl (Keep.cons rfl (Keep.cons rfl (Keep.cons rfl (Keep.cons rfl (Keep.cons rfl (Keep.cons rfl (Keep.app rfl (Keep.rm rfl (Keep.cons rfl (Keep.cons rfl (Keep.cons rfl (Keep.cons rfl (Keep.cons rfl (Keep.cons rfl (Keep.cons rfl (Keep.cons rfl (Keep.cons rfl (Keep.cons rfl (Keep.cons rfl (Keep.app rfl (Keep.rm rfl Keep.base)))))))))))))))))))))))))))⟩, by simp only; omega⟩
                   simp only; rw [hstep]; exact hown)
                | (have ht : tkTo b set k i = false := by assumption
                   rw [tkTo_no hset (by omega) ht, Bool.and_false, if_neg (by simp)] at hstep
                   refine ⟨(k + 1, v), ⟨⟨by simp only; omega, X, ?_, hh⟩, hf.head ⟨rfl, rfl, True.intro⟩ (Keep.cons rfl (Keep.cons rfl (Keep.cons rfl (Keep.cons rfl (Keep.cons rfl (Keep.cons rfl (Keep.cons rfl (Keep.cons rfl (Keep.cons rfl (Keep.cons rfl (Keep.cons rfl (Keep.cons rfl (Keep.app rfl (Keep.rm rfl (Keep.cons rfl (Keep.cons rfl (Keep.cons rfl (Keep.cons rfl (Keep.cons rfl (Keep.cons rfl (Keep.cons rfl (Keep.cons rfl (Keep.cons rfl (Keep.cons rfl (Keep.cons rfl (Keep.app rfl (Keep.rm rfl Keep.base)))))))))))))))))))))))))))⟩, by simp only; omega⟩
                   simp only; rw [hstep]; exact hown)
                | (have hi : i = b.scenes.length := by omega
                   subst hi
                   have ht : tkTo b set k b.scenes.length = true := by assumption
                   have hp : isPlan b k = true := by assumption
                   rw [tkTo_all hset] at ht
                   rw [hp, ht, if_pos (by rfl)] at hstep
                   refine ⟨(k + 1, v2), ⟨⟨by simp only; omega, X2, ?_, hh⟩, hf.head ⟨rfl, rfl, True.intro⟩ (Keep.cons rfl (Keep.cons rfl (Keep.cons rfl (Keep.cons rfl (Keep.cons rfl (Keep.cons rfl (Keep.cons rfl (Keep.cons rfl (Keep.cons rfl (Keep.cons rfl (Keep.cons rfl (Keep.cons rfl (Keep.app rfl (Keep.rm rfl (Keep.cons rfl (Keep.cons rfl (Keep.cons rfl (Keep.cons rfl (Keep.cons rfl (Keep.cons rfl (Keep.cons rfl (Keep.cons rfl (Keep.cons rfl (Keep.cons rfl (Keep.cons rfl (Keep.app rfl (Keep.rm rfl Keep.base)))))))))))))))))))))))))))⟩, by simp only; omega⟩
                   simp only; rw [hstep, List.length_append, List.map_append]; exact hown2)
    · have hG3 := hg3; try simp only [gS] at hG3
      refine sy_exit ?_
      refine then_e ?_
      refine then_e ?_
      refine blk_e ?_
      refine then_n ?_
      refine sy_seq ?_
      refine sy_ops ?_
      refine ops_v hf hh (yv_move rfl) (.inl rfl) rfl rfl rfl ?_; clear hf; clear a; intro a hf
      refine ops_v hf hh (yv_assign rfl) (.inl rfl) rfl rfl rfl ?_; clear hf; clear a; intro a hf
      refine ops_end ?_
      refine then_n ?_
      refine sy_ret ?_
      refine ret_r hf rfl rfl ?_
      have hkk : k = 2 ^ b.slots.toNat := by omega
      subst hkk
      exact ⟨X, hown, hh.less (.cons _ (.refl _))⟩
end Go.Proofs.YtkolcbjghphjeaaDoor
