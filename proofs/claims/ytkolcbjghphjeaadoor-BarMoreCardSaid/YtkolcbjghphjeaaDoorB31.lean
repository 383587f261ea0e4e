/- BarMore, walked. -/
import Derived.Test.YtkolcbjghphjeaaDoorB26
import Derived.Test.YtkolcbjghphjeaaDoorN8
import Derived.Test.YtkolcbjghphjeaaDoorE11
namespace Go.Proofs.YtkolcbjghphjeaaDoor
open Go Go.Sy Go.BarM
theorem scAt_cells {w : World} {A : Addr} {L : List Scn} (h : ScAt w (some A) L) : ∀ j v, (encS L)[j]? = some v → w.cell? (A.add j) = some v := fun j v hj => by
  have hl := (List.getElem?_eq_some_iff.1 hj).1
  rw [encS_len] at hl
  obtain ⟨s, hs⟩ := scn_of (l := L) (i := j / 3) (by omega)
  obtain ⟨blk, off, c, T, fr, e, hb, hc⟩ := h _ s hs
  cases e
  obtain ⟨_, h2⟩ := cellsAt_get _ _ _ hc
  have e1 := encS_get L (j / 3) (j % 3) s hs (Nat.mod_lt _ (by omega))
  rw [show j / 3 * 3 + j % 3 = j by omega, hj] at e1
  have e2 := h2 (j % 3) v e1.symm
  rw [show off + j / 3 * 3 + j % 3 = off + j by omega] at e2
  rw [add_spot]
  simp [World.cell?, hb, e2]
theorem own_cells {oa : Option Addr} {cap : Nat} {L : List Scn} {X : List (Nat × Obj)} (h : OwnSl 39 3 (.slice oa L.length cap) L.length (encS L) X) (h0 : 0 < L.length) : ∃ B cur, oa = some ⟨B, 0, none⟩ ∧ X = [(B, .cells cur 39 (0, 0))] ∧ ScC cur L := by
  rcases h.2 with ⟨_, h1, _⟩ | ⟨B, cp, cur, e, e2, h3, h4, h5, h6⟩
  · omega
  · cases e
    refine ⟨B, cur, rfl, e2, by omega, fun i s hi => ?_⟩
    have hil := len_of hi
    have g : ∀ j, j < 3 → cur[i * 3 + j]? = [Value.int .i64 s.least, .int .i64 s.most, .int .i64 s.calm][j]? := fun j hj => by
      rw [← encS_get L i j s hi hj, ← h6, List.getElem?_take_of_lt (by omega), Array.getElem?_toList]
    exact ⟨g 0 (by omega), g 1 (by omega), g 2 (by omega)⟩
theorem few_less {b x : BarD} (hV : Valid b) (h : Less b x) : (fewE x = 0 → fewE b = 0 ∧ pc (fewP b).toNat ≤ pc (fewP x).toNat) ∧ 0 ≤ fewP b ∧ fewP b ≤ 65536 ∧ 0 ≤ fewP x ∧ fewP x ≤ 65536 := by
  have bd : ∀ z : BarD, Valid z → 0 ≤ fewP z ∧ fewP z ≤ 65536 := fun z hz => by
    have hs1 := hz.s1; have hs2 := hz.s2
    have hpw := shl_bd hs1 hs2
    unfold fewP
    rw [(okBar_iff z).2 hz]
    cases hf : firstP z (allS z) with
    | none => simp
    | some p => have := isPlan_bd (firstP_some hz hf).plan; simp; omega
  refine ⟨fun e => ?_, (bd b hV).1, (bd b hV).2, (bd x h.valid).1, (bd x h.valid).2⟩
  unfold fewE at e
  rw [(okBar_iff x).2 h.valid] at e
  cases hr : firstP x (allS x) with
  | none => rw [hr] at e; simp at e
  | some r =>
    obtain ⟨p, hp, hle⟩ := less_few hV h hr
    simp [fewE, fewP, (okBar_iff b).2 hV, (okBar_iff x).2 h.valid, hp, hr, hle]
set_option maxRecDepth 100000 in
set_option maxHeartbeats 4000000 in
theorem c10a (b : BarD) (sa : Option Addr) (sc : Nat) (u : World) (hS : ScAt u sa b.scenes) (hT : GTab u) (y y2 : Nat) (hy : y ≤ 65535) (hy2 : y2 ≤ 65535) (hok : okBar b = false) : Calls Tryd.prog 10 #[barV b sa sc, .int .u16 (y : Nat), .int .u16 (y2 : Nat)] u (Ret fun v w' => v = .bool true ∧ Ext [] u w') := by
  refine calls_of Tryd.func10 rfl rfl (fun a hf => ?_)
  have hh := Hp.init u []
  refine sy_seq ?_
  refine sy_ops ?_
  refine ops_box hf hh rfl (.inl rfl) rfl ?_; clear hf hh; clear a; intro B3 a w hf hh
  refine ops_v hf hh (yv_assign rfl) (.inl rfl) rfl rfl rfl ?_; clear hf; clear a; intro a hf
  refine ops_end ?_
  refine then_n ?_
  refine sy_seq ?_
  refine sy_seq ?_
  refine sy_ops ?_
  refine ops_v hf hh (yv_fieldAddr Tryd.fo_24_4 rfl) (.inl rfl) rfl rfl rfl ?_; clear hf; clear a; intro a hf
  refine ops_v hf hh (yv_load Tryd.sc_22 rfl (fun _ h => by first | exact h.at (i := 0) rfl) (by first | rfl | assumption)) (.inl rfl) rfl rfl rfl ?_; clear hf; clear a; intro a hf
  refine ops_v hf hh (yv_len Tryd.se_22 rfl) (.inl rfl) rfl rfl rfl ?_; clear hf; clear a; intro a hf
  refine ops_v hf hh (yv_bin rfl rfl rfl) (.inl rfl) rfl rfl rfl ?_; clear hf; clear a; intro a hf
  refine ops_v hf hh (yv_move rfl) (.inl rfl) rfl rfl rfl ?_; clear hf; clear a; intro a hf
  refine guard_split hf (t := 33) rfl (fun hg2 => ?_) (fun hg2 => ?_)
  · have hG2 := hg2; try simp only [gS] at hG2
    refine ops_off hf (goff rfl rfl rfl (by first | assumption | rfl | (simp; done) | (simp; omega))) rfl rfl ?_; clear hf; clear a; intro a hf
    refine ops_off hf (goff rfl rfl rfl (by first | assumption | rfl | (simp; done) | (simp; omega))) rfl rfl ?_; clear hf; clear a; intro a hf
    refine ops_off hf (goff rfl rfl rfl (by first | assumption | rfl | (simp; done) | (simp; omega))) rfl rfl ?_; clear hf; clear a; intro a hf
    refine ops_v hf hh (yv_pick_t rfl (by first | assumption | rfl | (simp; done) | (simp; omega)) rfl) (.inl rfl) rfl rfl rfl ?_; clear hf; clear a; intro a hf
    refine ops_v hf hh (yv_move rfl) (.inl rfl) rfl rfl rfl ?_; clear hf; clear a; intro a hf
    refine ops_off hf (goff rfl rfl rfl (by first | assumption | rfl | (simp; done) | (simp; omega))) rfl rfl ?_; clear hf; clear a; intro a hf
    refine ops_off hf (goff rfl rfl rfl (by first | assumption | rfl | (simp; done) | (simp; omega))) rfl rfl ?_; clear hf; clear a; intro a hf
    refine ops_off hf (goff rfl rfl rfl (by first | assumption | rfl | (simp; done) | (simp; omega))) rfl rfl ?_; clear hf; clear a; intro a hf
    refine ops_v hf hh (yv_pick_t rfl (by first | assumption | rfl | (simp; done) | (simp; omega)) rfl) (.inl rfl) rfl rfl rfl ?_; clear hf; clear a; intro a hf
    refine ops_v hf hh (yv_move rfl) (.inl rfl) rfl rfl rfl ?_; clear hf; clear a; intro a hf
    refine ops_off hf (goff rfl rfl rfl (by first | assumption | rfl | (simp; done) | (simp; omega))) rfl rfl ?_; clear hf; clear a; intro a hf
    refine ops_off hf (goff rfl rfl rfl (by first | assumption | rfl | (simp; done) | (simp; omega))) rfl rfl ?_; clear hf; clear a; intro a hf
    refine ops_off hf (goff rfl rfl rfl (by first | assumption | rfl | (simp; done) | (simp; omega))) rfl rfl ?_; clear hf; clear a; intro a hf
    refine ops_off hf (goff rfl rfl rfl (by first | assumption | rfl | (simp; done) | (simp; omega))) rfl rfl ?_; clear hf; clear a; intro a hf
    refine ops_v hf hh (yv_pick_t rfl (by first | assumption | rfl | (simp; done) | (simp; omega)) rfl) (.inl rfl) rfl rfl rfl ?_; clear hf; clear a; intro a hf
    refine ops_end ?_
    refine then_n ?_
    refine sy_ct hf rfl (by first | assumption | rfl | (simp; done) | (simp; omega)) ?_
    refine sy_seq ?_
    refine sy_ops ?_
    refine ops_call hf Tryd.en_12 rfl rfl rfl (.inl rfl) rfl (c12 _ (hT.ext hh.ext (by simp))) ?_; clear hf; clear a; intro v a w hR hf
    obtain ⟨rfl, hx⟩ := hR; replace hh := hh.more hx; clear hx
    refine ops_v hf hh (yv_assign rfl) (.inl rfl) rfl rfl rfl ?_; clear hf; clear a; intro a hf
    refine ops_end ?_
    refine then_n ?_
    refine sy_ret ?_
    refine then_r ?_
    refine ret_r hf rfl rfl ?_
    first | exact ⟨rfl, hh.ext⟩ | (exfalso; omega)
  · have hG2 := hg2; try simp only [gS] at hG2
    refine ops_v hf hh (yv_loads Tryd.ag_24 rfl (fun _ h => by first | exact h.at (i := 0) rfl) (by first | assumption | rfl)) (gon rfl rfl rfl (by first | assumption | rfl | (simp; done) | (simp; omega))) rfl rfl rfl ?_; clear hf; clear a; intro a hf
    refine ops_call hf Tryd.en_28 rfl rfl rfl (gon rfl rfl rfl (by first | assumption | rfl | (simp; done) | (simp; omega))) rfl (hok ▸ c28 b sa sc _ (hS.ext hh.ext)) ?_; clear hf; clear a; intro v a w hR hf
    obtain ⟨rfl, hx⟩ := hR; replace hh := hh.more hx; clear hx
    refine ops_v hf hh (yv_not rfl) (gon rfl rfl rfl (by first | assumption | rfl | (simp; done) | (simp; omega))) rfl rfl rfl ?_; clear hf; clear a; intro a hf
    refine ops_v hf hh (yv_pick_f rfl (by first | assumption | rfl | (simp; done) | (simp; omega)) rfl) (.inl rfl) rfl rfl rfl ?_; clear hf; clear a; intro a hf
    refine ops_v hf hh (yv_move rfl) (.inl rfl) rfl rfl rfl ?_; clear hf; clear a; intro a hf
    refine ops_off hf (goff rfl rfl rfl (by first | assumption | rfl | (simp; done) | (simp; omega))) rfl rfl ?_; clear hf; clear a; intro a hf
    refine ops_off hf (goff rfl rfl rfl (by first | assumption | rfl | (simp; done) | (simp; omega))) rfl rfl ?_; clear hf; clear a; intro a hf
    refine ops_off hf (goff rfl rfl rfl (by first | assumption | rfl | (simp; done) | (simp; omega))) rfl rfl ?_; clear hf; clear a; intro a hf
    refine ops_v hf hh (yv_pick_t rfl (by first | assumption | rfl | (simp; done) | (simp; omega)) rfl) (.inl rfl) rfl rfl rfl ?_; clear hf; clear a; intro a hf
    refine ops_v hf hh (yv_move rfl) (.inl rfl) rfl rfl rfl ?_; clear hf; clear a; intro a hf
    refine ops_off hf (goff rfl rfl rfl (by first | assumption | rfl | (simp; done) | (simp; omega))) rfl rfl ?_; clear hf; clear a; intro a hf
    refine ops_off hf (goff rfl rfl rfl (by first | assumption | rfl | (simp; done) | (simp; omega))) rfl rfl ?_; clear hf; clear a; intro a hf
    refine ops_off hf (goff rfl rfl rfl (by first | assumption | rfl | (simp; done) | (simp; omega))) rfl rfl ?_; clear hf; clear a; intro a hf
    refine ops_off hf (goff rfl rfl rfl (by first | assumption | rfl | (simp; done) | (simp; omega))) rfl rfl ?_; clear hf; clear a; intro a hf
    refine ops_v hf hh (yv_pick_t rfl (by first | assumption | rfl | (simp; done) | (simp; omega)) rfl) (.inl rfl) rfl rfl rfl ?_; clear hf; clear a; intro a hf
    refine ops_end ?_
    refine then_n ?_
    refine sy_ct hf rfl (by first | assumption | rfl | (simp; done) | (simp; omega)) ?_
    refine sy_seq ?_
    refine sy_ops ?_
    refine ops_call hf Tryd.en_12 rfl rfl rfl (.inl rfl) rfl (c12 _ (hT.ext hh.ext (by simp))) ?_; clear hf; clear a; intro v a w hR hf
    obtain ⟨rfl, hx⟩ := hR; replace hh := hh.more hx; clear hx
    refine ops_v hf hh (yv_assign rfl) (.inl rfl) rfl rfl rfl ?_; clear hf; clear a; intro a hf
    refine ops_end ?_
    refine then_n ?_
    refine sy_ret ?_
    refine then_r ?_
    refine ret_r hf rfl rfl ?_
    first | exact ⟨rfl, hh.ext⟩ | (exfalso; omega)
set_option maxRecDepth 100000 in
set_option maxHeartbeats 4000000 in
theorem c10b (b : BarD) (sa : Option Addr) (sc : Nat) (u : World) (hS : ScAt u sa b.scenes) (hT : GTab u) (y y2 : Nat) (hy : y ≤ 65535) (hy2 : y2 ≤ 65535) (hok : okBar b = true) : Calls Tryd.prog 10 #[barV b sa sc, .int .u16 (y : Nat), .int .u16 (y2 : Nat)] u (Ret fun v w' => v = .bool true ∧ Ext [] u w') := by
  refine calls_of Tryd.func10 rfl rfl (fun a hf => ?_)
  have hh := Hp.init u []
  have hV := (okBar_iff b).1 hok
  have hn := hV.n
  have hm1 : 1 ≤ 2 ^ b.scenes.length := Nat.one_le_two_pow
  have hm2 : 2 ^ b.scenes.length ≤ 2 ^ 10 := Nat.pow_le_pow_right (by omega) hn
  have hs1 := hV.s1; have hs2 := hV.s2
  have hpw := shl_bd hs1 hs2
  have hm0 := hV.m1; have hm16 := hV.m2
  have hk1 := hV.k1; have hk2 := hV.k2
  have hpw2 := cast_pow b.slots.toNat
  refine sy_seq ?_
  refine sy_ops ?_
  refine ops_box hf hh rfl (.inl rfl) rfl ?_; clear hf hh; clear a; intro B3 a w hf hh
  refine ops_v hf hh (yv_assign rfl) (.inl rfl) rfl rfl rfl ?_; clear hf; clear a; intro a hf
  refine ops_end ?_
  refine then_n ?_
  refine sy_seq ?_
  refine sy_seq ?_
  refine sy_ops ?_
  refine ops_v hf hh (yv_fieldAddr Tryd.fo_24_4 rfl) (.inl rfl) rfl rfl rfl ?_; clear hf; clear a; intro a hf
  refine ops_v hf hh (yv_load Tryd.sc_22 rfl (fun _ h => by first | exact h.at (i := 0) rfl | exact h.at (i := 1) rfl | exact h.at (i := 2) rfl) (by first | rfl | assumption)) (.inl rfl) rfl rfl rfl ?_; clear hf; clear a; intro a hf
  refine ops_v hf hh (yv_len Tryd.se_22 rfl) (.inl rfl) rfl rfl rfl ?_; clear hf; clear a; intro a hf
  refine ops_v hf hh (yv_bin rfl rfl rfl) (.inl rfl) rfl rfl rfl ?_; clear hf; clear a; intro a hf
  refine ops_v hf hh (yv_move rfl) (.inl rfl) rfl rfl rfl ?_; clear hf; clear a; intro a hf
  refine guard_split hf (t := 33) rfl (fun hg2 => ?_) (fun hg2 => ?_)
  · have hG2 := hg2; try simp only [gS] at hG2
    refine ops_off hf (goff rfl rfl rfl (by first | assumption | rfl | (simp; done) | (simp; omega))) rfl rfl ?_; clear hf; clear a; intro a hf
    refine ops_off hf (goff rfl rfl rfl (by first | assumption | rfl | (simp; done) | (simp; omega))) rfl rfl ?_; clear hf; clear a; intro a hf
    refine ops_off hf (goff rfl rfl rfl (by first | assumption | rfl | (simp; done) | (simp; omega))) rfl rfl ?_; clear hf; clear a; intro a hf
    refine ops_v hf hh (yv_pick_t rfl (by first | assumption | rfl | (simp; done) | (simp; omega)) rfl) (.inl rfl) rfl rfl rfl ?_; clear hf; clear a; intro a hf
    refine ops_v hf hh (yv_move rfl) (.inl rfl) rfl rfl rfl ?_; clear hf; clear a; intro a hf
    refine ops_off hf (goff rfl rfl rfl (by first | assumption | rfl | (simp; done) | (simp; omega))) rfl rfl ?_; clear hf; clear a; intro a hf
    refine ops_off hf (goff rfl rfl rfl (by first | assumption | rfl | (simp; done) | (simp; omega))) rfl rfl ?_; clear hf; clear a; intro a hf
    refine ops_off hf (goff rfl rfl rfl (by first | assumption | rfl | (simp; done) | (simp; omega))) rfl rfl ?_; clear hf; clear a; intro a hf
    refine ops_v hf hh (yv_pick_t rfl (by first | assumption | rfl | (simp; done) | (simp; omega)) rfl) (.inl rfl) rfl rfl rfl ?_; clear hf; clear a; intro a hf
    refine ops_v hf hh (yv_move rfl) (.inl rfl) rfl rfl rfl ?_; clear hf; clear a; intro a hf
    refine ops_off hf (goff rfl rfl rfl (by first | assumption | rfl | (simp; done) | (simp; omega))) rfl rfl ?_; clear hf; clear a; intro a hf
    refine ops_off hf (goff rfl rfl rfl (by first | assumption | rfl | (simp; done) | (simp; omega))) rfl rfl ?_; clear hf; clear a; intro a hf
    refine ops_off hf (goff rfl rfl rfl (by first | assumption | rfl | (simp; done) | (simp; omega))) rfl rfl ?_; clear hf; clear a; intro a hf
    refine ops_off hf (goff rfl rfl rfl (by first | assumption | rfl | (simp; done) | (simp; omega))) rfl rfl ?_; clear hf; clear a; intro a hf
    refine ops_v hf hh (yv_pick_t rfl (by first | assumption | rfl | (simp; done) | (simp; omega)) rfl) (.inl rfl) rfl rfl rfl ?_; clear hf; clear a; intro a hf
    refine ops_end ?_
    refine then_n ?_
    refine sy_ct hf rfl (by first | assumption | rfl | (simp; done) | (simp; omega)) ?_
    refine sy_seq ?_
    refine sy_ops ?_
    refine ops_call hf Tryd.en_12 rfl rfl rfl (.inl rfl) rfl (c12 _ (hT.ext hh.ext (by simp))) ?_; clear hf; clear a; intro v a w hR hf
    obtain ⟨rfl, hx⟩ := hR; replace hh := hh.more hx; clear hx
    refine ops_v hf hh (yv_assign rfl) (.inl rfl) rfl rfl rfl ?_; clear hf; clear a; intro a hf
    refine ops_end ?_
    refine then_n ?_
    refine sy_ret ?_
    refine then_r ?_
    refine ret_r hf rfl rfl ?_
    first | exact ⟨rfl, hh.ext⟩ | (exfalso; omega)
  · have hG2 := hg2; try simp only [gS] at hG2
    refine ops_v hf hh (yv_loads Tryd.ag_24 rfl (fun _ h => by first | exact h.at (i := 0) rfl | exact h.at (i := 1) rfl | exact h.at (i := 2) rfl) (by first | assumption | rfl)) (gon rfl rfl rfl (by first | assumption | rfl | (simp; done) | (simp; omega))) rfl rfl rfl ?_; clear hf; clear a; intro a hf
    refine ops_call hf Tryd.en_28 rfl rfl rfl (gon rfl rfl rfl (by first | assumption | rfl | (simp; done) | (simp; omega))) rfl (hok ▸ c28 b _ sc _ (hS.ext hh.ext)) ?_; clear hf; clear a; intro v a w hR hf
    obtain ⟨rfl, hx⟩ := hR; replace hh := hh.more hx; clear hx
    refine ops_v hf hh (yv_not rfl) (gon rfl rfl rfl (by first | assumption | rfl | (simp; done) | (simp; omega))) rfl rfl rfl ?_; clear hf; clear a; intro a hf
    refine ops_v hf hh (yv_pick_f rfl (by first | assumption | rfl | (simp; done) | (simp; omega)) rfl) (.inl rfl) rfl rfl rfl ?_; clear hf; clear a; intro a hf
    refine ops_v hf hh (yv_move rfl) (.inl rfl) rfl rfl rfl ?_; clear hf; clear a; intro a hf
    refine ops_v hf hh (yv_fieldAddr Tryd.fo_24_0 rfl) (gon rfl rfl rfl (by first | assumption | rfl | (simp; done) | (simp; omega))) rfl rfl rfl ?_; clear hf; clear a; intro a hf
    refine ops_v hf hh (yv_load Tryd.sc_3 rfl (fun _ h => by first | exact h.at (i := 0) rfl | exact h.at (i := 1) rfl | exact h.at (i := 2) rfl) (by first | rfl | assumption)) (gon rfl rfl rfl (by first | assumption | rfl | (simp; done) | (simp; omega))) rfl rfl rfl ?_; clear hf; clear a; intro a hf
    refine ops_v hf hh (yv_bin rfl rfl rfl) (gon rfl rfl rfl (by first | assumption | rfl | (simp; done) | (simp; omega))) rfl rfl rfl ?_; clear hf; clear a; intro a hf
    refine ops_v hf hh (yv_pick_f rfl (by first | assumption | rfl | (simp; done) | (simp; omega)) rfl) (.inl rfl) rfl rfl rfl ?_; clear hf; clear a; intro a hf
    refine ops_v hf hh (yv_move rfl) (.inl rfl) rfl rfl rfl ?_; clear hf; clear a; intro a hf
    refine guard_split hf (t := 43) rfl (fun hg6 => ?_) (fun hg6 => ?_)
    · have hG6 := hg6; try simp only [gS] at hG6
      refine ops_off hf (goff rfl rfl rfl (by first | assumption | rfl | (simp; done) | (simp; omega))) rfl rfl ?_; clear hf; clear a; intro a hf
      refine ops_off hf (goff rfl rfl rfl (by first | assumption | rfl | (simp; done) | (simp; omega))) rfl rfl ?_; clear hf; clear a; intro a hf
      refine ops_off hf (goff rfl rfl rfl (by first | assumption | rfl | (simp; done) | (simp; omega))) rfl rfl ?_; clear hf; clear a; intro a hf
      refine ops_off hf (goff rfl rfl rfl (by first | assumption | rfl | (simp; done) | (simp; omega))) rfl rfl ?_; clear hf; clear a; intro a hf
      refine ops_v hf hh (yv_pick_t rfl (by first | assumption | rfl | (simp; done) | (simp; omega)) rfl) (.inl rfl) rfl rfl rfl ?_; clear hf; clear a; intro a hf
      refine ops_end ?_
      refine then_n ?_
      refine sy_ct hf rfl (by first | assumption | rfl | (simp; done) | (simp; omega)) ?_
      refine sy_seq ?_
      refine sy_ops ?_
      refine ops_call hf Tryd.en_12 rfl rfl rfl (.inl rfl) rfl (c12 _ (hT.ext hh.ext (by simp))) ?_; clear hf; clear a; intro v a w hR hf
      obtain ⟨rfl, hx⟩ := hR; replace hh := hh.more hx; clear hx
      refine ops_v hf hh (yv_assign rfl) (.inl rfl) rfl rfl rfl ?_; clear hf; clear a; intro a hf
      refine ops_end ?_
      refine then_n ?_
      refine sy_ret ?_
      refine then_r ?_
      refine ret_r hf rfl rfl ?_
      first | exact ⟨rfl, hh.ext⟩ | (exfalso; omega)
    · have hG6 := hg6; try simp only [gS] at hG6
      refine ops_v hf hh (yv_fieldAddr Tryd.fo_24_4 rfl) (gon rfl rfl rfl (by first | assumption | rfl | (simp; done) | (simp; omega))) rfl rfl rfl ?_; clear hf; clear a; intro a hf
      refine ops_v hf hh (yv_load Tryd.sc_22 rfl (fun _ h => by first | exact h.at (i := 0) rfl | exact h.at (i := 1) rfl | exact h.at (i := 2) rfl) (by first | rfl | assumption)) (gon rfl rfl rfl (by first | assumption | rfl | (simp; done) | (simp; omega))) rfl rfl rfl ?_; clear hf; clear a; intro a hf
      refine ops_v hf hh (yv_len Tryd.se_22 rfl) (gon rfl rfl rfl (by first | assumption | rfl | (simp; done) | (simp; omega))) rfl rfl rfl ?_; clear hf; clear a; intro a hf
      refine ops_v hf hh (yv_bin rfl rfl rfl) (gon rfl rfl rfl (by first | assumption | rfl | (simp; done) | (simp; omega))) rfl rfl rfl ?_; clear hf; clear a; intro a hf
      refine ops_v hf hh (yv_pick_f rfl (by first | assumption | rfl | (simp; done) | (simp; omega)) rfl) (.inl rfl) rfl rfl rfl ?_; clear hf; clear a; intro a hf
      refine ops_end ?_
      refine then_n ?_
      refine sy_cond hf rfl (fun hg9 => ?_) (fun hg9 => ?_)
      · have hG9 := hg9; try simp only [gS] at hG9
        refine sy_seq ?_
        refine sy_ops ?_
        refine ops_call hf Tryd.en_12 rfl rfl rfl (.inl rfl) rfl (c12 _ (hT.ext hh.ext (by simp))) ?_; clear hf; clear a; intro v a w hR hf
        obtain ⟨rfl, hx⟩ := hR; replace hh := hh.more hx; clear hx
        refine ops_v hf hh (yv_assign rfl) (.inl rfl) rfl rfl rfl ?_; clear hf; clear a; intro a hf
        refine ops_end ?_
        refine then_n ?_
        refine sy_ret ?_
        refine then_r ?_
        refine ret_r hf rfl rfl ?_
        first | exact ⟨rfl, hh.ext⟩ | (exfalso; omega)
      · have hG9 := hg9; try simp only [gS] at hG9
        refine sy_skip ?_
        refine then_n ?_
        refine sy_seq ?_
        obtain ⟨s0, hs0⟩ := scn_of (l := b.scenes) (i := 0) (by omega)
        obtain ⟨blk, off, c0, T0, fr0, e0, hbk0, hc0⟩ := hS 0 s0 hs0
        subst e0
        refine sy_ops ?_
        refine ops_v hf hh (yv_loads Tryd.ag_24 rfl (fun _ h => by first | exact h.at (i := 0) rfl | exact h.at (i := 1) rfl | exact h.at (i := 2) rfl) (by first | assumption | rfl)) (.inl rfl) rfl rfl rfl ?_; clear hf; clear a; intro a hf
        refine ops_v hf hh (yv_move rfl) (.inl rfl) rfl rfl rfl ?_; clear hf; clear a; intro a hf
        first | refine ops_v hf hh (yv_convx (.inl rfl) (by kernel_rfl) Tryd.un_3 rfl (by omega) (by simp only [IntKind.top]; omega)) (.inl rfl) rfl rfl rfl ?_; clear hf; clear a; intro a hf | refine ops_v hf hh (yv_conv (by kernel_rfl) Tryd.un_3 rfl) (.inl rfl) rfl rfl rfl ?_; clear hf; clear a; intro a hf
        refine ops_alloc hf hh Tryd.ze_24 (.inl rfl) rfl ?_; clear hf hh; clear a; intro B7 a w hf hh
        first | refine ops_store (i := 0) hf hh rfl rfl rfl Tryd.sz_24 rfl rfl rfl (.inl rfl) fun w hh => ?_ | refine ops_store (i := 1) hf hh rfl rfl rfl Tryd.sz_24 rfl rfl rfl (.inl rfl) fun w hh => ?_ | refine ops_store (i := 2) hf hh rfl rfl rfl Tryd.sz_24 rfl rfl rfl (.inl rfl) fun w hh => ?_
        refine ops_v hf hh (yv_assign rfl) (.inl rfl) rfl rfl rfl ?_; clear hf; clear a; intro a hf
        refine ops_end ?_
        refine then_n ?_
        refine sy_seq ?_
        refine sy_ops ?_
        refine ops_buildSl hf hh Tryd.bl_22_0 rfl rfl (.inl rfl) rfl ?_; clear hf hh; clear a; intro B53 a w hf hh
        refine ops_v hf hh (yv_fieldAddr Tryd.fo_24_4 rfl) (.inl rfl) rfl rfl rfl ?_; clear hf; clear a; intro a hf
        refine ops_v hf hh (yv_load Tryd.sc_22 rfl (fun _ h => by first | exact h.at (i := 0) rfl | exact h.at (i := 1) rfl | exact h.at (i := 2) rfl) (by first | rfl | assumption)) (.inl rfl) rfl rfl rfl ?_; clear hf; clear a; intro a hf
        refine ops_appendS (e := 39) (size := 3) (m := 0) (xs := []) (news := encS b.scenes) (X := [(B53, .cells #[] 39 (0, 0))]) (Z := [_, _]) hf hh Tryd.eb_22 rfl rfl ⟨rfl, .inr ⟨B53, 0, #[], rfl, rfl, Nat.le_refl _, Nat.zero_le _, rfl, rfl⟩⟩ (scAt_cells (hS.ext hh.ext)) (encS_len _) (List.all_eq_true.2 fun z hz => by
          unfold encS at hz
          obtain ⟨s, _, hz⟩ := List.mem_flatMap.1 hz
          simp at hz
          rcases hz with rfl | rfl | rfl <;> rfl) (by simp only [maxLen]; omega) (by omega) (.inl rfl) rfl ?_; clear hf hh; clear a; intro v2 X2 a w hown hf hh
        rw [Nat.zero_add, List.nil_append] at hown
        obtain ⟨oa, cap, rfl⟩ := OwnSl.form hown
        obtain ⟨Bx, cur, rfl, rfl, hcc0⟩ := own_cells hown (by omega)
        refine ops_v hf hh (yv_fieldAddr Tryd.fo_24_4 rfl) (.inl rfl) rfl rfl rfl ?_; clear hf; clear a; intro a hf
        first | refine ops_store (i := 0) hf hh rfl rfl rfl Tryd.sz_22 rfl rfl rfl (.inl rfl) fun w hh => ?_ | refine ops_store (i := 1) hf hh rfl rfl rfl Tryd.sz_22 rfl rfl rfl (.inl rfl) fun w hh => ?_ | refine ops_store (i := 2) hf hh rfl rfl rfl Tryd.sz_22 rfl rfl rfl (.inl rfl) fun w hh => ?_
        refine ops_end ?_
        refine then_n ?_
        refine sy_seq ?_
        obtain ⟨J, hJ⟩ : ∃ J, J = y / 4 % b.scenes.length := ⟨_, rfl⟩
        have hJn : J < b.scenes.length := by rw [hJ]; exact Nat.mod_lt _ (by omega)
        obtain ⟨s, hs⟩ := scn_of hJn
        have hO := hV.sc s (List.mem_of_getElem? hs)
        have hO1 := hO.l1; have hO2 := hO.l2; have hO3 := hO.m1; have hO4 := hO.m2; have hO5 := hO.c1; have hO6 := hO.c2
        have hsz := hcc0.1
        obtain ⟨g0, g1, g2⟩ := hcc0.2 J s hs
        rw [← Nat.zero_add (J * 3)] at g0 g1 g2
        refine sy_quiet (C := Hp _ _ _) Tryd.follows (by kernel_rfl) (hh.drawn _) ?_
        refine q_v hf (yv_fieldAddr Tryd.fo_24_4 rfl) (.inl rfl) rfl rfl ?_; clear hf; clear a; intro a hf
        refine q_v hf (yv_load Tryd.sc_22 rfl (fun _ h => by first | exact h.at (i := 0) rfl | exact h.at (i := 1) rfl | exact h.at (i := 2) rfl) (by first | rfl | assumption)) (.inl rfl) rfl rfl ?_; clear hf; clear a; intro a hf
        refine q_v hf (yv_move rfl) (.inl rfl) rfl rfl ?_; clear hf; clear a; intro a hf
        refine q_v hf (yv_quo rfl rfl (by omega) (by omega) (by omega)) (.inl rfl) rfl rfl ?_; clear hf; clear a; intro a hf
        refine q_v hf (yv_fieldAddr Tryd.fo_24_4 rfl) (.inl rfl) rfl rfl ?_; clear hf; clear a; intro a hf
        refine q_v hf (yv_load Tryd.sc_22 rfl (fun _ h => by first | exact h.at (i := 0) rfl | exact h.at (i := 1) rfl | exact h.at (i := 2) rfl) (by first | rfl | assumption)) (.inl rfl) rfl rfl ?_; clear hf; clear a; intro a hf
        refine q_v hf (yv_len Tryd.se_22 rfl) (.inl rfl) rfl rfl ?_; clear hf; clear a; intro a hf
        refine q_v hf (yv_cast (yv_rem rfl rfl (by omega) (by omega)) (intv (b := ((J : Nat) : Int)) (by rw [hJ]; push_cast; rfl))) (.inl rfl) rfl rfl ?_; clear hf; clear a; intro a hf
        refine q_v hf (yv_indexAddr Tryd.se_22 rfl rfl (by omega) (by omega)) (.inl rfl) rfl rfl ?_; clear hf; clear a; intro a hf
        refine q_v hf (yv_assign rfl) (.inl rfl) rfl rfl ?_; clear hf; clear a; intro a hf
        refine q_end fun w hh => ?_
        refine then_n ?_
        refine sy_cut (σ := BarD) [67, 68, 69, 70, 71, 72, 73, 74, 75, 76, 77, 78, 79, 80, 81, 82, 83, 84, 85, 86, 87, 88, 89, 90, 91, 92, 93, 94, 95, 96, 97, 98, 99, 100, 101, 102, 103, 104, 105, 106, 107, 108, 109, 110, 111, 112, 113, 114, 115, 116, 117, 118, 119, 120, 121, 122, 123, 124, 125, 126, 127, 128, 129, 130] (fun x => []) (fun x => fun w' => Less b x ∧ ∃ cur, ScC cur x.scenes ∧ Hp u [] [(Bx, .cells cur 39), (B7, .cells #[.int .i64 x.slots, .int .i64 x.pitch, .int .i64 x.broken, .int .i64 x.most, .slice (some ⟨Bx, 0, none⟩) x.scenes.length cap] 24), (B3, .cells #[.int .i64 b.slots, .int .i64 b.pitch, .int .i64 b.broken, .int .i64 b.most, .slice (some ⟨blk, off, none⟩) b.scenes.length sc] 24)] w') hf ?_ ?_
        · refine sy_seq ?_
          refine sy_ops ?_
          refine ops_v hf hh (yv_move rfl) (.inl rfl) rfl rfl rfl ?_; clear hf; clear a; intro a hf
          refine ops_v hf hh (yv_cast (yv_rem rfl rfl (by omega) (by omega)) (intv (b := ((y % 4 : Nat) : Int)) (by push_cast; rfl))) (.inl rfl) rfl rfl rfl ?_; clear hf; clear a; intro a hf
          refine ops_end ?_
          refine then_n ?_
          refine sy_block ?_
          refine sy_seq ?_
          refine sy_ops ?_
          refine ops_v hf hh (yv_bin rfl rfl rfl) (.inl rfl) rfl rfl rfl ?_; clear hf; clear a; intro a hf
          refine ops_v hf hh (yv_assign rfl) (.inl rfl) rfl rfl rfl ?_; clear hf; clear a; intro a hf
          refine ops_end ?_
          refine then_n ?_
          refine sy_cond hf rfl (fun hg15 => ?_) (fun hg15 => ?_)
          · have hG15 := hg15; try simp only [gS] at hG15
            obtain ⟨K, hK⟩ : ∃ K, K = y / 4 % b.slots.toNat := ⟨_, rfl⟩
            have hKn : K < b.slots.toNat := by rw [hK]; exact Nat.mod_lt _ (by omega)
            have hpk : 2 ^ K ≤ 2 ^ 16 := Nat.pow_le_pow_right (by omega) (by omega)
            refine sy_tail (C := Hp _ _ _) 9 Tryd.follows (by kernel_rfl) rfl rfl (hh.drawn _) ?_
            refine q_v hf (yv_fieldAddr Tryd.fo_24_2 rfl) (.inl rfl) rfl rfl ?_; clear hf; clear a; intro a hf
            refine q_v hf (yv_load Tryd.sc_3 rfl (fun _ h => by first | exact h.at (i := 0) rfl | exact h.at (i := 1) rfl | exact h.at (i := 2) rfl) (by first | rfl | assumption)) (.inl rfl) rfl rfl ?_; clear hf; clear a; intro a hf
            refine q_v hf (yv_move rfl) (.inl rfl) rfl rfl ?_; clear hf; clear a; intro a hf
            refine q_v hf (yv_quo rfl rfl (by omega) (by omega) (by omega)) (.inl rfl) rfl rfl ?_; clear hf; clear a; intro a hf
            refine q_v hf (yv_fieldAddr Tryd.fo_24_0 rfl) (.inl rfl) rfl rfl ?_; clear hf; clear a; intro a hf
            refine q_v hf (yv_load Tryd.sc_3 rfl (fun _ h => by first | exact h.at (i := 0) rfl | exact h.at (i := 1) rfl | exact h.at (i := 2) rfl) (by first | rfl | assumption)) (.inl rfl) rfl rfl ?_; clear hf; clear a; intro a hf
            refine q_v hf (yv_cast (yv_rem rfl rfl (by omega) (by omega)) (intv (b := ((K : Nat) : Int)) (by rw [hK]; push_cast; rw [Int.toNat_of_nonneg (by omega)]))) (.inl rfl) rfl rfl ?_; clear hf; clear a; intro a hf
            refine q_v hf (yv_cast (yv_shl1 (.inl rfl) rfl rfl (by omega) (by omega)) (intv (b := ((2 ^ K : Nat) : Int)) rfl)) (.inl rfl) rfl rfl ?_; clear hf; clear a; intro a hf
            refine q_v hf (yv_cast (yv_or (.inl rfl) rfl rfl hk1 (by simp only [IntKind.top]; omega) (Int.natCast_nonneg _) (by simp only [IntKind.top]; omega)) (intv (b := ((b.broken.toNat ||| 2 ^ K : Nat) : Int)) rfl)) (.inl rfl) rfl rfl ?_; clear hf; clear a; intro a hf
            refine q_end fun w hh => ?_
            refine ops_v hf hh (yv_fieldAddr Tryd.fo_24_2 rfl) (.inl rfl) rfl rfl rfl ?_; clear hf; clear a; intro a hf
            first | refine ops_store (i := 0) hf hh rfl rfl rfl Tryd.sz_3 rfl rfl rfl (.inl rfl) fun w hh => ?_ | refine ops_store (i := 1) hf hh rfl rfl rfl Tryd.sz_3 rfl rfl rfl (.inl rfl) fun w hh => ?_ | refine ops_store (i := 2) hf hh rfl rfl rfl Tryd.sz_3 rfl rfl rfl (.inl rfl) fun w hh => ?_
            refine ops_end ?_
            refine blk_n ?_
            refine then_n ?_
            exact ⟨{ b with broken := ((b.broken.toNat ||| 2 ^ K : Nat) : Int) }, ⟨less_broken hV hKn, cur, hcc0, hh⟩, hf.head True.intro (Keep.cons rfl (Keep.cons rfl (Keep.cons rfl (Keep.cons rfl (Keep.cons rfl (Keep.cons rfl (Keep.cons rfl (Keep.cons rfl (Keep.cons rfl (Keep.cons rfl (Keep.cons rfl (Keep.cons rfl (Keep.cons rfl (Keep.cons rfl (Keep.base)))))))))))))))⟩
          · have hG15 := hg15; try simp only [gS] at hG15
            refine sy_seq ?_
            refine sy_ops ?_
            refine ops_v hf hh (yv_bin rfl rfl rfl) (.inl rfl) rfl rfl rfl ?_; clear hf; clear a; intro a hf
            refine ops_v hf hh (yv_assign rfl) (.inl rfl) rfl rfl rfl ?_; clear hf; clear a; intro a hf
            refine ops_end ?_
            refine then_n ?_
            refine sy_cond hf rfl (fun hg20 => ?_) (fun hg20 => ?_)
            · have hG20 := hg20; try simp only [gS] at hG20
              refine sy_seq ?_
              refine sy_tail (C := Hp _ _ _) 14 Tryd.follows (by kernel_rfl) rfl rfl (hh.drawn _) ?_
              refine q_v hf (yv_move rfl) (.inl rfl) rfl rfl ?_; clear hf; clear a; intro a hf
              refine q_v hf (yv_move rfl) (.inl rfl) rfl rfl ?_; clear hf; clear a; intro a hf
              refine q_v hf (yv_nilCheck rfl) (.inl rfl) rfl rfl ?_; clear hf; clear a; intro a hf
              refine q_v hf (yv_fieldAddr Tryd.fo_39_1 rfl) (.inl rfl) rfl rfl ?_; clear hf; clear a; intro a hf
              refine q_v hf (yv_load Tryd.sc_3 rfl (fun _ h => by first | exact h.at (i := 0) rfl | exact h.at (i := 1) rfl | exact h.at (i := 2) rfl) (by first | rfl | assumption)) (.inl rfl) rfl rfl ?_; clear hf; clear a; intro a hf
              refine q_v hf (yv_move rfl) (.inl rfl) rfl rfl ?_; clear hf; clear a; intro a hf
              refine q_v hf (yv_nilCheck rfl) (.inl rfl) rfl rfl ?_; clear hf; clear a; intro a hf
              refine q_v hf (yv_fieldAddr Tryd.fo_39_0 rfl) (.inl rfl) rfl rfl ?_; clear hf; clear a; intro a hf
              refine q_v hf (yv_load Tryd.sc_3 rfl (fun _ h => by first | exact h.at (i := 0) rfl | exact h.at (i := 1) rfl | exact h.at (i := 2) rfl) (by first | rfl | assumption)) (.inl rfl) rfl rfl ?_; clear hf; clear a; intro a hf
              refine q_v hf (yv_move rfl) (.inl rfl) rfl rfl ?_; clear hf; clear a; intro a hf
              refine q_v hf (yv_quo rfl rfl (by omega) (by omega) (by omega)) (.inl rfl) rfl rfl ?_; clear hf; clear a; intro a hf
              refine q_v hf (yv_cast (yv_rem rfl rfl (by omega) (by omega)) (intv (b := ((y / 4 % 90 : Nat) : Int)) (by push_cast; rfl))) (.inl rfl) rfl rfl ?_; clear hf; clear a; intro a hf
              first | refine q_v hf (yv_add rfl rfl (by omega) (by omega)) (.inl rfl) rfl rfl ?_; clear hf; clear a; intro a hf | refine q_v hf (yv_bin rfl rfl rfl) (.inl rfl) rfl rfl ?_; clear hf; clear a; intro a hf
              refine q_v hf (yv_min rfl rfl) (.inl rfl) rfl rfl ?_; clear hf; clear a; intro a hf
              refine q_end fun w hh => ?_
              refine ops_v hf hh (yv_nilCheck rfl) (.inl rfl) rfl rfl rfl ?_; clear hf; clear a; intro a hf
              refine ops_v hf hh (yv_fieldAddr Tryd.fo_39_0 rfl) (.inl rfl) rfl rfl rfl ?_; clear hf; clear a; intro a hf
              refine ops_store (i := 0) hf hh rfl rfl rfl Tryd.sz_3 rfl rfl (Nat.ble_eq_true_of_le (by omega)) (.inl rfl) fun w hh => ?_
              refine ops_end ?_
              refine then_n ?_
              replace hh : Hp u [] ((Bx, .cells (spl cur (0 + J * 3 + 0) [.int .i64 (min s.most (s.least + ((y / 4 % 90 : Nat) : Int)))]) 39 (0, 0)) :: _) w := hh
              obtain ⟨t1, ht1⟩ : ∃ t1 : Scn, t1 = { s with least := min s.most (s.least + ((y / 4 % 90 : Nat) : Int)) } := ⟨_, rfl⟩
              have hcc1 := hcc0.set hs (f := 0) (by omega) (v := min s.most (s.least + ((y / 4 % 90 : Nat) : Int))) (t := t1) (by rw [if_pos rfl]; exact ht1)
              have hs1' : (b.scenes.set J t1)[J]? = some t1 := List.getElem?_set_self hJn
              have e1 : t1.least = min s.most (s.least + ((y / 4 % 90 : Nat) : Int)) := by rw [ht1]
              have e2 : t1.most = s.most := by rw [ht1]
              have e3 : t1.calm = s.calm := by rw [ht1]
              have hsz1 := hcc1.1
              rw [List.length_set] at hsz1
              have g0' : (spl cur (0 + J * 3 + 0) [.int .i64 (min s.most (s.least + ((y / 4 % 90 : Nat) : Int)))])[0 + J * 3 + 0]? = some (.int .i64 (min s.most (s.least + ((y / 4 % 90 : Nat) : Int)))) := by
                have h := (hcc1.2 J t1 hs1').1
                rw [e1] at h
                rw [show 0 + J * 3 + 0 = J * 3 by omega] at h ⊢; exact h
              have g1' : (spl cur (0 + J * 3 + 0) [.int .i64 (min s.most (s.least + ((y / 4 % 90 : Nat) : Int)))])[0 + J * 3 + 1]? = some (.int .i64 s.most) := by
                have h := (hcc1.2 J t1 hs1').2.1
                rw [e2] at h
                rw [show 0 + J * 3 + 0 = J * 3 by omega] at h ⊢
                rw [show 0 + J * 3 + 1 = J * 3 + 1 by omega]; exact h
              refine sy_tail (C := Hp _ _ _) 14 Tryd.follows (by kernel_rfl) rfl rfl (hh.drawn _) ?_
              refine q_v hf (yv_move rfl) (.inl rfl) rfl rfl ?_; clear hf; clear a; intro a hf
              refine q_v hf (yv_move rfl) (.inl rfl) rfl rfl ?_; clear hf; clear a; intro a hf
              refine q_v hf (yv_nilCheck rfl) (.inl rfl) rfl rfl ?_; clear hf; clear a; intro a hf
              refine q_v hf (yv_fieldAddr Tryd.fo_39_0 rfl) (.inl rfl) rfl rfl ?_; clear hf; clear a; intro a hf
              refine q_v hf (yv_load Tryd.sc_3 rfl (fun _ h => by first | exact h.at (i := 0) rfl | exact h.at (i := 1) rfl | exact h.at (i := 2) rfl) (by first | rfl | assumption)) (.inl rfl) rfl rfl ?_; clear hf; clear a; intro a hf
              refine q_v hf (yv_move rfl) (.inl rfl) rfl rfl ?_; clear hf; clear a; intro a hf
              refine q_v hf (yv_nilCheck rfl) (.inl rfl) rfl rfl ?_; clear hf; clear a; intro a hf
              refine q_v hf (yv_fieldAddr Tryd.fo_39_1 rfl) (.inl rfl) rfl rfl ?_; clear hf; clear a; intro a hf
              refine q_v hf (yv_load Tryd.sc_3 rfl (fun _ h => by first | exact h.at (i := 0) rfl | exact h.at (i := 1) rfl | exact h.at (i := 2) rfl) (by first | rfl | assumption)) (.inl rfl) rfl rfl ?_; clear hf; clear a; intro a hf
              refine q_v hf (yv_move rfl) (.inl rfl) rfl rfl ?_; clear hf; clear a; intro a hf
              refine q_v hf (yv_quo rfl rfl (by omega) (by omega) (by omega)) (.inl rfl) rfl rfl ?_; clear hf; clear a; intro a hf
              refine q_v hf (yv_cast (yv_rem rfl rfl (by omega) (by omega)) (intv (b := ((y / 8 % 90 : Nat) : Int)) (by push_cast; rfl))) (.inl rfl) rfl rfl ?_; clear hf; clear a; intro a hf
              first | refine q_v hf (yv_sub rfl rfl (by omega) (by omega)) (.inl rfl) rfl rfl ?_; clear hf; clear a; intro a hf | refine q_v hf (yv_bin rfl rfl rfl) (.inl rfl) rfl rfl ?_; clear hf; clear a; intro a hf
              refine q_v hf (yv_max rfl rfl) (.inl rfl) rfl rfl ?_; clear hf; clear a; intro a hf
              refine q_end fun w hh => ?_
              refine ops_v hf hh (yv_nilCheck rfl) (.inl rfl) rfl rfl rfl ?_; clear hf; clear a; intro a hf
              refine ops_v hf hh (yv_fieldAddr Tryd.fo_39_1 rfl) (.inl rfl) rfl rfl rfl ?_; clear hf; clear a; intro a hf
              refine ops_store (i := 0) hf hh rfl rfl rfl Tryd.sz_3 rfl rfl (Nat.ble_eq_true_of_le (by omega)) (.inl rfl) fun w hh => ?_
              refine ops_end ?_
              refine blk_n ?_
              refine then_n ?_
              obtain ⟨t2, ht2⟩ : ∃ t2 : Scn, t2 = { t1 with most := max t1.least (t1.most - ((y / 8 % 90 : Nat) : Int)) } := ⟨_, rfl⟩
              have hcc2 := hcc1.set hs1' (f := 1) (by omega) (v := max t1.least (t1.most - ((y / 8 % 90 : Nat) : Int))) (t := t2) (by rw [if_neg (by omega), if_pos rfl]; exact ht2)
              rw [List.set_set] at hcc2
              have f1 : t2.least = t1.least := by rw [ht2]
              have f2 : t2.most = max t1.least (t1.most - ((y / 8 % 90 : Nat) : Int)) := by rw [ht2]
              have f3 : t2.calm = t1.calm := by rw [ht2]
              rw [e1, e2] at hcc2
              refine ⟨{ b with scenes := b.scenes.set J t2 }, ⟨less_scene hV hs ⟨by omega, by omega, by omega, by omega, by omega, by omega⟩ (by omega) (by omega) (by omega), _, hcc2, ?_⟩, hf.head True.intro (Keep.cons rfl (Keep.cons rfl (Keep.cons rfl (Keep.cons rfl (Keep.cons rfl (Keep.cons rfl (Keep.cons rfl (Keep.cons rfl (Keep.cons rfl (Keep.cons rfl (Keep.cons rfl (Keep.cons rfl (Keep.cons rfl (Keep.cons rfl (Keep.cons rfl (Keep.cons rfl (Keep.cons rfl (Keep.cons rfl (Keep.cons rfl (Keep.cons rfl (Keep.cons rfl (Keep.cons rfl (Keep.cons rfl (Keep.cons rfl (Keep.cons rfl (Keep.cons rfl (Keep.cons rfl (Keep.cons rfl (Keep.cons rfl (Keep.cons rfl (Keep.cons rfl (Keep.cons rfl (Keep.cons rfl (Keep.cons rfl (Keep.cons rfl (Keep.cons rfl (Keep.cons rfl (Keep.cons rfl (Keep.base)))))))))))))))))))))))))))))))))))))))⟩
              simp only [List.length_set]; exact hh
            · have hG20 := hg20; try simp only [gS] at hG20
              refine sy_seq ?_
              refine sy_ops ?_
              refine ops_v hf hh (yv_bin rfl rfl rfl) (.inl rfl) rfl rfl rfl ?_; clear hf; clear a; intro a hf
              refine ops_v hf hh (yv_assign rfl) (.inl rfl) rfl rfl rfl ?_; clear hf; clear a; intro a hf
              refine ops_end ?_
              refine then_n ?_
              refine sy_cond hf rfl (fun hg24 => ?_) (fun hg24 => ?_)
              · have hG24 := hg24; try simp only [gS] at hG24
                refine sy_ops ?_
                refine ops_v hf hh (yv_move rfl) (.inl rfl) rfl rfl rfl ?_; clear hf; clear a; intro a hf
                refine ops_v hf hh (yv_move rfl) (.inl rfl) rfl rfl rfl ?_; clear hf; clear a; intro a hf
                refine ops_v hf hh (yv_nilCheck rfl) (.inl rfl) rfl rfl rfl ?_; clear hf; clear a; intro a hf
                refine ops_v hf hh (yv_fieldAddr Tryd.fo_39_2 rfl) (.inl rfl) rfl rfl rfl ?_; clear hf; clear a; intro a hf
                refine ops_v hf hh (yv_load Tryd.sc_3 rfl (fun _ h => by first | exact h.at (i := 0) rfl | exact h.at (i := 1) rfl | exact h.at (i := 2) rfl) (by first | rfl | assumption)) (.inl rfl) rfl rfl rfl ?_; clear hf; clear a; intro a hf
                first | refine ops_v hf hh (yv_sub rfl rfl (by omega) (by omega)) (.inl rfl) rfl rfl rfl ?_; clear hf; clear a; intro a hf | refine ops_v hf hh (yv_bin rfl rfl rfl) (.inl rfl) rfl rfl rfl ?_; clear hf; clear a; intro a hf
                refine ops_v hf hh (yv_max rfl rfl) (.inl rfl) rfl rfl rfl ?_; clear hf; clear a; intro a hf
                refine ops_v hf hh (yv_nilCheck rfl) (.inl rfl) rfl rfl rfl ?_; clear hf; clear a; intro a hf
                refine ops_v hf hh (yv_fieldAddr Tryd.fo_39_2 rfl) (.inl rfl) rfl rfl rfl ?_; clear hf; clear a; intro a hf
                refine ops_store (i := 0) hf hh rfl rfl rfl Tryd.sz_3 rfl rfl (Nat.ble_eq_true_of_le (by omega)) (.inl rfl) fun w hh => ?_
                refine ops_end ?_
                refine blk_n ?_
                refine then_n ?_
                have hcc2 := hcc0.set hs (f := 2) (by omega) (v := max 0 (s.calm - 1)) (t := { s with calm := max 0 (s.calm - 1) }) (by simp)
                refine ⟨{ b with scenes := b.scenes.set J { s with calm := max 0 (s.calm - 1) } }, ⟨less_scene hV hs ⟨hO1, hO2, hO3, hO4, by simp only; omega, by simp only; omega⟩ (Int.le_refl _) (Int.le_refl _) (by simp only; omega), _, hcc2, ?_⟩, hf.head True.intro (Keep.cons rfl (Keep.cons rfl (Keep.cons rfl (Keep.cons rfl (Keep.cons rfl (Keep.cons rfl (Keep.cons rfl (Keep.cons rfl (Keep.cons rfl (Keep.cons rfl (Keep.cons rfl (Keep.cons rfl (Keep.cons rfl (Keep.cons rfl (Keep.cons rfl (Keep.cons rfl (Keep.cons rfl (Keep.base))))))))))))))))))⟩
                simp only [List.length_set]; exact hh
              · have hG24 := hg24; try simp only [gS] at hG24
                refine sy_ops ?_
                refine ops_v hf hh (yv_fieldAddr Tryd.fo_24_3 rfl) (.inl rfl) rfl rfl rfl ?_; clear hf; clear a; intro a hf
                refine ops_v hf hh (yv_load Tryd.sc_3 rfl (fun _ h => by first | exact h.at (i := 0) rfl | exact h.at (i := 1) rfl | exact h.at (i := 2) rfl) (by first | rfl | assumption)) (.inl rfl) rfl rfl rfl ?_; clear hf; clear a; intro a hf
                first | refine ops_v hf hh (yv_sub rfl rfl (by omega) (by omega)) (.inl rfl) rfl rfl rfl ?_; clear hf; clear a; intro a hf | refine ops_v hf hh (yv_bin rfl rfl rfl) (.inl rfl) rfl rfl rfl ?_; clear hf; clear a; intro a hf
                refine ops_v hf hh (yv_max rfl rfl) (.inl rfl) rfl rfl rfl ?_; clear hf; clear a; intro a hf
                refine ops_v hf hh (yv_fieldAddr Tryd.fo_24_3 rfl) (.inl rfl) rfl rfl rfl ?_; clear hf; clear a; intro a hf
                first | refine ops_store (i := 0) hf hh rfl rfl rfl Tryd.sz_3 rfl rfl rfl (.inl rfl) fun w hh => ?_ | refine ops_store (i := 1) hf hh rfl rfl rfl Tryd.sz_3 rfl rfl rfl (.inl rfl) fun w hh => ?_ | refine ops_store (i := 2) hf hh rfl rfl rfl Tryd.sz_3 rfl rfl rfl (.inl rfl) fun w hh => ?_
                refine ops_end ?_
                refine blk_n ?_
                refine then_n ?_
                exact ⟨{ b with most := max 0 (b.most - 1) }, ⟨less_pics hV (by omega) (by omega), cur, hcc0, hh⟩, hf.head True.intro (Keep.cons rfl (Keep.cons rfl (Keep.cons rfl (Keep.cons rfl (Keep.cons rfl (Keep.cons rfl (Keep.cons rfl (Keep.cons rfl (Keep.cons rfl (Keep.cons rfl (Keep.cons rfl (Keep.cons rfl (Keep.cons rfl (Keep.base))))))))))))))⟩
        · rintro x a w ⟨hle, cur, hcc, hh⟩ hf
          have hokx : okBar x = true := (okBar_iff x).2 hle.valid
          have hqx := planV_plan hle.valid y2
          have hqb := isPlan_bd (hle.plan _ hqx)
          obtain ⟨hfe, hfe1, hfe2, hfe3, hfe4⟩ := few_less hV hle
          have htb := taken_bd hV (planV x y2); have htx := taken_bd hle.valid (planV x y2)
          have htm := taken_bd hV (bstK b (plansL b).length); have htn := taken_bd hle.valid (bstK x (plansL x).length)
          have han := less_andn hle hqb
          have hcl : cntK x (2 ^ x.scenes.length - 1) (plansL x).length ≤ cntK b (2 ^ b.scenes.length - 1) (plansL b).length := less_cnt hV hle
          have hmo := less_most hV hle
          have h2438 : decide (((cntK b (2 ^ b.scenes.length - 1) (plansL b).length : Nat) : Int) < ((cntK x (2 ^ x.scenes.length - 1) (plansL x).length : Nat) : Int)) = false := decide_eq_false (by omega)
          refine sy_seq ?_
          refine sy_ops ?_
          refine ops_v hf hh (yv_loads Tryd.ag_24 rfl (fun _ h => by first | exact h.at (i := 0) rfl | exact h.at (i := 1) rfl | exact h.at (i := 2) rfl) (by first | assumption | rfl)) (.inl rfl) rfl rfl rfl ?_; clear hf; clear a; intro a hf
          refine ops_v hf hh (yv_move rfl) (.inl rfl) rfl rfl rfl ?_; clear hf; clear a; intro a hf
          refine ops_call hf Tryd.en_30 rfl rfl rfl (.inl rfl) rfl (c30 x _ _ hle.valid y2 hy2 _) ?_; clear hf; clear a; intro v a w hR hf
          obtain ⟨rfl, hx⟩ := hR; replace hh := hh.more hx; clear hx
          refine ops_v hf hh (yv_assign rfl) (.inl rfl) rfl rfl rfl ?_; clear hf; clear a; intro a hf
          refine ops_end ?_
          refine then_n ?_
          refine sy_seq ?_
          refine sy_ops ?_
          refine ops_v hf hh (yv_loads Tryd.ag_24 rfl (fun _ h => by first | exact h.at (i := 0) rfl | exact h.at (i := 1) rfl | exact h.at (i := 2) rfl) (by first | assumption | rfl)) (.inl rfl) rfl rfl rfl ?_; clear hf; clear a; intro a hf
          refine ops_v hf hh (yv_move rfl) (.inl rfl) rfl rfl rfl ?_; clear hf; clear a; intro a hf
          refine ops_call hf Tryd.en_13 rfl rfl rfl (.inl rfl) rfl (c13p b (some ⟨blk, off, none⟩) sc _ (hS.ext hh.ext) (hT.ext hh.ext (by simp)) hok (planV x y2) (hle.plan _ hqx)) ?_; clear hf; clear a; intro v a w hR hf
          obtain ⟨rfl, hx⟩ := hR; replace hh := hh.more hx; clear hx
          refine ops_v hf hh (yv_move rfl) (.inl rfl) rfl rfl rfl ?_; clear hf; clear a; intro a hf
          refine ops_v hf hh (yv_extract rfl rfl) (.inl rfl) rfl rfl rfl ?_; clear hf; clear a; intro a hf
          refine ops_v hf hh (yv_extract rfl rfl) (.inl rfl) rfl rfl rfl ?_; clear hf; clear a; intro a hf
          refine ops_v hf hh (yv_assign rfl) (.inl rfl) rfl rfl rfl ?_; clear hf; clear a; intro a hf
          refine ops_v hf hh (yv_assign rfl) (.inl rfl) rfl rfl rfl ?_; clear hf; clear a; intro a hf
          refine ops_end ?_
          refine then_n ?_
          refine sy_seq ?_
          refine sy_ops ?_
          refine ops_v hf hh (yv_loads Tryd.ag_24 rfl (fun _ h => by first | exact h.at (i := 0) rfl | exact h.at (i := 1) rfl | exact h.at (i := 2) rfl) (by first | assumption | rfl)) (.inl rfl) rfl rfl rfl ?_; clear hf; clear a; intro a hf
          refine ops_v hf hh (yv_move rfl) (.inl rfl) rfl rfl rfl ?_; clear hf; clear a; intro a hf
          refine ops_call hf Tryd.en_13 rfl rfl rfl (.inl rfl) rfl (c13p x (some ⟨Bx, 0, none⟩) cap _ (hcc.at (hh.at (i := 0) rfl)) (hT.ext hh.ext (by simp)) hokx (planV x y2) hqx) ?_; clear hf; clear a; intro v a w hR hf
          obtain ⟨rfl, hx⟩ := hR; replace hh := hh.more hx; clear hx
          refine ops_v hf hh (yv_move rfl) (.inl rfl) rfl rfl rfl ?_; clear hf; clear a; intro a hf
          refine ops_v hf hh (yv_extract rfl rfl) (.inl rfl) rfl rfl rfl ?_; clear hf; clear a; intro a hf
          refine ops_v hf hh (yv_extract rfl rfl) (.inl rfl) rfl rfl rfl ?_; clear hf; clear a; intro a hf
          refine ops_v hf hh (yv_assign rfl) (.inl rfl) rfl rfl rfl ?_; clear hf; clear a; intro a hf
          refine ops_v hf hh (yv_assign rfl) (.inl rfl) rfl rfl rfl ?_; clear hf; clear a; intro a hf
          refine ops_end ?_
          refine then_n ?_
          refine sy_seq ?_
          refine sy_ops ?_
          refine ops_v hf hh (yv_loads Tryd.ag_24 rfl (fun _ h => by first | exact h.at (i := 0) rfl | exact h.at (i := 1) rfl | exact h.at (i := 2) rfl) (by first | assumption | rfl)) (.inl rfl) rfl rfl rfl ?_; clear hf; clear a; intro a hf
          refine ops_call hf Tryd.en_18 rfl rfl rfl (.inl rfl) rfl (c18t b (some ⟨blk, off, none⟩) sc _ (hS.ext hh.ext) (hT.ext hh.ext (by simp))) ?_; clear hf; clear a; intro v a w hR hf
          obtain ⟨rfl, hx⟩ := hR; replace hh := hh.more hx; clear hx
          refine ops_v hf hh (yv_move rfl) (.inl rfl) rfl rfl rfl ?_; clear hf; clear a; intro a hf
          refine ops_v hf hh (yv_extract rfl rfl) (.inl rfl) rfl rfl rfl ?_; clear hf; clear a; intro a hf
          refine ops_v hf hh (yv_extract rfl rfl) (.inl rfl) rfl rfl rfl ?_; clear hf; clear a; intro a hf
          refine ops_v hf hh (yv_assign rfl) (.inl rfl) rfl rfl rfl ?_; clear hf; clear a; intro a hf
          refine ops_v hf hh (yv_assign rfl) (.inl rfl) rfl rfl rfl ?_; clear hf; clear a; intro a hf
          refine ops_end ?_
          refine then_n ?_
          refine sy_seq ?_
          refine sy_ops ?_
          refine ops_v hf hh (yv_loads Tryd.ag_24 rfl (fun _ h => by first | exact h.at (i := 0) rfl | exact h.at (i := 1) rfl | exact h.at (i := 2) rfl) (by first | assumption | rfl)) (.inl rfl) rfl rfl rfl ?_; clear hf; clear a; intro a hf
          refine ops_call hf Tryd.en_18 rfl rfl rfl (.inl rfl) rfl (c18t x (some ⟨Bx, 0, none⟩) cap _ (hcc.at (hh.at (i := 0) rfl)) (hT.ext hh.ext (by simp))) ?_; clear hf; clear a; intro v a w hR hf
          obtain ⟨rfl, hx⟩ := hR; replace hh := hh.more hx; clear hx
          refine ops_v hf hh (yv_move rfl) (.inl rfl) rfl rfl rfl ?_; clear hf; clear a; intro a hf
          refine ops_v hf hh (yv_extract rfl rfl) (.inl rfl) rfl rfl rfl ?_; clear hf; clear a; intro a hf
          refine ops_v hf hh (yv_extract rfl rfl) (.inl rfl) rfl rfl rfl ?_; clear hf; clear a; intro a hf
          refine ops_v hf hh (yv_assign rfl) (.inl rfl) rfl rfl rfl ?_; clear hf; clear a; intro a hf
          refine ops_v hf hh (yv_assign rfl) (.inl rfl) rfl rfl rfl ?_; clear hf; clear a; intro a hf
          refine ops_end ?_
          refine then_n ?_
          refine sy_seq ?_
          refine sy_ops ?_
          refine ops_v hf hh (yv_loads Tryd.ag_24 rfl (fun _ h => by first | exact h.at (i := 0) rfl | exact h.at (i := 1) rfl | exact h.at (i := 2) rfl) (by first | assumption | rfl)) (.inl rfl) rfl rfl rfl ?_; clear hf; clear a; intro a hf
          refine ops_call hf Tryd.en_20 rfl rfl rfl (.inl rfl) rfl (c20v b (some ⟨blk, off, none⟩) sc _ (hS.ext hh.ext) (hT.ext hh.ext (by simp)) hV) ?_; clear hf; clear a; intro v a w hR hf
          obtain ⟨rfl, hx⟩ := hR; replace hh := hh.more hx; clear hx
          refine ops_v hf hh (yv_move rfl) (.inl rfl) rfl rfl rfl ?_; clear hf; clear a; intro a hf
          refine ops_v hf hh (yv_extract rfl rfl) (.inl rfl) rfl rfl rfl ?_; clear hf; clear a; intro a hf
          refine ops_v hf hh (yv_extract rfl rfl) (.inl rfl) rfl rfl rfl ?_; clear hf; clear a; intro a hf
          refine ops_v hf hh (yv_assign rfl) (.inl rfl) rfl rfl rfl ?_; clear hf; clear a; intro a hf
          refine ops_v hf hh (yv_assign rfl) (.inl rfl) rfl rfl rfl ?_; clear hf; clear a; intro a hf
          refine ops_end ?_
          refine then_n ?_
          refine sy_seq ?_
          refine sy_ops ?_
          refine ops_v hf hh (yv_loads Tryd.ag_24 rfl (fun _ h => by first | exact h.at (i := 0) rfl | exact h.at (i := 1) rfl | exact h.at (i := 2) rfl) (by first | assumption | rfl)) (.inl rfl) rfl rfl rfl ?_; clear hf; clear a; intro a hf
          refine ops_call hf Tryd.en_20 rfl rfl rfl (.inl rfl) rfl (c20v x (some ⟨Bx, 0, none⟩) cap _ (hcc.at (hh.at (i := 0) rfl)) (hT.ext hh.ext (by simp)) hle.valid) ?_; clear hf; clear a; intro v a w hR hf
          obtain ⟨rfl, hx⟩ := hR; replace hh := hh.more hx; clear hx
          refine ops_v hf hh (yv_move rfl) (.inl rfl) rfl rfl rfl ?_; clear hf; clear a; intro a hf
          refine ops_v hf hh (yv_extract rfl rfl) (.inl rfl) rfl rfl rfl ?_; clear hf; clear a; intro a hf
          refine ops_v hf hh (yv_extract rfl rfl) (.inl rfl) rfl rfl rfl ?_; clear hf; clear a; intro a hf
          refine ops_v hf hh (yv_assign rfl) (.inl rfl) rfl rfl rfl ?_; clear hf; clear a; intro a hf
          refine ops_v hf hh (yv_assign rfl) (.inl rfl) rfl rfl rfl ?_; clear hf; clear a; intro a hf
          refine ops_end ?_
          refine then_n ?_
          refine sy_seq ?_
          refine sy_ops ?_
          refine ops_v hf hh (yv_loads Tryd.ag_24 rfl (fun _ h => by first | exact h.at (i := 0) rfl | exact h.at (i := 1) rfl | exact h.at (i := 2) rfl) (by first | assumption | rfl)) (.inl rfl) rfl rfl rfl ?_; clear hf; clear a; intro a hf
          refine ops_call hf Tryd.en_24 rfl rfl rfl (.inl rfl) rfl (c24v b (some ⟨blk, off, none⟩) sc _ (hS.ext hh.ext) (hT.ext hh.ext (by simp)) hV) ?_; clear hf; clear a; intro v a w hR hf
          obtain ⟨rfl, hx⟩ := hR; replace hh := hh.more hx; clear hx
          refine ops_v hf hh (yv_move rfl) (.inl rfl) rfl rfl rfl ?_; clear hf; clear a; intro a hf
          refine ops_v hf hh (yv_extract rfl rfl) (.inl rfl) rfl rfl rfl ?_; clear hf; clear a; intro a hf
          refine ops_v hf hh (yv_extract rfl rfl) (.inl rfl) rfl rfl rfl ?_; clear hf; clear a; intro a hf
          refine ops_v hf hh (yv_extract rfl rfl) (.inl rfl) rfl rfl rfl ?_; clear hf; clear a; intro a hf
          refine ops_v hf hh (yv_assign rfl) (.inl rfl) rfl rfl rfl ?_; clear hf; clear a; intro a hf
          refine ops_v hf hh (yv_assign rfl) (.inl rfl) rfl rfl rfl ?_; clear hf; clear a; intro a hf
          refine ops_v hf hh (yv_assign rfl) (.inl rfl) rfl rfl rfl ?_; clear hf; clear a; intro a hf
          refine ops_end ?_
          refine then_n ?_
          refine sy_seq ?_
          refine sy_ops ?_
          refine ops_v hf hh (yv_loads Tryd.ag_24 rfl (fun _ h => by first | exact h.at (i := 0) rfl | exact h.at (i := 1) rfl | exact h.at (i := 2) rfl) (by first | assumption | rfl)) (.inl rfl) rfl rfl rfl ?_; clear hf; clear a; intro a hf
          refine ops_call hf Tryd.en_24 rfl rfl rfl (.inl rfl) rfl (c24v x (some ⟨Bx, 0, none⟩) cap _ (hcc.at (hh.at (i := 0) rfl)) (hT.ext hh.ext (by simp)) hle.valid) ?_; clear hf; clear a; intro v a w hR hf
          obtain ⟨rfl, hx⟩ := hR; replace hh := hh.more hx; clear hx
          refine ops_v hf hh (yv_move rfl) (.inl rfl) rfl rfl rfl ?_; clear hf; clear a; intro a hf
          refine ops_v hf hh (yv_extract rfl rfl) (.inl rfl) rfl rfl rfl ?_; clear hf; clear a; intro a hf
          refine ops_v hf hh (yv_extract rfl rfl) (.inl rfl) rfl rfl rfl ?_; clear hf; clear a; intro a hf
          refine ops_v hf hh (yv_extract rfl rfl) (.inl rfl) rfl rfl rfl ?_; clear hf; clear a; intro a hf
          refine ops_v hf hh (yv_assign rfl) (.inl rfl) rfl rfl rfl ?_; clear hf; clear a; intro a hf
          refine ops_v hf hh (yv_assign rfl) (.inl rfl) rfl rfl rfl ?_; clear hf; clear a; intro a hf
          refine ops_v hf hh (yv_assign rfl) (.inl rfl) rfl rfl rfl ?_; clear hf; clear a; intro a hf
          refine ops_end ?_
          refine then_n ?_
          refine sy_seq ?_
          refine sy_seq ?_
          refine sy_ops ?_
          refine ops_v hf hh (yv_move rfl) (.inl rfl) rfl rfl rfl ?_; clear hf; clear a; intro a hf
          refine ops_v hf hh (yv_bin rfl rfl rfl) (.inl rfl) rfl rfl rfl ?_; clear hf; clear a; intro a hf
          refine ops_v hf hh (yv_move rfl) (.inl rfl) rfl rfl rfl ?_; clear hf; clear a; intro a hf
          refine ops_v hf hh (yv_move rfl) (gon rfl rfl rfl (by first | assumption | rfl | (simp; done) | (simp; omega))) rfl rfl rfl ?_; clear hf; clear a; intro a hf
          refine ops_v hf hh (yv_bin rfl rfl rfl) (gon rfl rfl rfl (by first | assumption | rfl | (simp; done) | (simp; omega))) rfl rfl rfl ?_; clear hf; clear a; intro a hf
          refine ops_v hf hh (yv_pick_f rfl (by first | assumption | rfl | (simp; done) | (simp; omega)) rfl) (.inl rfl) rfl rfl rfl ?_; clear hf; clear a; intro a hf
          refine ops_v hf hh (yv_move rfl) (.inl rfl) rfl rfl rfl ?_; clear hf; clear a; intro a hf
          refine ops_v hf hh (yv_move rfl) (gon rfl rfl rfl (by first | assumption | rfl | (simp; done) | (simp; omega))) rfl rfl rfl ?_; clear hf; clear a; intro a hf
          refine ops_v hf hh (yv_move rfl) (gon rfl rfl rfl (by first | assumption | rfl | (simp; done) | (simp; omega))) rfl rfl rfl ?_; clear hf; clear a; intro a hf
          refine ops_v hf hh (yv_cast (yv_andn (.inl rfl) rfl rfl (Int.natCast_nonneg _) (by simp only [IntKind.top]; omega) (Int.natCast_nonneg _) (by simp only [IntKind.top]; omega)) (intv (b := 0) (by show ((andn (taken x (planV x y2)) (taken b (planV x y2)) : Nat) : Int) = 0; rw [han]; rfl))) (gon rfl rfl rfl (by first | assumption | rfl | (simp; done) | (simp; omega))) rfl rfl rfl ?_; clear hf; clear a; intro a hf
          refine ops_v hf hh (yv_bin rfl rfl rfl) (gon rfl rfl rfl (by first | assumption | rfl | (simp; done) | (simp; omega))) rfl rfl rfl ?_; clear hf; clear a; intro a hf
          refine ops_v hf hh (yv_pick_f rfl (by first | assumption | rfl | (simp; done) | (simp; omega)) rfl) (.inl rfl) rfl rfl rfl ?_; clear hf; clear a; intro a hf
          refine ops_v hf hh (yv_move rfl) (.inl rfl) rfl rfl rfl ?_; clear hf; clear a; intro a hf
          refine ops_v hf hh (yv_move rfl) (gon rfl rfl rfl (by first | assumption | rfl | (simp; done) | (simp; omega))) rfl rfl rfl ?_; clear hf; clear a; intro a hf
          refine ops_v hf hh (yv_bin rfl rfl rfl) (gon rfl rfl rfl (by first | assumption | rfl | (simp; done) | (simp; omega))) rfl rfl rfl ?_; clear hf; clear a; intro a hf
          refine ops_v hf hh (yv_move rfl) (gon rfl rfl rfl (by first | assumption | rfl | (simp; done) | (simp; omega))) rfl rfl rfl ?_; clear hf; clear a; intro a hf
          refine guard_split hf (t := 193) rfl (fun hg57 => ?_) (fun hg57 => ?_)
          · have hG57 := hg57; try simp only [gS] at hG57
            refine ops_v hf hh (yv_move rfl) (gon rfl rfl rfl (by first | assumption | rfl | (simp; done) | (simp; omega))) rfl rfl rfl ?_; clear hf; clear a; intro a hf
            refine ops_v hf hh (yv_bin rfl rfl rfl) (gon rfl rfl rfl (by first | assumption | rfl | (simp; done) | (simp; omega))) rfl rfl rfl ?_; clear hf; clear a; intro a hf
            refine ops_v hf hh (yv_move rfl) (gon rfl rfl rfl (by first | assumption | rfl | (simp; done) | (simp; omega))) rfl rfl rfl ?_; clear hf; clear a; intro a hf
            refine guard_split hf (t := 196) rfl (fun hg59 => ?_) (fun hg59 => ?_)
            · have hG59 := hg59; try simp only [gS] at hG59
              refine ops_off hf (goff rfl rfl rfl (by first | assumption | rfl | (simp; done) | (simp; omega))) rfl rfl ?_; clear hf; clear a; intro a hf
              refine ops_off hf (goff rfl rfl rfl (by first | assumption | rfl | (simp; done) | (simp; omega))) rfl rfl ?_; clear hf; clear a; intro a hf
              refine ops_off hf (goff rfl rfl rfl (by first | assumption | rfl | (simp; done) | (simp; omega))) rfl rfl ?_; clear hf; clear a; intro a hf
              refine ops_off hf (goff rfl rfl rfl (by first | assumption | rfl | (simp; done) | (simp; omega))) rfl rfl ?_; clear hf; clear a; intro a hf
              refine ops_off hf (goff rfl rfl rfl (by first | assumption | rfl | (simp; done) | (simp; omega))) rfl rfl ?_; clear hf; clear a; intro a hf
              refine ops_v hf hh (yv_pick_t rfl (by first | assumption | rfl | (simp; done) | (simp; omega)) rfl) (gon rfl rfl rfl (by first | assumption | rfl | (simp; done) | (simp; omega))) rfl rfl rfl ?_; clear hf; clear a; intro a hf
              refine ops_v hf hh (yv_pick_t rfl (by first | assumption | rfl | (simp; done) | (simp; omega)) rfl) (gon rfl rfl rfl (by first | assumption | rfl | (simp; done) | (simp; omega))) rfl rfl rfl ?_; clear hf; clear a; intro a hf
              refine ops_v hf hh (yv_pick_f rfl (by first | assumption | rfl | (simp; done) | (simp; omega)) rfl) (.inl rfl) rfl rfl rfl ?_; clear hf; clear a; intro a hf
              refine ops_v hf hh (yv_move rfl) (.inl rfl) rfl rfl rfl ?_; clear hf; clear a; intro a hf
              refine ops_off hf (goff rfl rfl rfl (by first | assumption | rfl | (simp; done) | (simp; omega))) rfl rfl ?_; clear hf; clear a; intro a hf
              refine ops_off hf (goff rfl rfl rfl (by first | assumption | rfl | (simp; done) | (simp; omega))) rfl rfl ?_; clear hf; clear a; intro a hf
              refine ops_v hf hh (yv_pick_t rfl (by first | assumption | rfl | (simp; done) | (simp; omega)) rfl) (.inl rfl) rfl rfl rfl ?_; clear hf; clear a; intro a hf
              refine ops_v hf hh (yv_move rfl) (.inl rfl) rfl rfl rfl ?_; clear hf; clear a; intro a hf
              refine ops_off hf (goff rfl rfl rfl (by first | assumption | rfl | (simp; done) | (simp; omega))) rfl rfl ?_; clear hf; clear a; intro a hf
              refine ops_off hf (goff rfl rfl rfl (by first | assumption | rfl | (simp; done) | (simp; omega))) rfl rfl ?_; clear hf; clear a; intro a hf
              refine ops_v hf hh (yv_pick_t rfl (by first | assumption | rfl | (simp; done) | (simp; omega)) rfl) (.inl rfl) rfl rfl rfl ?_; clear hf; clear a; intro a hf
              refine ops_v hf hh (yv_move rfl) (.inl rfl) rfl rfl rfl ?_; clear hf; clear a; intro a hf
              refine ops_off hf (goff rfl rfl rfl (by first | assumption | rfl | (simp; done) | (simp; omega))) rfl rfl ?_; clear hf; clear a; intro a hf
              refine ops_off hf (goff rfl rfl rfl (by first | assumption | rfl | (simp; done) | (simp; omega))) rfl rfl ?_; clear hf; clear a; intro a hf
              refine ops_off hf (goff rfl rfl rfl (by first | assumption | rfl | (simp; done) | (simp; omega))) rfl rfl ?_; clear hf; clear a; intro a hf
              refine ops_v hf hh (yv_pick_t rfl (by first | assumption | rfl | (simp; done) | (simp; omega)) rfl) (.inl rfl) rfl rfl rfl ?_; clear hf; clear a; intro a hf
              refine ops_v hf hh (yv_move rfl) (.inl rfl) rfl rfl rfl ?_; clear hf; clear a; intro a hf
              refine ops_off hf (goff rfl rfl rfl (by first | assumption | rfl | (simp; done) | (simp; omega))) rfl rfl ?_; clear hf; clear a; intro a hf
              refine ops_off hf (goff rfl rfl rfl (by first | assumption | rfl | (simp; done) | (simp; omega))) rfl rfl ?_; clear hf; clear a; intro a hf
              refine ops_v hf hh (yv_pick_t rfl (by first | assumption | rfl | (simp; done) | (simp; omega)) rfl) (.inl rfl) rfl rfl rfl ?_; clear hf; clear a; intro a hf
              refine ops_v hf hh (yv_move rfl) (.inl rfl) rfl rfl rfl ?_; clear hf; clear a; intro a hf
              refine ops_off hf (goff rfl rfl rfl (by first | assumption | rfl | (simp; done) | (simp; omega))) rfl rfl ?_; clear hf; clear a; intro a hf
              refine ops_off hf (goff rfl rfl rfl (by first | assumption | rfl | (simp; done) | (simp; omega))) rfl rfl ?_; clear hf; clear a; intro a hf
              refine ops_v hf hh (yv_pick_t rfl (by first | assumption | rfl | (simp; done) | (simp; omega)) rfl) (.inl rfl) rfl rfl rfl ?_; clear hf; clear a; intro a hf
              refine ops_end ?_
              refine then_n ?_
              refine sy_ct hf rfl (by first | assumption | rfl | (simp; done) | (simp; omega)) ?_
              refine sy_seq ?_
              refine sy_ops ?_
              refine ops_v hf hh (yv_assign rfl) (.inl rfl) rfl rfl rfl ?_; clear hf; clear a; intro a hf
              refine ops_end ?_
              refine then_n ?_
              refine sy_ret ?_
              refine then_r ?_
              refine ret_r hf rfl rfl ?_
              first | exact ⟨rfl, hh.ext⟩ | (exfalso; omega)
            · have hG59 := hg59; try simp only [gS] at hG59
              refine ops_v hf hh (yv_move rfl) (gon rfl rfl rfl (by first | assumption | rfl | (simp; done) | (simp; omega))) rfl rfl rfl ?_; clear hf; clear a; intro a hf
              refine ops_call hf Tryd.en_31 rfl rfl rfl (gon rfl rfl rfl (by first | assumption | rfl | (simp; done) | (simp; omega))) rfl (c31 (fewP x) (by omega) (by omega) _) ?_; clear hf; clear a; intro v a w hR hf
              obtain ⟨rfl, hx⟩ := hR; replace hh := hh.more hx; clear hx
              refine ops_v hf hh (yv_move rfl) (gon rfl rfl rfl (by first | assumption | rfl | (simp; done) | (simp; omega))) rfl rfl rfl ?_; clear hf; clear a; intro a hf
              refine ops_call hf Tryd.en_31 rfl rfl rfl (gon rfl rfl rfl (by first | assumption | rfl | (simp; done) | (simp; omega))) rfl (c31 (fewP b) (by omega) (by omega) _) ?_; clear hf; clear a; intro v a w hR hf
              obtain ⟨rfl, hx⟩ := hR; replace hh := hh.more hx; clear hx
              refine ops_v hf hh (yv_bin rfl rfl rfl) (gon rfl rfl rfl (by first | assumption | rfl | (simp; done) | (simp; omega))) rfl rfl rfl ?_; clear hf; clear a; intro a hf
              refine ops_v hf hh (yv_pick_f rfl (by first | assumption | rfl | (simp; done) | (simp; omega)) rfl) (gon rfl rfl rfl (by first | assumption | rfl | (simp; done) | (simp; omega))) rfl rfl rfl ?_; clear hf; clear a; intro a hf
              refine ops_v hf hh (yv_pick_t rfl (by first | assumption | rfl | (simp; done) | (simp; omega)) rfl) (gon rfl rfl rfl (by first | assumption | rfl | (simp; done) | (simp; omega))) rfl rfl rfl ?_; clear hf; clear a; intro a hf
              refine ops_v hf hh (yv_pick_f rfl (by first | assumption | rfl | (simp; done) | (simp; omega)) rfl) (.inl rfl) rfl rfl rfl ?_; clear hf; clear a; intro a hf
              refine ops_v hf hh (yv_move rfl) (.inl rfl) rfl rfl rfl ?_; clear hf; clear a; intro a hf
              refine guard_split hf (t := 205) rfl (fun hg63 => ?_) (fun hg63 => ?_)
              · have hG63 := hg63; try simp only [gS] at hG63
                refine ops_off hf (goff rfl rfl rfl (by first | assumption | rfl | (simp; done) | (simp; omega))) rfl rfl ?_; clear hf; clear a; intro a hf
                refine ops_off hf (goff rfl rfl rfl (by first | assumption | rfl | (simp; done) | (simp; omega))) rfl rfl ?_; clear hf; clear a; intro a hf
                refine ops_v hf hh (yv_pick_t rfl (by first | assumption | rfl | (simp; done) | (simp; omega)) rfl) (.inl rfl) rfl rfl rfl ?_; clear hf; clear a; intro a hf
                refine ops_v hf hh (yv_move rfl) (.inl rfl) rfl rfl rfl ?_; clear hf; clear a; intro a hf
                refine ops_off hf (goff rfl rfl rfl (by first | assumption | rfl | (simp; done) | (simp; omega))) rfl rfl ?_; clear hf; clear a; intro a hf
                refine ops_off hf (goff rfl rfl rfl (by first | assumption | rfl | (simp; done) | (simp; omega))) rfl rfl ?_; clear hf; clear a; intro a hf
                refine ops_v hf hh (yv_pick_t rfl (by first | assumption | rfl | (simp; done) | (simp; omega)) rfl) (.inl rfl) rfl rfl rfl ?_; clear hf; clear a; intro a hf
                refine ops_v hf hh (yv_move rfl) (.inl rfl) rfl rfl rfl ?_; clear hf; clear a; intro a hf
                refine ops_off hf (goff rfl rfl rfl (by first | assumption | rfl | (simp; done) | (simp; omega))) rfl rfl ?_; clear hf; clear a; intro a hf
                refine ops_off hf (goff rfl rfl rfl (by first | assumption | rfl | (simp; done) | (simp; omega))) rfl rfl ?_; clear hf; clear a; intro a hf
                refine ops_off hf (goff rfl rfl rfl (by first | assumption | rfl | (simp; done) | (simp; omega))) rfl rfl ?_; clear hf; clear a; intro a hf
                refine ops_v hf hh (yv_pick_t rfl (by first | assumption | rfl | (simp; done) | (simp; omega)) rfl) (.inl rfl) rfl rfl rfl ?_; clear hf; clear a; intro a hf
                refine ops_v hf hh (yv_move rfl) (.inl rfl) rfl rfl rfl ?_; clear hf; clear a; intro a hf
                refine ops_off hf (goff rfl rfl rfl (by first | assumption | rfl | (simp; done) | (simp; omega))) rfl rfl ?_; clear hf; clear a; intro a hf
                refine ops_off hf (goff rfl rfl rfl (by first | assumption | rfl | (simp; done) | (simp; omega))) rfl rfl ?_; clear hf; clear a; intro a hf
                refine ops_v hf hh (yv_pick_t rfl (by first | assumption | rfl | (simp; done) | (simp; omega)) rfl) (.inl rfl) rfl rfl rfl ?_; clear hf; clear a; intro a hf
                refine ops_v hf hh (yv_move rfl) (.inl rfl) rfl rfl rfl ?_; clear hf; clear a; intro a hf
                refine ops_off hf (goff rfl rfl rfl (by first | assumption | rfl | (simp; done) | (simp; omega))) rfl rfl ?_; clear hf; clear a; intro a hf
                refine ops_off hf (goff rfl rfl rfl (by first | assumption | rfl | (simp; done) | (simp; omega))) rfl rfl ?_; clear hf; clear a; intro a hf
                refine ops_v hf hh (yv_pick_t rfl (by first | assumption | rfl | (simp; done) | (simp; omega)) rfl) (.inl rfl) rfl rfl rfl ?_; clear hf; clear a; intro a hf
                refine ops_end ?_
                refine then_n ?_
                refine sy_ct hf rfl (by first | assumption | rfl | (simp; done) | (simp; omega)) ?_
                refine sy_seq ?_
                refine sy_ops ?_
                refine ops_v hf hh (yv_assign rfl) (.inl rfl) rfl rfl rfl ?_; clear hf; clear a; intro a hf
                refine ops_end ?_
                refine then_n ?_
                refine sy_ret ?_
                refine then_r ?_
                refine ret_r hf rfl rfl ?_
                first | exact ⟨rfl, hh.ext⟩ | (exfalso; omega)
              · have hG63 := hg63; try simp only [gS] at hG63
                refine ops_v hf hh (yv_move rfl) (gon rfl rfl rfl (by first | assumption | rfl | (simp; done) | (simp; omega))) rfl rfl rfl ?_; clear hf; clear a; intro a hf
                refine ops_v hf hh (yv_bin rfl rfl rfl) (gon rfl rfl rfl (by first | assumption | rfl | (simp; done) | (simp; omega))) rfl rfl rfl ?_; clear hf; clear a; intro a hf
                refine ops_v hf hh (yv_pick_f rfl (by first | assumption | rfl | (simp; done) | (simp; omega)) rfl) (.inl rfl) rfl rfl rfl ?_; clear hf; clear a; intro a hf
                refine ops_v hf hh (yv_move rfl) (.inl rfl) rfl rfl rfl ?_; clear hf; clear a; intro a hf
                refine ops_v hf hh (yv_move rfl) (gon rfl rfl rfl (by first | assumption | rfl | (simp; done) | (simp; omega))) rfl rfl rfl ?_; clear hf; clear a; intro a hf
                refine ops_v hf hh (yv_bin rfl rfl rfl) (gon rfl rfl rfl (by first | assumption | rfl | (simp; done) | (simp; omega))) rfl rfl rfl ?_; clear hf; clear a; intro a hf
                refine ops_v hf hh (yv_pick_f rfl (by first | assumption | rfl | (simp; done) | (simp; omega)) rfl) (.inl rfl) rfl rfl rfl ?_; clear hf; clear a; intro a hf
                refine ops_v hf hh (yv_move rfl) (.inl rfl) rfl rfl rfl ?_; clear hf; clear a; intro a hf
                refine ops_v hf hh (yv_move rfl) (gon rfl rfl rfl (by first | assumption | rfl | (simp; done) | (simp; omega))) rfl rfl rfl ?_; clear hf; clear a; intro a hf
                refine ops_v hf hh (yv_move rfl) (gon rfl rfl rfl (by first | assumption | rfl | (simp; done) | (simp; omega))) rfl rfl rfl ?_; clear hf; clear a; intro a hf
                refine ops_v hf hh (yv_bin rfl rfl rfl) (gon rfl rfl rfl (by first | assumption | rfl | (simp; done) | (simp; omega))) rfl rfl rfl ?_; clear hf; clear a; intro a hf
                refine ops_v hf hh (yv_pick_f rfl (by first | assumption | rfl | (simp; done) | (simp; omega)) rfl) (.inl rfl) rfl rfl rfl ?_; clear hf; clear a; intro a hf
                refine ops_v hf hh (yv_move rfl) (.inl rfl) rfl rfl rfl ?_; clear hf; clear a; intro a hf
                refine ops_v hf hh (yv_move rfl) (gon rfl rfl rfl (by first | assumption | rfl | (simp; done) | (simp; omega))) rfl rfl rfl ?_; clear hf; clear a; intro a hf
                refine ops_v hf hh (yv_bin rfl rfl rfl) (gon rfl rfl rfl (by first | assumption | rfl | (simp; done) | (simp; omega))) rfl rfl rfl ?_; clear hf; clear a; intro a hf
                refine ops_v hf hh (yv_pick_f rfl (by first | assumption | rfl | (simp; done) | (simp; omega)) rfl) (.inl rfl) rfl rfl rfl ?_; clear hf; clear a; intro a hf
                refine ops_v hf hh (yv_move rfl) (.inl rfl) rfl rfl rfl ?_; clear hf; clear a; intro a hf
                refine ops_v hf hh (yv_move rfl) (gon rfl rfl rfl (by first | assumption | rfl | (simp; done) | (simp; omega))) rfl rfl rfl ?_; clear hf; clear a; intro a hf
                refine ops_v hf hh (yv_bin rfl rfl rfl) (gon rfl rfl rfl (by first | assumption | rfl | (simp; done) | (simp; omega))) rfl rfl rfl ?_; clear hf; clear a; intro a hf
                refine ops_v hf hh (yv_pick_f rfl (by first | assumption | rfl | (simp; done) | (simp; omega)) rfl) (.inl rfl) rfl rfl rfl ?_; clear hf; clear a; intro a hf
                refine ops_end ?_
                refine then_n ?_
                refine sy_cf hf rfl (by first | assumption | rfl | (simp; done) | (simp; omega)) ?_
                refine sy_skip ?_
                refine then_n ?_
                refine sy_seq ?_
                refine sy_ops ?_
                refine ops_v hf hh (yv_move rfl) (.inl rfl) rfl rfl rfl ?_; clear hf; clear a; intro a hf
                refine ops_call hf Tryd.en_31 rfl rfl rfl (.inl rfl) rfl (c31n (taken x (bstK x (plansL x).length)) (by omega) _) ?_; clear hf; clear a; intro v a w hR hf
                obtain ⟨rfl, hx⟩ := hR; replace hh := hh.more hx; clear hx
                refine ops_v hf hh (yv_move rfl) (.inl rfl) rfl rfl rfl ?_; clear hf; clear a; intro a hf
                refine ops_call hf Tryd.en_31 rfl rfl rfl (.inl rfl) rfl (c31n (taken b (bstK b (plansL b).length)) (by omega) _) ?_; clear hf; clear a; intro v a w hR hf
                obtain ⟨rfl, hx⟩ := hR; replace hh := hh.more hx; clear hx
                refine ops_v hf hh (yv_bin rfl rfl rfl) (.inl rfl) rfl rfl rfl ?_; clear hf; clear a; intro a hf
                refine ops_v hf hh (yv_move rfl) (.inl rfl) rfl rfl rfl ?_; clear hf; clear a; intro a hf
                refine ops_call hf Tryd.en_12 rfl rfl rfl (gon rfl rfl rfl (by first | assumption | rfl | (simp; done) | (simp; omega))) rfl (c12 _ (hT.ext hh.ext (by simp))) ?_; clear hf; clear a; intro v a w hR hf
                obtain ⟨rfl, hx⟩ := hR; replace hh := hh.more hx; clear hx
                refine ops_v hf hh (yv_pick_t rfl (by first | assumption | rfl | (simp; done) | (simp; omega)) rfl) (.inl rfl) rfl rfl rfl ?_; clear hf; clear a; intro a hf
                refine ops_v hf hh (yv_assign rfl) (.inl rfl) rfl rfl rfl ?_; clear hf; clear a; intro a hf
                refine ops_end ?_
                refine then_n ?_
                refine sy_ret ?_
                refine ret_r hf rfl rfl ?_
                first | exact ⟨rfl, hh.ext⟩ | (exfalso; omega)
          · have hG57 := hg57; try simp only [gS] at hG57
            refine ops_off hf (goff rfl rfl rfl (by first | assumption | rfl | (simp; done) | (simp; omega))) rfl rfl ?_; clear hf; clear a; intro a hf
            refine ops_off hf (goff rfl rfl rfl (by first | assumption | rfl | (simp; done) | (simp; omega))) rfl rfl ?_; clear hf; clear a; intro a hf
            refine ops_off hf (goff rfl rfl rfl (by first | assumption | rfl | (simp; done) | (simp; omega))) rfl rfl ?_; clear hf; clear a; intro a hf
            refine ops_off hf (goffu rfl rfl rfl) rfl rfl ?_; clear hf; clear a; intro a hf
            refine ops_off hf (goffu rfl rfl rfl) rfl rfl ?_; clear hf; clear a; intro a hf
            refine ops_off hf (goffu rfl rfl rfl) rfl rfl ?_; clear hf; clear a; intro a hf
            refine ops_off hf (goffu rfl rfl rfl) rfl rfl ?_; clear hf; clear a; intro a hf
            refine ops_off hf (goffu rfl rfl rfl) rfl rfl ?_; clear hf; clear a; intro a hf
            refine ops_off hf (goff rfl rfl rfl (by first | assumption | rfl | (simp; done) | (simp; omega))) rfl rfl ?_; clear hf; clear a; intro a hf
            refine ops_v hf hh (yv_pick_f rfl (by first | assumption | rfl | (simp; done) | (simp; omega)) rfl) (gon rfl rfl rfl (by first | assumption | rfl | (simp; done) | (simp; omega))) rfl rfl rfl ?_; clear hf; clear a; intro a hf
            refine ops_v hf hh (yv_pick_f rfl (by first | assumption | rfl | (simp; done) | (simp; omega)) rfl) (.inl rfl) rfl rfl rfl ?_; clear hf; clear a; intro a hf
            refine ops_v hf hh (yv_move rfl) (.inl rfl) rfl rfl rfl ?_; clear hf; clear a; intro a hf
            refine ops_v hf hh (yv_move rfl) (gon rfl rfl rfl (by first | assumption | rfl | (simp; done) | (simp; omega))) rfl rfl rfl ?_; clear hf; clear a; intro a hf
            refine ops_v hf hh (yv_bin rfl rfl rfl) (gon rfl rfl rfl (by first | assumption | rfl | (simp; done) | (simp; omega))) rfl rfl rfl ?_; clear hf; clear a; intro a hf
            refine ops_v hf hh (yv_pick_f rfl (by first | assumption | rfl | (simp; done) | (simp; omega)) rfl) (.inl rfl) rfl rfl rfl ?_; clear hf; clear a; intro a hf
            refine ops_v hf hh (yv_move rfl) (.inl rfl) rfl rfl rfl ?_; clear hf; clear a; intro a hf
            refine ops_v hf hh (yv_move rfl) (gon rfl rfl rfl (by first | assumption | rfl | (simp; done) | (simp; omega))) rfl rfl rfl ?_; clear hf; clear a; intro a hf
            refine ops_v hf hh (yv_bin rfl rfl rfl) (gon rfl rfl rfl (by first | assumption | rfl | (simp; done) | (simp; omega))) rfl rfl rfl ?_; clear hf; clear a; intro a hf
            refine ops_v hf hh (yv_pick_f rfl (by first | assumption | rfl | (simp; done) | (simp; omega)) rfl) (.inl rfl) rfl rfl rfl ?_; clear hf; clear a; intro a hf
            refine ops_v hf hh (yv_move rfl) (.inl rfl) rfl rfl rfl ?_; clear hf; clear a; intro a hf
            refine ops_v hf hh (yv_move rfl) (gon rfl rfl rfl (by first | assumption | rfl | (simp; done) | (simp; omega))) rfl rfl rfl ?_; clear hf; clear a; intro a hf
            refine ops_v hf hh (yv_move rfl) (gon rfl rfl rfl (by first | assumption | rfl | (simp; done) | (simp; omega))) rfl rfl rfl ?_; clear hf; clear a; intro a hf
            refine ops_v hf hh (yv_bin rfl rfl rfl) (gon rfl rfl rfl (by first | assumption | rfl | (simp; done) | (simp; omega))) rfl rfl rfl ?_; clear hf; clear a; intro a hf
            refine ops_v hf hh (yv_pick_f rfl (by first | assumption | rfl | (simp; done) | (simp; omega)) rfl) (.inl rfl) rfl rfl rfl ?_; clear hf; clear a; intro a hf
            refine ops_v hf hh (yv_move rfl) (.inl rfl) rfl rfl rfl ?_; clear hf; clear a; intro a hf
            refine ops_v hf hh (yv_move rfl) (gon rfl rfl rfl (by first | assumption | rfl | (simp; done) | (simp; omega))) rfl rfl rfl ?_; clear hf; clear a; intro a hf
            refine ops_v hf hh (yv_bin rfl rfl rfl) (gon rfl rfl rfl (by first | assumption | rfl | (simp; done) | (simp; omega))) rfl rfl rfl ?_; clear hf; clear a; intro a hf
            refine ops_v hf hh (yv_pick_f rfl (by first | assumption | rfl | (simp; done) | (simp; omega)) rfl) (.inl rfl) rfl rfl rfl ?_; clear hf; clear a; intro a hf
            refine ops_v hf hh (yv_move rfl) (.inl rfl) rfl rfl rfl ?_; clear hf; clear a; intro a hf
            refine ops_v hf hh (yv_move rfl) (gon rfl rfl rfl (by first | assumption | rfl | (simp; done) | (simp; omega))) rfl rfl rfl ?_; clear hf; clear a; intro a hf
            refine ops_v hf hh (yv_bin rfl rfl rfl) (gon rfl rfl rfl (by first | assumption | rfl | (simp; done) | (simp; omega))) rfl rfl rfl ?_; clear hf; clear a; intro a hf
            refine ops_v hf hh (yv_pick_f rfl (by first | assumption | rfl | (simp; done) | (simp; omega)) rfl) (.inl rfl) rfl rfl rfl ?_; clear hf; clear a; intro a hf
            refine ops_end ?_
            refine then_n ?_
            refine sy_cf hf rfl (by first | assumption | rfl | (simp; done) | (simp; omega)) ?_
            refine sy_skip ?_
            refine then_n ?_
            refine sy_seq ?_
            refine sy_ops ?_
            refine ops_v hf hh (yv_move rfl) (.inl rfl) rfl rfl rfl ?_; clear hf; clear a; intro a hf
            refine ops_call hf Tryd.en_31 rfl rfl rfl (.inl rfl) rfl (c31n (taken x (bstK x (plansL x).length)) (by omega) _) ?_; clear hf; clear a; intro v a w hR hf
            obtain ⟨rfl, hx⟩ := hR; replace hh := hh.more hx; clear hx
            refine ops_v hf hh (yv_move rfl) (.inl rfl) rfl rfl rfl ?_; clear hf; clear a; intro a hf
            refine ops_call hf Tryd.en_31 rfl rfl rfl (.inl rfl) rfl (c31n (taken b (bstK b (plansL b).length)) (by omega) _) ?_; clear hf; clear a; intro v a w hR hf
            obtain ⟨rfl, hx⟩ := hR; replace hh := hh.more hx; clear hx
            refine ops_v hf hh (yv_bin rfl rfl rfl) (.inl rfl) rfl rfl rfl ?_; clear hf; clear a; intro a hf
            refine ops_v hf hh (yv_move rfl) (.inl rfl) rfl rfl rfl ?_; clear hf; clear a; intro a hf
            refine ops_call hf Tryd.en_12 rfl rfl rfl (gon rfl rfl rfl (by first | assumption | rfl | (simp; done) | (simp; omega))) rfl (c12 _ (hT.ext hh.ext (by simp))) ?_; clear hf; clear a; intro v a w hR hf
            obtain ⟨rfl, hx⟩ := hR; replace hh := hh.more hx; clear hx
            refine ops_v hf hh (yv_pick_t rfl (by first | assumption | rfl | (simp; done) | (simp; omega)) rfl) (.inl rfl) rfl rfl rfl ?_; clear hf; clear a; intro a hf
            refine ops_v hf hh (yv_assign rfl) (.inl rfl) rfl rfl rfl ?_; clear hf; clear a; intro a hf
            refine ops_end ?_
            refine then_n ?_
            refine sy_ret ?_
            refine ret_r hf rfl rfl ?_
            first | exact ⟨rfl, hh.ext⟩ | (exfalso; omega)
theorem c10 (b : BarD) (sa : Option Addr) (sc : Nat) (u : World) (hS : ScAt u sa b.scenes) (hT : GTab u) (n m : Int) (hn : 0 ≤ n ∧ n ≤ 65535) (hm : 0 ≤ m ∧ m ≤ 65535) : Calls Tryd.prog 10 #[barV b sa sc, .int .u16 n, .int .u16 m] u (Ret fun v w' => v = .bool true ∧ Ext [] u w') := by
  obtain ⟨y, rfl⟩ := Int.eq_ofNat_of_zero_le hn.1
  obtain ⟨y2, rfl⟩ := Int.eq_ofNat_of_zero_le hm.1
  cases hok : okBar b
  · exact c10a b sa sc u hS hT y y2 (by omega) (by omega) hok
  · exact c10b b sa sc u hS hT y y2 (by omega) (by omega) hok
end Go.Proofs.YtkolcbjghphjeaaDoor
