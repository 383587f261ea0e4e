/- The program's Best, walked. -/
import Derived.Test.YtkolcbjghphjeaaDoorB12
namespace Go.Proofs.YtkolcbjghphjeaaDoor
open Go Go.Sy Go.BarM
theorem cur_at {cur : Array Value} {L : List (Nat × Nat × Nat)} (h : cur.toList.take (L.length * 3) = encL L) {k : Nat} {y : Nat × Nat × Nat} (hk : L[k]? = some y) :
    cellsAt cur (0 + ((k : Nat) : Int).toNat * 3) 3 = some [.int .i64 y.1, .int .i64 y.2.1, .int .i64 y.2.2] := by
  have hl := (List.getElem?_eq_some_iff.1 hk).1
  have g : ∀ j, j < 3 → cur[k * 3 + j]? = [Value.int .i64 y.1, .int .i64 y.2.1, .int .i64 y.2.2][j]? := fun j hj => by
    rw [← encL_get L k j y hk hj, ← h, List.getElem?_take_of_lt (by omega), Array.getElem?_toList]
  have g0 := g 0 (by omega); have g1 := g 1 (by omega); have g2 := g 2 (by omega)
  rw [Int.toNat_natCast, Nat.zero_add]
  simp only [cellsAt, Nat.add_zero] at *
  rw [g0]; simp only [List.getElem?_cons_zero]
  rw [g1]; simp only [List.getElem?_cons_zero, List.getElem?_cons_succ]
  rw [show k * 3 + 1 + 1 = k * 3 + 2 from rfl, g2]; rfl
abbrev befT (c x : Nat × Nat × Nat) : Bool := befV c.1 c.2.1 c.2.2 x.1 x.2.1 x.2.2
def BestQ (L : List (Nat × Nat × Nat)) (k : Nat) (x : Nat × Nat × Nat) : Prop := x ∈ L ∧ ∀ j y, j < k → L[j]? = some y → befT y x = false
theorem BestQ.keep {L : List (Nat × Nat × Nat)} {k : Nat} {x y : Nat × Nat × Nat} (h : BestQ L k x) (hy : L[k]? = some y) (hb : befT y x = false) : BestQ L (k + 1) x :=
  ⟨h.1, fun j z hj hz => by
    by_cases hjk : j = k
    · subst hjk; rw [hy] at hz; cases hz; exact hb
    · exact h.2 j z (by omega) hz⟩
theorem BestQ.turn {L : List (Nat × Nat × Nat)} {k : Nat} {x y : Nat × Nat × Nat} (h : BestQ L k x) (hy : L[k]? = some y) (hb : befT y x = true) : BestQ L (k + 1) y :=
  ⟨List.mem_of_getElem? hy, fun j z hj hz => by
    by_cases hjk : j = k
    · subst hjk; rw [hy] at hz; cases hz; exact befV_same _ _ _
    · have h1 := h.2 j z (by omega) hz
      unfold befT befV at *
      simp only [decide_eq_true_eq, decide_eq_false_iff_not] at *
      omega⟩
theorem mem_bd {b : BarD} {p : Nat} {s : Scn} (hV : Valid b) (hO : OkS s) (hp : p < 2 ^ b.slots.toNat) {y : Nat × Nat × Nat} (h : y ∈ pairsP b p s) : y.2.1 ≤ y.2.2 ∧ y.2.2 ≤ 62 := by
  obtain ⟨h1, _⟩ := (mem_pairsP hV hO hp y.1 y.2.1 y.2.2).1 h
  have h2 := byB_lt h1
  have h3 : p.testBit y.2.2 = true := by unfold byB at h1; simp only [Bool.and_eq_true] at h1; exact h1.1.1.2
  have h4 := bit_lt hp h3
  have hs1 := hV.s1; have hs2 := hV.s2
  omega
theorem bestQ_best {b : BarD} {p : Nat} {s : Scn} (hV : Valid b) (hO : OkS s) (hp : p < 2 ^ b.slots.toNat) {x : Nat × Nat × Nat} (h : BestQ (pairsP b p s) (pairsP b p s).length x) : best b p s = some (x.2.1, x.2.2) := by
  rw [best_some hp]
  obtain ⟨h1, h2⟩ := (mem_pairsP hV hO hp x.1 x.2.1 x.2.2).1 h.1
  refine ⟨h1, fun l r hb => ?_⟩
  have hm := (mem_pairsP hV hO hp _ l r).2 ⟨hb, rfl⟩
  obtain ⟨j, hj⟩ := List.getElem?_of_mem hm
  have := h.2 j _ (List.getElem?_eq_some_iff.1 hj).1 hj
  unfold befT at this
  rw [h2] at this
  exact this
theorem bestV_nil {b : BarD} {p i : Int} {s : Scn} (h : okBar b = true) (hp : isPlanI b p = true) (h0 : 0 ≤ i) (hs : b.scenes[i.toNat]? = some s) (hx : best b p.toNat s = none) : bestV b p i = .tuple #[.int .i64 0, .int .i64 0, .int .i64 4] := by
  simp [bestV, h, hp, h0, hs, hx]
theorem bestV_one {b : BarD} {p i : Int} {s : Scn} {l r : Nat} (h : okBar b = true) (hp : isPlanI b p = true) (h0 : 0 ≤ i) (hs : b.scenes[i.toNat]? = some s) (hx : best b p.toNat s = some (l, r)) : bestV b p i = .tuple #[.int .i64 l, .int .i64 r, .int .i64 0] := by
  simp [bestV, h, hp, h0, hs, hx]
theorem c15n (b : BarD) (sa : Option Addr) (sc : Nat) (u : World) (hS : ScAt u sa b.scenes) (hb : okBar b = false) (p i : Int) : Calls Tryd.prog 15 #[barV b sa sc, .int .i64 p, .int .i64 i] u (Ret fun v w' => v = bestV b p i ∧ Ext [] u w') := by
  refine calls_of Tryd.func15 rfl rfl (fun a hf => ?_)
  have hh := Hp.init u []
  refine sy_seq ?_
  refine sy_ops ?_
  refine ops_box hf hh rfl (.inl rfl) rfl ?_; clear hf hh; clear a; intro B3 a w hf hh
  refine ops_v hf hh (yv_assign rfl) (.inl rfl) rfl rfl rfl ?_; clear hf; clear a; intro a hf
  refine ops_v hf hh (yv_assign rfl) (.inl rfl) rfl rfl rfl ?_; clear hf; clear a; intro a hf
  refine ops_v hf hh (yv_assign rfl) (.inl rfl) rfl rfl rfl ?_; clear hf; clear a; intro a hf
  refine ops_end ?_
  refine then_n ?_
  refine sy_seq ?_
  refine sy_ops ?_
  refine ops_v hf hh (yv_loads Tryd.ag_24 rfl (fun _ h => by first | exact h.at (i := 0) rfl | exact h.at (i := 1) rfl | exact h.at (i := 2) rfl | exact h.at (i := 3) rfl) (by first | assumption | rfl)) (.inl rfl) rfl rfl rfl ?_; clear hf; clear a; intro a hf
  refine ops_call hf Tryd.en_35 rfl rfl rfl (.inl rfl) rfl (c35n b sa sc _ (hS.ext hh.ext) hb) ?_; clear hf; clear a; intro v a w hR hf
  obtain ⟨rfl, hx⟩ := hR; replace hh := hh.more hx; clear hx
  refine ops_v hf hh (yv_move rfl) (.inl rfl) rfl rfl rfl ?_; clear hf; clear a; intro a hf
  refine ops_v hf hh (yv_extract rfl rfl) (.inl rfl) rfl rfl rfl ?_; clear hf; clear a; intro a hf
  refine ops_v hf hh (yv_extract rfl rfl) (.inl rfl) rfl rfl rfl ?_; clear hf; clear a; intro a hf
  refine ops_v hf hh (yv_assign rfl) (.inl rfl) rfl rfl rfl ?_; clear hf; clear a; intro a hf
  refine ops_v hf hh (yv_assign rfl) (.inl rfl) rfl rfl rfl ?_; clear hf; clear a; intro a hf
  refine ops_end ?_
  refine then_n ?_
  refine sy_seq ?_
  refine sy_block ?_
  refine sy_seq ?_
  refine sy_ops ?_
  refine ops_v hf hh (yv_move rfl) (.inl rfl) rfl rfl rfl ?_; clear hf; clear a; intro a hf
  refine ops_v hf hh (yv_bin rfl rfl rfl) (.inl rfl) rfl rfl rfl ?_; clear hf; clear a; intro a hf
  refine ops_v hf hh (yv_assign rfl) (.inl rfl) rfl rfl rfl ?_; clear hf; clear a; intro a hf
  refine ops_end ?_
  refine then_n ?_
  refine sy_ct hf rfl (by first | assumption | rfl | (simp; done)) ?_
  refine sy_seq ?_
  refine sy_ops ?_
  refine ops_v hf hh (yv_move rfl) (.inl rfl) rfl rfl rfl ?_; clear hf; clear a; intro a hf
  refine ops_v hf hh (yv_assign rfl) (.inl rfl) rfl rfl rfl ?_; clear hf; clear a; intro a hf
  refine ops_v hf hh (yv_assign rfl) (.inl rfl) rfl rfl rfl ?_; clear hf; clear a; intro a hf
  refine ops_v hf hh (yv_assign rfl) (.inl rfl) rfl rfl rfl ?_; clear hf; clear a; intro a hf
  refine ops_end ?_
  refine then_n ?_
  refine sy_ret ?_
  refine blk_r ?_
  refine then_r ?_
  refine ret_r hf rfl rfl ?_
  exact ⟨(bestV_arg hb).symm, hh.ext⟩
theorem c15v (b : BarD) (sa : Option Addr) (sc : Nat) (u : World) (hS : ScAt u sa b.scenes) (hT : GTab u) (hV : Valid b) (p i : Int) (hp1 : p ≤ 9223372036854775807) : Calls Tryd.prog 15 #[barV b sa sc, .int .i64 p, .int .i64 i] u (Ret fun v w' => v = bestV b p i ∧ Ext [] u w') := by
  refine calls_of Tryd.func15 rfl rfl (fun a hf => ?_)
  have hh := Hp.init u []
  have hn := hV.n
  have hm1 : 1 ≤ 2 ^ b.scenes.length := Nat.one_le_two_pow
  have hm2 : 2 ^ b.scenes.length ≤ 2 ^ 10 := Nat.pow_le_pow_right (by omega) hn
  have hs1 := hV.s1; have hs2 := hV.s2
  have hpw := shl_bd hs1 hs2
  have hok : okBar b = true := (okBar_iff b).2 hV
  refine sy_seq ?_
  refine sy_ops ?_
  refine ops_box hf hh rfl (.inl rfl) rfl ?_; clear hf hh; clear a; intro B3 a w hf hh
  refine ops_v hf hh (yv_assign rfl) (.inl rfl) rfl rfl rfl ?_; clear hf; clear a; intro a hf
  refine ops_v hf hh (yv_assign rfl) (.inl rfl) rfl rfl rfl ?_; clear hf; clear a; intro a hf
  refine ops_v hf hh (yv_assign rfl) (.inl rfl) rfl rfl rfl ?_; clear hf; clear a; intro a hf
  refine ops_end ?_
  refine then_n ?_
  refine sy_seq ?_
  refine sy_ops ?_
  refine ops_v hf hh (yv_loads Tryd.ag_24 rfl (fun _ h => by first | exact h.at (i := 0) rfl | exact h.at (i := 1) rfl | exact h.at (i := 2) rfl | exact h.at (i := 3) rfl) (by first | assumption | rfl)) (.inl rfl) rfl rfl rfl ?_; clear hf; clear a; intro a hf
  refine ops_call hf Tryd.en_35 rfl rfl rfl (.inl rfl) rfl (c35 b sa sc _ (hS.ext hh.ext) hV) ?_; clear hf; clear a; intro v a w hR hf
  obtain ⟨bp, bm, cs, rfl, hcs, hx⟩ := hR; replace hh := hh.join hx; clear hx
  refine ops_v hf hh (yv_move rfl) (.inl rfl) rfl rfl rfl ?_; clear hf; clear a; intro a hf
  refine ops_v hf hh (yv_extract rfl rfl) (.inl rfl) rfl rfl rfl ?_; clear hf; clear a; intro a hf
  refine ops_v hf hh (yv_extract rfl rfl) (.inl rfl) rfl rfl rfl ?_; clear hf; clear a; intro a hf
  refine ops_v hf hh (yv_assign rfl) (.inl rfl) rfl rfl rfl ?_; clear hf; clear a; intro a hf
  refine ops_v hf hh (yv_assign rfl) (.inl rfl) rfl rfl rfl ?_; clear hf; clear a; intro a hf
  refine ops_end ?_
  refine then_n ?_
  refine sy_seq ?_
  refine sy_block ?_
  refine sy_seq ?_
  refine sy_ops ?_
  refine ops_v hf hh (yv_move rfl) (.inl rfl) rfl rfl rfl ?_; clear hf; clear a; intro a hf
  refine ops_v hf hh (yv_bin rfl rfl rfl) (.inl rfl) rfl rfl rfl ?_; clear hf; clear a; intro a hf
  refine ops_v hf hh (yv_assign rfl) (.inl rfl) rfl rfl rfl ?_; clear hf; clear a; intro a hf
  refine ops_end ?_
  refine then_n ?_
  refine sy_cf hf rfl (by first | assumption | rfl | (simp; done)) ?_
  refine sy_seq ?_
  refine sy_ops ?_
  refine ops_v hf hh (yv_move rfl) (.inl rfl) rfl rfl rfl ?_; clear hf; clear a; intro a hf
  refine ops_v hf hh (yv_move rfl) (.inl rfl) rfl rfl rfl ?_; clear hf; clear a; intro a hf
  refine ops_call hf Tryd.en_36 rfl rfl rfl (.inl rfl) rfl (c36 b sa sc bp bm p _ hV ⟨cs, hh.at (i := 0) rfl, hcs⟩) ?_; clear hf; clear a; intro v a w hR hf
  obtain ⟨rfl, hx⟩ := hR; replace hh := hh.more hx; clear hx
  refine ops_v hf hh (yv_not rfl) (.inl rfl) rfl rfl rfl ?_; clear hf; clear a; intro a hf
  refine ops_v hf hh (yv_move rfl) (.inl rfl) rfl rfl rfl ?_; clear hf; clear a; intro a hf
  refine guard_split hf (t := 29) rfl (fun hg6 => ?_) (fun hg6 => ?_)
  · have hG6 := hg6; try simp only [gS] at hG6
    refine ops_off hf (goff rfl rfl rfl (by first | assumption | rfl | (simp; done))) rfl rfl ?_; clear hf; clear a; intro a hf
    refine ops_off hf (goff rfl rfl rfl (by first | assumption | rfl | (simp; done))) rfl rfl ?_; clear hf; clear a; intro a hf
    refine ops_off hf (goff rfl rfl rfl (by first | assumption | rfl | (simp; done))) rfl rfl ?_; clear hf; clear a; intro a hf
    refine ops_off hf (goff rfl rfl rfl (by first | assumption | rfl | (simp; done))) rfl rfl ?_; clear hf; clear a; intro a hf
    refine ops_off hf (goff rfl rfl rfl (by first | assumption | rfl | (simp; done))) rfl rfl ?_; clear hf; clear a; intro a hf
    refine ops_off hf (goff rfl rfl rfl (by first | assumption | rfl | (simp; done))) rfl rfl ?_; clear hf; clear a; intro a hf
    refine ops_off hf (goff rfl rfl rfl (by first | assumption | rfl | (simp; done))) rfl rfl ?_; clear hf; clear a; intro a hf
    refine ops_v hf hh (yv_pick_t rfl (by first | assumption | rfl | (simp; done)) rfl) (.inl rfl) rfl rfl rfl ?_; clear hf; clear a; intro a hf
    refine ops_v hf hh (yv_assign rfl) (.inl rfl) rfl rfl rfl ?_; clear hf; clear a; intro a hf
    refine ops_end ?_
    refine then_n ?_
    refine sy_ct hf rfl (by first | assumption | rfl | (simp; done)) ?_
    refine sy_seq ?_
    refine sy_ops ?_
    refine ops_v hf hh (yv_assign rfl) (.inl rfl) rfl rfl rfl ?_; clear hf; clear a; intro a hf
    refine ops_v hf hh (yv_assign rfl) (.inl rfl) rfl rfl rfl ?_; clear hf; clear a; intro a hf
    refine ops_v hf hh (yv_assign rfl) (.inl rfl) rfl rfl rfl ?_; clear hf; clear a; intro a hf
    refine ops_end ?_
    refine then_n ?_
    refine sy_ret ?_
    refine blk_r ?_
    refine then_r ?_
    refine ret_r hf rfl rfl ?_
    first
      | exact ⟨(bestV_plan hok (by assumption)).symm, hh.ext⟩
      | exact ⟨(bestV_scene hok (by assumption) (by omega)).symm, hh.ext⟩
      | (have hz : (pairsP b q s) = [] := List.eq_nil_of_length_eq_zero (by omega)
         exact ⟨(bestV_nil hok hpi hi0 hs (hnil.1 hz)).symm, hh.ext⟩)
      | (have hkk : k = (pairsP b q s).length := by omega
         subst hkk
         exact ⟨(bestV_one hok hpi hi0 hs (bestQ_best hV hO hpl hbq)).symm, hh.ext⟩)
  · have hG6 := hg6; try simp only [gS] at hG6
    refine ops_v hf hh (yv_move rfl) (gon rfl rfl rfl (by first | assumption | rfl | (simp; done))) rfl rfl rfl ?_; clear hf; clear a; intro a hf
    refine ops_v hf hh (yv_fieldAddr Tryd.fo_24_4 rfl) (gon rfl rfl rfl (by first | assumption | rfl | (simp; done))) rfl rfl rfl ?_; clear hf; clear a; intro a hf
    refine ops_v hf hh (yv_load Tryd.sc_22 rfl (fun _ h => by first | exact h.at (i := 0) rfl | exact h.at (i := 1) rfl | exact h.at (i := 2) rfl | exact h.at (i := 3) rfl) (by first | rfl | assumption)) (gon rfl rfl rfl (by first | assumption | rfl | (simp; done))) rfl rfl rfl ?_; clear hf; clear a; intro a hf
    refine ops_v hf hh (yv_len Tryd.se_22 rfl) (gon rfl rfl rfl (by first | assumption | rfl | (simp; done))) rfl rfl rfl ?_; clear hf; clear a; intro a hf
    first | refine ops_v hf hh (yv_sub rfl rfl (by omega) (by omega)) (gon rfl rfl rfl (by first | assumption | rfl | (simp; done))) rfl rfl rfl ?_; clear hf; clear a; intro a hf | refine ops_v hf hh (yv_bin rfl rfl rfl) (gon rfl rfl rfl (by first | assumption | rfl | (simp; done))) rfl rfl rfl ?_; clear hf; clear a; intro a hf
    refine ops_call hf Tryd.en_40 rfl rfl rfl (gon rfl rfl rfl (by first | assumption | rfl | (simp; done))) rfl (c40 _ _ _ _) ?_; clear hf; clear a; intro v a w hR hf
    obtain ⟨rfl, hx⟩ := hR; replace hh := hh.more hx; clear hx
    refine ops_v hf hh (yv_not rfl) (gon rfl rfl rfl (by first | assumption | rfl | (simp; done))) rfl rfl rfl ?_; clear hf; clear a; intro a hf
    refine ops_v hf hh (yv_pick_f rfl (by first | assumption | rfl | (simp; done)) rfl) (.inl rfl) rfl rfl rfl ?_; clear hf; clear a; intro a hf
    refine ops_v hf hh (yv_assign rfl) (.inl rfl) rfl rfl rfl ?_; clear hf; clear a; intro a hf
    refine ops_end ?_
    refine then_n ?_
    refine sy_cond hf rfl (fun hg8 => ?_) (fun hg8 => ?_)
    · have hG8 := hg8; try simp only [gS] at hG8
      refine sy_seq ?_
      refine sy_ops ?_
      refine ops_v hf hh (yv_assign rfl) (.inl rfl) rfl rfl rfl ?_; clear hf; clear a; intro a hf
      refine ops_v hf hh (yv_assign rfl) (.inl rfl) rfl rfl rfl ?_; clear hf; clear a; intro a hf
      refine ops_v hf hh (yv_assign rfl) (.inl rfl) rfl rfl rfl ?_; clear hf; clear a; intro a hf
      refine ops_end ?_
      refine then_n ?_
      refine sy_ret ?_
      refine blk_r ?_
      refine then_r ?_
      refine ret_r hf rfl rfl ?_
      first
        | exact ⟨(bestV_plan hok (by assumption)).symm, hh.ext⟩
        | exact ⟨(bestV_scene hok (by assumption) (by omega)).symm, hh.ext⟩
        | (have hz : (pairsP b q s) = [] := List.eq_nil_of_length_eq_zero (by omega)
           exact ⟨(bestV_nil hok hpi hi0 hs (hnil.1 hz)).symm, hh.ext⟩)
        | (have hkk : k = (pairsP b q s).length := by omega
           subst hkk
           exact ⟨(bestV_one hok hpi hi0 hs (bestQ_best hV hO hpl hbq)).symm, hh.ext⟩)
    · have hG8 := hg8; try simp only [gS] at hG8
      refine sy_skip ?_
      refine blk_n ?_
      refine then_n ?_
      refine sy_seq ?_
      have hpi : isPlanI b p = true := by first | assumption | (simp_all; done)
      have hp0 : 0 ≤ p := isPlanI_nn hpi
      have hpi2 : isPlan b p.toNat = true := by unfold isPlanI at hpi; simp [hp0] at hpi; exact hpi
      have hpl := ((isPlan_land b p.toNat).1 hpi2).1
      have hi0 : 0 ≤ i := by omega
      obtain ⟨q, rfl⟩ := Int.eq_ofNat_of_zero_le hp0
      obtain ⟨ix, rfl⟩ := Int.eq_ofNat_of_zero_le hi0
      rw [Int.toNat_natCast] at hpl
      obtain ⟨s, hs⟩ := scn_of (l := b.scenes) (i := ix) (by omega)
      have hO := hV.sc s (List.mem_of_getElem? hs)
      have hlen := pairsP_len (p := q) hV hO
      have hmb := fun (y : Nat × Nat × Nat) => @mem_bd b q s hV hO hpl y
      have hnil := pairsP_nil hV hO hpl
      refine sy_ops ?_
      refine ops_v hf hh (yv_move rfl) (.inl rfl) rfl rfl rfl ?_; clear hf; clear a; intro a hf
      refine ops_v hf hh (yv_move rfl) (.inl rfl) rfl rfl rfl ?_; clear hf; clear a; intro a hf
      first | refine ops_v hf hh (yv_convx (.inr rfl) (by kernel_rfl) Tryd.un_56 rfl (by omega) (by simp only [IntKind.top]; omega)) (.inl rfl) rfl rfl rfl ?_; clear hf; clear a; intro a hf | refine ops_v hf hh (yv_conv (by kernel_rfl) Tryd.un_56 rfl) (.inl rfl) rfl rfl rfl ?_; clear hf; clear a; intro a hf
      refine ops_v hf hh (yv_move rfl) (.inl rfl) rfl rfl rfl ?_; clear hf; clear a; intro a hf
      refine ops_call hf Tryd.en_42 rfl rfl rfl (.inl rfl) rfl (c42 bp q ix _) ?_; clear hf; clear a; intro v a w hR hf
      obtain ⟨Ba, Bi, Bp, rfl, hx⟩ := hR; replace hh := hh.join hx; clear hx
      refine ops_call hf Tryd.en_41 rfl rfl rfl (.inl rfl) rfl (c41 b sa sc bp bm q ix Ba Bi Bp s _ hV hs (by omega) ⟨hh.at (i := 2) rfl, hh.at (i := 0) rfl, hh.at (i := 1) rfl, ⟨cs, hh.at (i := 3) rfl, hcs⟩, hS.ext hh.ext, hT.ext hh.ext (by simp)⟩) ?_; clear hf; clear a; intro v a w hR hf
      obtain ⟨X, hown, hx⟩ := hR; replace hh := (hh.join hx).less (List.sublist_append_left _ _); clear hx
      obtain ⟨oa, cap, rfl⟩ := OwnSl.form hown
      refine ops_v hf hh (yv_assign rfl) (.inl rfl) rfl rfl rfl ?_; clear hf; clear a; intro a hf
      refine ops_end ?_
      refine then_n ?_
      refine sy_seq ?_
      refine sy_seq ?_
      refine sy_ops ?_
      refine ops_v hf hh (yv_move rfl) (.inl rfl) rfl rfl rfl ?_; clear hf; clear a; intro a hf
      refine ops_v hf hh (yv_len Tryd.se_59 rfl) (.inl rfl) rfl rfl rfl ?_; clear hf; clear a; intro a hf
      refine ops_v hf hh (yv_bin rfl rfl rfl) (.inl rfl) rfl rfl rfl ?_; clear hf; clear a; intro a hf
      refine ops_end ?_
      refine then_n ?_
      refine sy_cond hf rfl (fun hg12 => ?_) (fun hg12 => ?_)
      · have hG12 := hg12; try simp only [gS] at hG12
        refine sy_seq ?_
        refine sy_ops ?_
        refine ops_v hf hh (yv_assign rfl) (.inl rfl) rfl rfl rfl ?_; clear hf; clear a; intro a hf
        refine ops_v hf hh (yv_assign rfl) (.inl rfl) rfl rfl rfl ?_; clear hf; clear a; intro a hf
        refine ops_v hf hh (yv_assign rfl) (.inl rfl) rfl rfl rfl ?_; clear hf; clear a; intro a hf
        refine ops_end ?_
        refine then_n ?_
        refine sy_ret ?_
        refine then_r ?_
        refine ret_r hf rfl rfl ?_
        first
          | exact ⟨(bestV_plan hok (by assumption)).symm, hh.ext⟩
          | exact ⟨(bestV_scene hok (by assumption) (by omega)).symm, hh.ext⟩
          | (have hz : (pairsP b q s) = [] := List.eq_nil_of_length_eq_zero (by omega)
             exact ⟨(bestV_nil hok hpi hi0 hs (hnil.1 hz)).symm, hh.ext⟩)
          | (have hkk : k = (pairsP b q s).length := by omega
             subst hkk
             exact ⟨(bestV_one hok hpi hi0 hs (bestQ_best hV hO hpl hbq)).symm, hh.ext⟩)
      · have hG12 := hg12; try simp only [gS] at hG12
        refine sy_skip ?_
        refine then_n ?_
        refine sy_seq ?_
        obtain ⟨Bl, cur, rfl, rfl, hcap, hcur1, hcur2⟩ : ∃ Bl cur, oa = some ⟨Bl, 0, none⟩ ∧ X = [(Bl, .cells cur 62 (0, 0))] ∧ (pairsP b q s).length ≤ cap ∧ cur.size = cap * 3 ∧ cur.toList.take ((pairsP b q s).length * 3) = encL (pairsP b q s) := by
          rcases hown.2 with ⟨_, h0, _⟩ | ⟨Bl, cap2, cur, e, e2, h3, h4, h5, h6⟩
          · omega
          · cases e; exact ⟨Bl, cur, rfl, e2, h3, h5, h6⟩
        obtain ⟨y0, hy0⟩ : ∃ y, (pairsP b q s)[0]? = some y := ⟨(pairsP b q s)[0]'(by omega), List.getElem?_eq_getElem _⟩
        have hcd := cur_at hcur2 hy0
        refine sy_ops ?_
        refine ops_v hf hh (yv_move rfl) (.inl rfl) rfl rfl rfl ?_; clear hf; clear a; intro a hf
        refine ops_v hf hh (yv_indexAddr Tryd.se_59 rfl rfl (by omega) (by omega)) (.inl rfl) rfl rfl rfl ?_; clear hf; clear a; intro a hf
        refine ops_v hf hh (yv_loads Tryd.ag_62 rfl (fun _ h => by first | exact h.at (i := 0) rfl | exact h.at (i := 1) rfl | exact h.at (i := 2) rfl | exact h.at (i := 3) rfl) (by first | assumption | rfl)) (.inl rfl) rfl rfl rfl ?_; clear hf; clear a; intro a hf
        refine ops_alloc hf hh Tryd.ze_62 (.inl rfl) rfl ?_; clear hf hh; clear a; intro B11 a w hf hh
        first | refine ops_store (i := 0) hf hh rfl rfl rfl Tryd.sz_62 rfl rfl rfl (.inl rfl) fun w hh => ?_ | refine ops_store (i := 1) hf hh rfl rfl rfl Tryd.sz_62 rfl rfl rfl (.inl rfl) fun w hh => ?_ | refine ops_store (i := 2) hf hh rfl rfl rfl Tryd.sz_62 rfl rfl rfl (.inl rfl) fun w hh => ?_ | refine ops_store (i := 3) hf hh rfl rfl rfl Tryd.sz_62 rfl rfl rfl (.inl rfl) fun w hh => ?_
        refine ops_end ?_
        refine then_n ?_
        refine sy_seq ?_
        refine sy_seq ?_
        refine sy_ops ?_
        refine ops_v hf hh (yv_move rfl) (.inl rfl) rfl rfl rfl ?_; clear hf; clear a; intro a hf
        refine ops_v hf hh (yv_len Tryd.se_59 rfl) (.inl rfl) rfl rfl rfl ?_; clear hf; clear a; intro a hf
        refine ops_v hf hh (yv_move rfl) (.inl rfl) rfl rfl rfl ?_; clear hf; clear a; intro a hf
        refine ops_end ?_
        refine then_n ?_
        refine sy_block ?_
        refine sy_loopH (σ := Nat) [13, 14, 52, 53, 54, 55, 56, 57, 58, 59, 60, 61, 62] (fun k => [(52, .int .i64 k)]) (fun k => fun w' => k ≤ (pairsP b q s).length ∧ ∃ x, BestQ (pairsP b q s) k x ∧ Hp u [] [(B11, .cells #[.int .i64 x.1, .int .i64 x.2.1, .int .i64 x.2.2] 62), (Bl, .cells cur 62)] w') (fun k => (pairsP b q s).length - k) (0) hf ?_ ?_ ?_
        · repeat' (first | exact True.intro | refine And.intro rfl ?_)
        · exact ⟨by omega, y0, ⟨List.mem_of_getElem? hy0, fun j z hj => absurd hj (Nat.not_lt_zero _)⟩, hh⟩
        · rintro k a w ⟨hk, x, hbq, hh⟩ hf
          refine sy_seq ?_
          refine sy_ops ?_
          refine ops_v hf hh (yv_bin rfl rfl rfl) (.inl rfl) rfl rfl rfl ?_; clear hf; clear a; intro a hf
          refine ops_end ?_
          refine then_n ?_
          refine sy_seq ?_
          refine sy_cond hf rfl (fun hg14 => ?_) (fun hg14 => ?_)
          · have hG14 := hg14; try simp only [gS] at hG14
            refine sy_skip ?_
            refine then_n ?_
            refine sy_seq ?_
            refine sy_block ?_
            refine sy_seq ?_
            obtain ⟨y, hy⟩ : ∃ y, (pairsP b q s)[k]? = some y := ⟨(pairsP b q s)[k]'(by omega), List.getElem?_eq_getElem _⟩
            have hcd2 := cur_at hcur2 hy
            have hb1 := hmb y (List.mem_of_getElem? hy)
            have hb2 := hmb x hbq.1
            refine sy_ops ?_
            refine ops_v hf hh (yv_indexAddr Tryd.se_59 rfl rfl (by omega) (by omega)) (.inl rfl) rfl rfl rfl ?_; clear hf; clear a; intro a hf
            refine ops_v hf hh (yv_loads Tryd.ag_62 rfl (fun _ h => by first | exact h.at (i := 0) rfl | exact h.at (i := 1) rfl | exact h.at (i := 2) rfl | exact h.at (i := 3) rfl) (by first | assumption | rfl)) (.inl rfl) rfl rfl rfl ?_; clear hf; clear a; intro a hf
            refine ops_alloc hf hh Tryd.ze_62 (.inl rfl) rfl ?_; clear hf hh; clear a; intro B13 a w hf hh
            first | refine ops_store (i := 0) hf hh rfl rfl rfl Tryd.sz_62 rfl rfl rfl (.inl rfl) fun w hh => ?_ | refine ops_store (i := 1) hf hh rfl rfl rfl Tryd.sz_62 rfl rfl rfl (.inl rfl) fun w hh => ?_ | refine ops_store (i := 2) hf hh rfl rfl rfl Tryd.sz_62 rfl rfl rfl (.inl rfl) fun w hh => ?_ | refine ops_store (i := 3) hf hh rfl rfl rfl Tryd.sz_62 rfl rfl rfl (.inl rfl) fun w hh => ?_
            refine ops_end ?_
            refine then_n ?_
            refine sy_seq ?_
            refine sy_ops ?_
            refine ops_v hf hh (yv_loads Tryd.ag_62 rfl (fun _ h => by first | exact h.at (i := 0) rfl | exact h.at (i := 1) rfl | exact h.at (i := 2) rfl | exact h.at (i := 3) rfl) (by first | assumption | rfl)) (.inl rfl) rfl rfl rfl ?_; clear hf; clear a; intro a hf
            refine ops_v hf hh (yv_makeFunc rfl rfl) (.inl rfl) rfl rfl rfl ?_; clear hf; clear a; intro a hf
            refine ops_v hf hh (yv_assign rfl) (.inl rfl) rfl rfl rfl ?_; clear hf; clear a; intro a hf
            refine ops_end ?_
            refine then_n ?_
            refine sy_seq ?_
            refine sy_ops ?_
            refine ops_v hf hh (yv_move rfl) (.inl rfl) rfl rfl rfl ?_; clear hf; clear a; intro a hf
            refine ops_v hf hh (yv_loads Tryd.ag_62 rfl (fun _ h => by first | exact h.at (i := 0) rfl | exact h.at (i := 1) rfl | exact h.at (i := 2) rfl | exact h.at (i := 3) rfl) (by first | assumption | rfl)) (.inl rfl) rfl rfl rfl ?_; clear hf; clear a; intro a hf
            refine ops_call hf Tryd.en_43 rfl rfl rfl (.inl rfl) rfl (c43 _ _ _ _ _ _ _ (by omega) (by omega) (by omega) (by omega) (by omega) (by omega)) ?_; clear hf; clear a; intro v a w hR hf
            obtain ⟨rfl, hx⟩ := hR; replace hh := hh.more hx; clear hx
            refine ops_end ?_
            refine then_n ?_
            refine sy_cond hf rfl (fun hg16 => ?_) (fun hg16 => ?_)
            · have hG16 := hg16; try simp only [gS] at hG16
              refine sy_ops ?_
              refine ops_v hf hh (yv_loads Tryd.ag_62 rfl (fun _ h => by first | exact h.at (i := 0) rfl | exact h.at (i := 1) rfl | exact h.at (i := 2) rfl | exact h.at (i := 3) rfl) (by first | assumption | rfl)) (.inl rfl) rfl rfl rfl ?_; clear hf; clear a; intro a hf
              first | refine ops_store (i := 0) hf hh rfl rfl rfl Tryd.sz_62 rfl rfl rfl (.inl rfl) fun w hh => ?_ | refine ops_store (i := 1) hf hh rfl rfl rfl Tryd.sz_62 rfl rfl rfl (.inl rfl) fun w hh => ?_ | refine ops_store (i := 2) hf hh rfl rfl rfl Tryd.sz_62 rfl rfl rfl (.inl rfl) fun w hh => ?_ | refine ops_store (i := 3) hf hh rfl rfl rfl Tryd.sz_62 rfl rfl rfl (.inl rfl) fun w hh => ?_
              refine ops_end ?_
              refine blk_n ?_
              refine then_n ?_
              refine sy_ops ?_
              first | refine ops_v hf hh (yv_add rfl rfl (by omega) (by omega)) (.inl rfl) rfl rfl rfl ?_; clear hf; clear a; intro a hf | refine ops_v hf hh (yv_bin rfl rfl rfl) (.inl rfl) rfl rfl rfl ?_; clear hf; clear a; intro a hf
              refine ops_v hf hh (yv_move rfl) (.inl rfl) rfl rfl rfl ?_; clear hf; clear a; intro a hf
              refine ops_end ?_
              refine then_n ?_
              first
                | exact ⟨k + 1, ⟨⟨by omega, y, hbq.turn hy (by assumption), hh.less (.cons _ (List.Sublist.refl _))⟩, hf.head ⟨rfl, True.intro⟩ (Keep.cons rfl (Keep.cons rfl (Keep.cons rfl (Keep.cons rfl (Keep.cons rfl (Keep.cons rfl (Keep.cons rfl (Keep.cons rfl (Keep.cons rfl (Keep.cons rfl (Keep.cons rfl (Keep.cons rfl (Keep.cons rfl (Keep.app rfl (Keep.rm rfl Keep.base)))))))))))))))⟩, by omega⟩
                | exact ⟨k + 1, ⟨⟨by omega, x, hbq.keep hy (by assumption), hh.less (.cons _ (List.Sublist.refl _))⟩, hf.head ⟨rfl, True.intro⟩ (Keep.cons rfl (Keep.cons rfl (Keep.cons rfl (Keep.cons rfl (Keep.cons rfl (Keep.cons rfl (Keep.cons rfl (Keep.cons rfl (Keep.cons rfl (Keep.cons rfl (Keep.cons rfl (Keep.cons rfl (Keep.cons rfl (Keep.app rfl (Keep.rm rfl Keep.base)))))))))))))))⟩, by omega⟩
            · have hG16 := hg16; try simp only [gS] at hG16
              refine sy_skip ?_
              refine blk_n ?_
              refine then_n ?_
              refine sy_ops ?_
              first | refine ops_v hf hh (yv_add rfl rfl (by omega) (by omega)) (.inl rfl) rfl rfl rfl ?_; clear hf; clear a; intro a hf | refine ops_v hf hh (yv_bin rfl rfl rfl) (.inl rfl) rfl rfl rfl ?_; clear hf; clear a; intro a hf
              refine ops_v hf hh (yv_move rfl) (.inl rfl) rfl rfl rfl ?_; clear hf; clear a; intro a hf
              refine ops_end ?_
              refine then_n ?_
              first
                | exact ⟨k + 1, ⟨⟨by omega, y, hbq.turn hy (by assumption), hh.less (.cons _ (List.Sublist.refl _))⟩, hf.head ⟨rfl, True.intro⟩ (Keep.cons rfl (Keep.cons rfl (Keep.cons rfl (Keep.cons rfl (Keep.cons rfl (Keep.cons rfl (Keep.cons rfl (Keep.cons rfl (Keep.cons rfl (Keep.cons rfl (Keep.cons rfl (Keep.cons rfl (Keep.app rfl (Keep.rm rfl Keep.base))))))))))))))⟩, by omega⟩
                | exact ⟨k + 1, ⟨⟨by omega, x, hbq.keep hy (by assumption), hh.less (.cons _ (List.Sublist.refl _))⟩, hf.head ⟨rfl, True.intro⟩ (Keep.cons rfl (Keep.cons rfl (Keep.cons rfl (Keep.cons rfl (Keep.cons rfl (Keep.cons rfl (Keep.cons rfl (Keep.cons rfl (Keep.cons rfl (Keep.cons rfl (Keep.cons rfl (Keep.cons rfl (Keep.app rfl (Keep.rm rfl Keep.base))))))))))))))⟩, by omega⟩
          · have hG14 := hg14; try simp only [gS] at hG14
            refine sy_exit ?_
            refine then_e ?_
            refine then_e ?_
            refine blk_e ?_
            refine then_n ?_
            refine sy_seq ?_
            refine sy_quiet (C := Hp _ _ _) Tryd.follows (by kernel_rfl) (hh.drawn _) ?_
            refine q_v hf (yv_fieldAddr Tryd.fo_62_1 rfl) (.inl rfl) rfl rfl ?_; clear hf; clear a; intro a hf
            refine q_v hf (yv_load Tryd.sc_3 rfl (fun _ h => by first | exact h.at (i := 0) rfl | exact h.at (i := 1) rfl | exact h.at (i := 2) rfl | exact h.at (i := 3) rfl) (by first | rfl | assumption)) (.inl rfl) rfl rfl ?_; clear hf; clear a; intro a hf
            refine q_v hf (yv_fieldAddr Tryd.fo_62_2 rfl) (.inl rfl) rfl rfl ?_; clear hf; clear a; intro a hf
            refine q_v hf (yv_load Tryd.sc_3 rfl (fun _ h => by first | exact h.at (i := 0) rfl | exact h.at (i := 1) rfl | exact h.at (i := 2) rfl | exact h.at (i := 3) rfl) (by first | rfl | assumption)) (.inl rfl) rfl rfl ?_; clear hf; clear a; intro a hf
            refine q_v hf (yv_assign rfl) (.inl rfl) rfl rfl ?_; clear hf; clear a; intro a hf
            refine q_v hf (yv_assign rfl) (.inl rfl) rfl rfl ?_; clear hf; clear a; intro a hf
            refine q_v hf (yv_assign rfl) (.inl rfl) rfl rfl ?_; clear hf; clear a; intro a hf
            refine q_end fun w hh => ?_
            refine then_n ?_
            refine sy_ret ?_
            refine ret_r hf rfl rfl ?_
            first
              | exact ⟨(bestV_plan hok (by assumption)).symm, hh.ext⟩
              | exact ⟨(bestV_scene hok (by assumption) (by omega)).symm, hh.ext⟩
              | (have hz : (pairsP b q s) = [] := List.eq_nil_of_length_eq_zero (by omega)
                 exact ⟨(bestV_nil hok hpi hi0 hs (hnil.1 hz)).symm, hh.ext⟩)
              | (have hkk : k = (pairsP b q s).length := by omega
                 subst hkk
                 exact ⟨(bestV_one hok hpi hi0 hs (bestQ_best hV hO hpl hbq)).symm, hh.ext⟩)
end Go.Proofs.YtkolcbjghphjeaaDoor
