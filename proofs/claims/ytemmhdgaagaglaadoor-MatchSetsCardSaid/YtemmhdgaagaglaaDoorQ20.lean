/- Lemmas, in order: Integers in memory that are made and turned one by one. The reference's Can, walked. The reference's Sure and Hides, walked. MatchSets, walked.. -/
import Derived.Test.YtemmhdgaagaglaaDoorQ19
namespace Go.MatM
open Go Go.Sy Go.Proofs Go.RowKit
theorem made_grid (n : Nat) : Grid n 1 (fun _ _ => 0) (madeCells (Value.int .i64 0).cells (n * 1)) := by
  refine ⟨by simp [madeCells], fun i k hi hk => ?_⟩
  have hk0 : k = 0 := by omega
  subst hk0
  unfold madeCells
  rw [Array.getElem?_map, Array.getElem?_range, if_pos (by omega)]
  have e : (Value.int .i64 0).cells = #[.int .i64 0] := rfl
  rw [e]
  simp [Nat.mod_one]
theorem grid_one {n i : Nat} {G : Nat → Nat → Int} {cs : Array Value} (h : Grid n 1 G cs) (hi : i < n) : cs[0 + ((i : Nat) : Int).toNat * 1]? = some (.int .i64 (G i 0)) := by
  have := h.get i 0 hi (by omega)
  rw [Int.toNat_natCast, Nat.zero_add]; exact this
theorem pair_cells {cs : Array Value} {off : Nat} {c : List Pr} {j : Nat} {p : Pr} (hp : c[j]? = some p) (hcx : ∀ j v, (encP c)[j]? = some v → cs[off + j]? = some v) : cellsAt cs (off + ((j : Nat) : Int).toNat * 2) 2 = some [.int .i64 (p.1 : Int), .int .i64 (p.2 : Int)] := by
  obtain ⟨g1, g2⟩ := encP_get c j p hp
  rw [Int.toNat_natCast]
  refine cellsAt_of [.int .i64 (p.1 : Int), .int .i64 (p.2 : Int)] _ fun k v hk => ?_
  match k, hk with
  | 0, hk => cases hk; exact hcx _ _ g1
  | 1, hk => cases hk; exact hcx _ _ g2
theorem grid_vals {w : World} {B n : Nat} {G : Nat → Nat → Int} {cs : Array Value} {T : TypeId} {fr : Nat × Nat} (h : Grid n 1 G cs) (hb : w.heap[B]? = some (.cells cs T fr)) {f : Nat → Int} (e : ∀ i, i < n → G i 0 = f i) : ValsAt w (some ⟨B, 0, none⟩) (ivs ((List.range n).map f)) :=
  .inr ⟨B, 0, cs, T, fr, rfl, hb, fun j v hj => by
    have hjn : j < n := by have := (List.getElem?_eq_some_iff.1 hj).1; simpa using this
    have := h.get j 0 hjn (by omega)
    rw [Nat.mul_one, Nat.add_zero, e j hjn] at this
    rw [Nat.zero_add, this]
    unfold ivs at hj
    rw [List.map_map, List.getElem?_map, List.getElem?_range hjn] at hj
    exact hj⟩
end Go.MatM
namespace Go.Proofs.YtemmhdgaagaglaaDoor
open Go Go.Sy Go.MatM
theorem c91 (n : Nat) (hn : n ≤ 60) (u : World) : Calls Tryd.prog 91 #[.int .i64 (n : Nat)] u (Ret fun v w' => v = .int .i64 ((2 ^ n : Nat) : Int) ∧ Ext [] u w') := by
  refine calls_of Tryd.func91 rfl rfl (fun a hf => ?_)
  have hh := Hp.init u []
  refine sy_sq ?_
  refine o_v hf hh (yv_assign rfl) ?_; clear hf a; intro a hf
  refine o_end ?_
  refine sy_sq ?_
  refine o_v hf hh (yv_assign rfl) ?_; clear hf a; intro a hf
  refine o_end ?_
  refine sy_seq ?_
  refine sy_sq ?_
  refine o_v hf hh (yv_assign rfl) ?_; clear hf a; intro a hf
  refine o_end ?_
  refine sy_block ?_
  refine sy_loopF (σ := Nat) [3, 4, 5, 6, 7, 8, 9, 10, 11] (fun i => [(4, .int .i64 (i : Nat)), (3, .int .i64 ((2 ^ i : Nat) : Int))]) (fun i => i ≤ n) (fun i => n - i) (0) hf hh ?_ ?_ ?_
  · repeat' (first | exact True.intro | refine And.intro rfl ?_)
  · exact Nat.zero_le _
  ·rintro i a w hi hf hh
   refine sy_seq ?_
   refine sy_sq ?_
   refine o_v hf hh (yv_move rfl) ?_; clear hf a; intro a hf
   refine o_v hf hh (yv_move rfl) ?_; clear hf a; intro a hf
   refine o_v hf hh (yv_bin rfl rfl rfl) ?_; clear hf a; intro a hf
   refine o_end ?_
   refine sy_cond hf rfl (fun hg2 => ?_) (fun hg2 => ?_)
   ·have hG2 := hg2; try simp only [gS] at hG2
    refine sy_skip ?_
    refine then_n ?_
    refine sy_seq ?_
    refine sy_block ?_
    have hz2 : 2 ^ (i + 1) = 2 * 2 ^ i := by rw [Nat.pow_succ]; omega
    have hzb : 2 ^ i ≤ 2 ^ 60 := Nat.pow_le_pow_right (by decide) (by omega)
    obtain ⟨z, hz⟩ : ∃ z : Nat, z = 2 ^ i := ⟨_, rfl⟩
    rw [← hz] at hf hz2 hzb
    refine sy_ops ?_
    refine o_v hf hh (yv_move rfl) ?_; clear hf a; intro a hf
    refine ops_v hf hh (yv_cast (yv_mul rfl rfl (by omega) (by omega)) (intv (b := ((2 ^ (i + 1) : Nat) : Int)) (by rw [hz2]; omega))) (.inl rfl) rfl rfl rfl ?_; clear hf a; intro a hf
    refine o_v hf hh (yv_assign rfl) ?_; clear hf a; intro a hf
    refine ops_end ?_
    refine blk_n ?_
    refine then_n ?_
    refine sy_ops ?_
    refine o_v hf hh (yv_move rfl) ?_; clear hf a; intro a hf
    refine o_v hf hh (y_add rfl rfl) ?_; clear hf a; intro a hf
    refine o_v hf hh (yv_assign rfl) ?_; clear hf a; intro a hf
    refine ops_end ?_
    refine then_n ?_
    exact ⟨i + 1, ⟨by omega, (hf.head (by repeat' (first | exact True.intro | refine And.intro rfl ?_)) (Keep.cons rfl (Keep.cons rfl (Keep.cons rfl (Keep.cons rfl (Keep.cons rfl (Keep.cons rfl (Keep.cons rfl (Keep.cons rfl (Keep.cons rfl (Keep.app rfl (Keep.rm rfl Keep.base)))))))))))), hh⟩, by omega⟩
   ·have hG2 := hg2; try simp only [gS] at hG2
    refine sy_exit ?_
    refine then_e ?_
    refine then_e ?_
    refine blk_e ?_
    refine then_n ?_
    refine sy_sq ?_
    refine o_v hf hh (yv_move rfl) ?_; clear hf a; intro a hf
    refine o_v hf hh (yv_assign rfl) ?_; clear hf a; intro a hf
    refine o_end ?_
    refine sy_ret ?_
    refine ret_r hf rfl rfl ?_
    rw [show n = i by omega]
    exact ⟨rfl, hh.ext⟩
theorem c71 (s n : Nat) (hs : s ≤ 2305843009213693952) (hn : n ≤ 60) (u : World) : Calls Tryd.prog 71 #[.int .i64 (s : Nat), .int .i64 (n : Nat)] u (Ret fun v w' => v = .bool (s.testBit n) ∧ Ext [] u w') := by
  refine calls_of Tryd.func71 rfl rfl (fun a hf => ?_)
  have hh := Hp.init u []
  have hz0 : 0 < 2 ^ n := Nat.two_pow_pos _
  have hy : ∀ y z : Nat, 0 < z → 0 ≤ (y : Int) ∧ 1 ≤ (z : Int) := fun y z h => ⟨Int.natCast_nonneg _, by omega⟩
  refine sy_sq ?_
  refine o_v hf hh (yv_assign rfl) ?_; clear hf a; intro a hf
  refine o_end ?_
  refine sy_sq ?_
  refine o_v hf hh (yv_move rfl) ?_; clear hf a; intro a hf
  refine o_v hf hh (yv_move rfl) ?_; clear hf a; intro a hf
  refine o_call hf Tryd.en_91 rfl rfl rfl (c91 n hn _) ?_; clear hf a; intro v a w hR hf
  obtain ⟨rfl, hx⟩ := hR; replace hh := hh.more hx; clear hx
  refine ops_v hf hh (yv_cast (yv_quo rfl rfl (hy s _ hz0).1 (hy s _ hz0).2 (by omega)) (intv (b := ((s / 2 ^ n : Nat) : Int)) rfl)) (.inl rfl) rfl rfl rfl ?_; clear hf a; intro a hf
  refine ops_v hf hh (yv_cast (yv_rem rfl rfl (Int.natCast_nonneg _) (by omega)) (intv (b := ((s / 2 ^ n % 2 : Nat) : Int)) rfl)) (.inl rfl) rfl rfl rfl ?_; clear hf a; intro a hf
  refine o_v hf hh (yv_cast (yv_bin rfl rfl rfl) (congrArg Value.bool (has_bit s n))) ?_; clear hf a; intro a hf
  refine o_v hf hh (yv_assign rfl) ?_; clear hf a; intro a hf
  refine o_end ?_
  refine sy_ret ?_
  refine ret_r hf rfl rfl ?_
  exact ⟨rfl, hh.ext⟩
theorem c66 (s n : Nat) (hs : s ≤ 1152921504606846976) (hn : n ≤ 60) (u : World) : Calls Tryd.prog 66 #[.int .i64 (s : Nat), .int .i64 (n : Nat)] u (Ret fun v w' => v = .int .i64 ((s ||| 2 ^ n : Nat) : Int) ∧ Ext [] u w') := by
  refine calls_of Tryd.func66 rfl rfl (fun a hf => ?_)
  have hh := Hp.init u []
  refine sy_sq ?_
  refine o_v hf hh (yv_assign rfl) ?_; clear hf a; intro a hf
  refine o_end ?_
  refine sy_seq ?_
  refine sy_sq ?_
  refine o_v hf hh (yv_move rfl) ?_; clear hf a; intro a hf
  refine o_v hf hh (yv_move rfl) ?_; clear hf a; intro a hf
  refine o_call hf Tryd.en_71 rfl rfl rfl (c71 s n (by omega) hn _) ?_; clear hf a; intro v a w hR hf
  obtain ⟨rfl, hx⟩ := hR; replace hh := hh.more hx; clear hx
  refine o_end ?_
  refine sy_cond hf rfl (fun hg2 => ?_) (fun hg2 => ?_)
  ·have hG2 := hg2; try simp only [gS] at hG2
   refine sy_sq ?_
   refine o_v hf hh (yv_move rfl) ?_; clear hf a; intro a hf
   refine o_v hf hh (yv_assign rfl) ?_; clear hf a; intro a hf
   refine o_end ?_
   refine sy_ret ?_
   refine then_r ?_
   refine ret_r hf rfl rfl ?_
   rw [or_same (by assumption)]
   exact ⟨rfl, hh.ext⟩
  ·have hG2 := hg2; try simp only [gS] at hG2
   refine sy_skip ?_
   refine then_n ?_
   refine sy_seq ?_
   have hz : ∀ z : Nat, z ≤ 2 ^ 60 → -9223372036854775808 ≤ (s : Int) + (z : Int) ∧ (s : Int) + (z : Int) ≤ 9223372036854775807 := fun z h => ⟨by omega, by omega⟩
   have hzb := hz _ (Nat.pow_le_pow_right (n := 2) (by decide) hn)
   refine sy_ops ?_
   refine o_v hf hh (yv_move rfl) ?_; clear hf a; intro a hf
   refine o_v hf hh (yv_move rfl) ?_; clear hf a; intro a hf
   refine o_call hf Tryd.en_91 rfl rfl rfl (c91 n hn _) ?_; clear hf a; intro v a w hR hf
   obtain ⟨rfl, hx⟩ := hR; replace hh := hh.more hx; clear hx
   refine ops_v hf hh (yv_cast (yv_add rfl rfl hzb.1 hzb.2) (intv (b := ((s ||| 2 ^ n : Nat) : Int)) (by rw [or_pow (by assumption)]; rfl))) (.inl rfl) rfl rfl rfl ?_; clear hf a; intro a hf
   refine o_v hf hh (yv_assign rfl) ?_; clear hf a; intro a hf
   refine o_end ?_
   refine sy_ret ?_
   refine ret_r hf rfl rfl ?_
   exact ⟨rfl, hh.ext⟩
set_option maxHeartbeats 4000000 in
theorem c31 (d : RowsD) (sa sb : Option Addr) (ca cb : Nat) (u : World) (hA : MkAt u sa d.l) (hB : MkAt u sb d.r) (hl : d.l.length ≤ 1000) (hr : d.r.length ≤ 1000) : Calls Tryd.prog 31 #[rowsV d sa sb ca cb] u (Ret fun v w' => ∃ oa n cp, v = .tuple #[.slice oa n cp, .int .i64 (opE d true)] ∧ n = (if opE d true = 0 then canL d else []).length ∧ ValsAt w' oa (ivs (if opE d true = 0 then canL d else [])) ∧ Ext [] u w') := by
  refine calls_of Tryd.func31 rfl rfl (fun a hf => ?_)
  have hh := Hp.init u []
  refine sy_sq ?_
  refine o_box hf hh ?_; clear hf hh a; intro B1 a w hf hh
  refine o_v hf hh (yv_assign rfl) ?_; clear hf a; intro a hf
  refine o_v hf hh (yv_assign rfl) ?_; clear hf a; intro a hf
  refine o_end ?_
  refine sy_sq ?_
  refine o_v hf hh (y_lds Tryd.ag_26 rfl) ?_; clear hf a; intro a hf
  refine o_call hf Tryd.en_52 rfl rfl rfl (c52 d sa sb ca cb _ (hA.ext hh.ext) (hB.ext hh.ext) hl hr true) ?_; clear hf a; intro v a w hR hf
  obtain ⟨s, hs, X, rfl, hop, hx⟩ := hR; have he1 := hh.ext.trans hx.ext
  have hb1 := hx.ext.get (hh.get (B1, .cells (rowsV d sa sb ca cb).cells 26) (by simp))
  have hA1 := (hA.ext hh.ext).ext hx.ext
  have hB1 := (hB.ext hh.ext).ext hx.ext
  obtain ⟨u1, rfl⟩ : ∃ z, z = w := ⟨_, rfl⟩
  replace hh := Hp.init u1 []
  
  refine o_v hf hh (yv_move rfl) ?_; clear hf a; intro a hf
  refine o_v hf hh (yv_extract rfl rfl) ?_; clear hf a; intro a hf
  refine o_v hf hh (yv_extract rfl rfl) ?_; clear hf a; intro a hf
  refine o_v hf hh (yv_assign rfl) ?_; clear hf a; intro a hf
  refine o_v hf hh (yv_assign rfl) ?_; clear hf a; intro a hf
  refine o_end ?_
  refine sy_seq ?_
  refine sy_sq ?_
  refine o_v hf hh (yv_move rfl) ?_; clear hf a; intro a hf
  refine o_v hf hh (yv_bin rfl rfl rfl) ?_; clear hf a; intro a hf
  refine o_end ?_
  refine sy_cond hf rfl (fun hg5 => ?_) (fun hg5 => ?_)
  ·have hG5 := hg5; try simp only [gS] at hG5
   refine sy_sq ?_
   refine o_v hf hh (yv_move rfl) ?_; clear hf a; intro a hf
   refine o_v hf hh (yv_assign rfl) ?_; clear hf a; intro a hf
   refine o_v hf hh (yv_assign rfl) ?_; clear hf a; intro a hf
   refine o_end ?_
   refine sy_ret ?_
   refine then_r ?_
   refine ret_r hf rfl rfl ?_
   have hne : opE d true ≠ 0 := by omega
   rw [if_neg hne]
   exact ⟨none, 0, 0, rfl, rfl, .inl rfl, he1.trans hh.ext⟩
  ·have hG5 := hg5; try simp only [gS] at hG5
   refine sy_skip ?_
   refine then_n ?_
   refine sy_seq ?_
   have h0 : opE d true = 0 := by omega
   have hV := (okRows_iff d).1 (opE_zero.1 h0).1
   obtain ⟨hO, hD⟩ := hop h0
   have hwl := wys_long hV
   have hwc : ∀ c ∈ wys d, c.length ≤ 1000 := fun c hc => by have := wys_len hV hc; omega
   have hnl := hV.nl; have hnr := hV.nr
   obtain ⟨oa, cp, rfl⟩ := OwnSl_val hO
   have hW := WaysAt.mk hO (fun x hq => hx.get x hq) hD
   refine sy_ops ?_
   refine o_v hf hh (yv_fieldAddr Tryd.fo_26_0 rfl) ?_; clear hf a; intro a hf
   refine o_v hf hh (y_ld Tryd.sc_22 rfl) ?_; clear hf a; intro a hf
   refine o_v hf hh (yv_len Tryd.se_22 rfl) ?_; clear hf a; intro a hf
   refine ops_make hf hh Tryd.eb_55 rfl rfl (by omega) (by omega) (.inl rfl) rfl ?_; clear hf hh a; intro B21 a w hf hh
   have hG0 := made_grid d.l.length
   refine o_v hf hh (yv_assign rfl) ?_; clear hf a; intro a hf
   refine o_end ?_
   refine sy_seq ?_
   refine sy_sq ?_
   refine o_v hf hh (yv_assign rfl) ?_; clear hf a; intro a hf
   refine o_end ?_
   refine sy_block ?_
   refine sy_loopH (σ := Nat) [7, 8, 9, 22, 23, 24, 25, 26, 27, 28, 29, 30, 31, 32, 33, 34, 35, 36, 37, 38, 39, 40, 41, 42, 43, 44, 45, 46, 47, 48, 49, 50, 51, 52, 53, 54, 55] (fun i => [(7, .int .i64 (i : Nat))]) (fun i => fun w' => i ≤ (wys d).length ∧ ∃ cs, Grid d.l.length 1 (fun x _ => ((orW x ((wys d).take i) : Nat) : Int)) cs ∧ Hp u1 [] [(B21, .cells cs 3)] w') (fun i => (wys d).length - i) (0) hf ?_ ?_ ?_
   · repeat' (first | exact True.intro | refine And.intro rfl ?_)
   · exact ⟨Nat.zero_le _, _, hG0, hh⟩
   ·rintro i a w ⟨hi, cs1, hG1, hh⟩ hf
    refine sy_seq ?_
    refine sy_sq ?_
    refine o_v hf hh (yv_move rfl) ?_; clear hf a; intro a hf
    refine o_v hf hh (yv_move rfl) ?_; clear hf a; intro a hf
    refine o_v hf hh (yv_len Tryd.se_77 rfl) ?_; clear hf a; intro a hf
    refine o_v hf hh (yv_bin rfl rfl rfl) ?_; clear hf a; intro a hf
    refine o_end ?_
    refine sy_cond hf rfl (fun hg8 => ?_) (fun hg8 => ?_)
    ·have hG8 := hg8; try simp only [gS] at hG8
     refine sy_skip ?_
     refine then_n ?_
     refine sy_seq ?_
     refine sy_block ?_
     refine sy_seq ?_
     obtain ⟨ci, hci⟩ := ex_of (l := wys d) (i := i) (by omega)
     obtain ⟨blk, off, cs, T, fr, sb1, cb1, rfl, hbx, hcc, hvi⟩ := WaysAt.get hW hci
     have hcl := hwc ci (List.mem_of_getElem? hci)
     have hcm := (mem_wys.1 (List.mem_of_getElem? hci)).1
     refine sy_ops ?_
     refine o_v hf hh (yv_assign rfl) ?_; clear hf a; intro a hf
     refine o_end ?_
     refine sy_block ?_
     refine sy_loopH (σ := Nat) [8, 9, 28, 29, 30, 31, 32, 33, 34, 35, 36, 37, 38, 39, 40, 41, 42, 43, 44, 45, 46, 47, 48, 49, 50, 51, 52, 53, 54, 55] (fun j => [(8, .int .i64 (j : Nat))]) (fun j => fun w' => j ≤ ci.length ∧ ∃ cs, Grid d.l.length 1 (fun x _ => ((orC x (orW x ((wys d).take i)) (ci.take j) : Nat) : Int)) cs ∧ Hp u1 [] [(B21, .cells cs 3)] w') (fun j => ci.length - j) (0) hf ?_ ?_ ?_
     · repeat' (first | exact True.intro | refine And.intro rfl ?_)
     · exact ⟨Nat.zero_le _, _, hG1, hh⟩
     ·rintro j a w ⟨hj, cs2, hG2, hh⟩ hf
      refine sy_seq ?_
      refine sy_sq ?_
      refine o_v hf hh (yv_move rfl) ?_; clear hf a; intro a hf
      refine o_v hf hh (yv_move rfl) ?_; clear hf a; intro a hf
      refine o_v hf hh (yv_move rfl) ?_; clear hf a; intro a hf
      refine o_v hf hh (y_ix Tryd.se_77 rfl rfl) ?_; clear hf a; intro a hf
      refine o_v hf hh (y_ld Tryd.sc_34 rfl) ?_; clear hf a; intro a hf
      refine o_v hf hh (yv_len Tryd.se_34 rfl) ?_; clear hf a; intro a hf
      refine o_v hf hh (yv_bin rfl rfl rfl) ?_; clear hf a; intro a hf
      refine o_end ?_
      refine sy_cond hf rfl (fun hg10 => ?_) (fun hg10 => ?_)
      ·have hG10 := hg10; try simp only [gS] at hG10
       refine sy_skip ?_
       refine then_n ?_
       refine sy_seq ?_
       refine sy_block ?_
       refine sy_seq ?_
       obtain ⟨p, hp⟩ := ex_of (l := ci) (i := j) (by omega)
       have hpm := (Ch_iff.1 hcm).1 p (List.mem_of_getElem? hp)
       have hpl : p.1 < d.l.length := hpm.2.1
       have hpr : p.2 < d.r.length := hpm.2.2.2.1
       obtain ⟨blk2, off2, cs2, T2, fr2, rfl, hbx2, hcx2⟩ := hvi.resolve_left (by intro e; have := encP_get ci j p hp; rw [e] at this; simp at this)
       have hpc := pair_cells hp hcx2
       have hg1 := grid_one hG2 hpl
       have hsl : orC p.1 (orW p.1 ((wys d).take i)) (ci.take j) < 2 ^ 10 := orC_lt (n := 10) (by
         have h1 : ∀ k, (orW p.1 ((wys d).take i)).testBit k = true → k < 10 := fun k h => by
           unfold orW at h
           rw [orW_bit, Nat.zero_testBit, Bool.false_or, decide_eq_true_eq] at h
           obtain ⟨c, hc, hm⟩ := h
           have : k < d.r.length := ((Ch_iff.1 (mem_wys.1 (List.mem_of_mem_take hc)).1).1 _ hm).2.2.2.1
           omega
         exact Nat.lt_pow_two_of_testBit _ fun k hk => by cases h : (orW p.1 ((wys d).take i)).testBit k with
           | false => rfl
           | true => have := h1 k h; omega) (fun q hq => by
         have : q.2 < d.r.length := ((Ch_iff.1 hcm).1 q (List.mem_of_mem_take hq)).2.2.2.1
         omega)
       have hszc := hG2.size
       refine sy_ops ?_
       refine o_v hf hh (yv_move rfl) ?_; clear hf a; intro a hf
       refine o_v hf hh (yv_move rfl) ?_; clear hf a; intro a hf
       refine o_v hf hh (y_ix Tryd.se_77 rfl rfl) ?_; clear hf a; intro a hf
       refine o_v hf hh (y_ld Tryd.sc_34 rfl) ?_; clear hf a; intro a hf
       refine o_v hf hh (yv_move rfl) ?_; clear hf a; intro a hf
       refine o_v hf hh (y_ix Tryd.se_34 rfl rfl) ?_; clear hf a; intro a hf
       refine o_v hf hh (y_lds Tryd.ag_45 rfl) ?_; clear hf a; intro a hf
       refine o_alloc hf hh Tryd.ze_45 ?_; clear hf hh a; intro B9 a w hf hh
       refine o_store hf hh Tryd.sz_45 fun w hh => ?_
       refine o_end ?_
       refine sy_tree1 (.p 0 (.p 1 (.q 0 2 (.p 3 (.p 4 (.q 0 5 (.p 6 (.q 0 7 (.p 8 (.q 0 9 (.e1 10 (.p 11 (.e1 12 (.fin)))))))))))))) [12] Tryd.follows (by kernel_rfl) hh (fun w hh => ?_)
       refine mc_p rfl   hf (yv_move rfl) (.inl rfl) rfl rfl ?_; clear hf a; intro a hf
       refine mc_p rfl   hf (y_ia Tryd.ae_45 rfl rfl) (.inl rfl) rfl rfl ?_; clear hf a; intro a hf
       refine mc_q rfl rfl hh hf (y_ld Tryd.sc_3 rfl) (.inl rfl) rfl rfl ?_; clear hf a; intro a hf
       refine mc_p rfl   hf (yv_move rfl) (.inl rfl) rfl rfl ?_; clear hf a; intro a hf
       refine mc_p rfl   hf (y_ia Tryd.ae_45 rfl rfl) (.inl rfl) rfl rfl ?_; clear hf a; intro a hf
       refine mc_q rfl rfl hh hf (y_ld Tryd.sc_3 rfl) (.inl rfl) rfl rfl ?_; clear hf a; intro a hf
       refine mc_p rfl   hf (y_ix Tryd.se_55 rfl rfl) (.inl rfl) rfl rfl ?_; clear hf a; intro a hf
       refine mc_q rfl rfl hh hf (y_ld Tryd.sc_3 rfl) (.inl rfl) rfl rfl ?_; clear hf a; intro a hf
       refine mc_p rfl   hf (y_ia Tryd.ae_45 rfl rfl) (.inl rfl) rfl rfl ?_; clear hf a; intro a hf
       refine mc_q rfl rfl hh hf (y_ld Tryd.sc_3 rfl) (.inl rfl) rfl rfl ?_; clear hf a; intro a hf
       refine mc_e rfl fun Q1 => ?_
       refine o_call hf Tryd.en_66 rfl rfl rfl (c66 _ p.2 (by omega) (by omega) _) ?_; clear hf a; intro v a w hR hf
       obtain ⟨rfl, hx⟩ := hR; replace hh := hh.more hx; clear hx
       refine ops_end ?_
       refine then_n ⟨⟨fun _ _ => hh, trivial⟩, ?_⟩
       refine mc_p rfl   hf (y_ix Tryd.se_55 rfl rfl) (.inl rfl) rfl rfl ?_; clear hf a; intro a hf
       refine mc_e rfl fun Q1 => ?_
       refine o_store (i := 1) hf hh Tryd.sz_3 (hx := rfl) (hi := atI (i := 1) rfl) (hy := rfl) (hl := Nat.ble_eq_true_of_le (by rw [Int.toNat_natCast]; omega)) fun w hh => ?_
       refine ops_end ?_
       refine then_n ⟨⟨fun h => Bool.noConfusion (show true = false from h), trivial⟩, ?_⟩
       refine mc_end ?_
       refine blk_n ?_
       refine then_n ?_
       refine sy_ops ?_
       refine o_v hf hh (yv_move rfl) ?_; clear hf a; intro a hf
       refine o_v hf hh (y_add rfl rfl) ?_; clear hf a; intro a hf
       refine o_v hf hh (yv_assign rfl) ?_; clear hf a; intro a hf
       refine ops_end ?_
       refine then_n ?_
       refine ⟨j + 1, ⟨⟨by omega, _, (hG2.set (off := 0 + ((p.1 : Nat) : Int).toNat * 1) hpl (Nat.zero_lt_one) (by rw [Int.toNat_natCast]; omega) _).congr fun x k hx hk => ?_, hh.less (.cons _ (List.Sublist.refl _))⟩, hf.head ⟨rfl, True.intro⟩ (Keep.cons rfl (Keep.cons rfl (Keep.cons rfl (Keep.cons rfl (Keep.cons rfl (Keep.cons rfl (Keep.cons rfl (Keep.cons rfl (Keep.cons rfl (Keep.cons rfl (Keep.cons rfl (Keep.cons rfl (Keep.cons rfl (Keep.cons rfl (Keep.cons rfl (Keep.cons rfl (Keep.cons rfl (Keep.cons rfl (Keep.cons rfl (Keep.cons rfl (Keep.cons rfl (Keep.cons rfl (Keep.cons rfl (Keep.cons rfl (Keep.cons rfl (Keep.cons rfl (Keep.cons rfl (Keep.cons rfl (Keep.cons rfl (Keep.cons rfl (Keep.app rfl (Keep.rm rfl Keep.base))))))))))))))))))))))))))))))))⟩, by omega⟩
       have hk0 : k = 0 := by omega
       subst hk0
       rw [List.take_add_one, hp]
       show updG _ p.1 0 _ x 0 = ((orC x (orW x ((wys d).take i)) (ci.take j ++ [p]) : Nat) : Int)
       rw [orC_snoc]
       unfold updG
       by_cases e : x = p.1
       · subst e; rw [if_pos ⟨rfl, rfl⟩, if_pos rfl]
       · rw [if_neg (fun h => e h.1), if_neg (fun h => e h.symm)]
      ·have hG10 := hg10; try simp only [gS] at hG10
       refine sy_exit ?_
       refine then_e ?_
       refine then_e ?_
       refine blk_e ?_
       refine blk_n ?_
       refine then_n ?_
       refine sy_ops ?_
       refine o_v hf hh (yv_move rfl) ?_; clear hf a; intro a hf
       refine o_v hf hh (y_add rfl rfl) ?_; clear hf a; intro a hf
       refine o_v hf hh (yv_assign rfl) ?_; clear hf a; intro a hf
       refine ops_end ?_
       refine then_n ?_
       have hcn : ∀ x, orW x ((wys d).take (i + 1)) = orC x (orW x ((wys d).take i)) (ci.take j) := fun x => by rw [List.take_add_one, hci, List.take_of_length_le (show ci.length ≤ j by omega)]; exact orW_snoc _ _ _
       exact ⟨i + 1, ⟨⟨by omega, cs2, hG2.congr fun x k _ _ => by rw [hcn], hh⟩, hf.head ⟨rfl, True.intro⟩ (Keep.cons rfl (Keep.cons rfl (Keep.cons rfl (Keep.cons rfl (Keep.cons rfl (Keep.cons rfl (Keep.cons rfl (Keep.cons rfl (Keep.cons rfl (Keep.cons rfl (Keep.app rfl (Keep.rm rfl (Keep.cons rfl (Keep.cons rfl (Keep.cons rfl (Keep.cons rfl (Keep.cons rfl (Keep.app rfl (Keep.rm rfl Keep.base)))))))))))))))))))⟩, by omega⟩
    ·have hG8 := hg8; try simp only [gS] at hG8
     refine sy_exit ?_
     refine then_e ?_
     refine then_e ?_
     refine blk_e ?_
     refine then_n ?_
     refine sy_sq ?_
     refine o_v hf hh (yv_move rfl) ?_; clear hf a; intro a hf
     refine o_v hf hh (yv_assign rfl) ?_; clear hf a; intro a hf
     refine o_v hf hh (yv_assign rfl) ?_; clear hf a; intro a hf
     refine o_end ?_
     refine sy_ret ?_
     refine ret_r hf rfl rfl ?_
     rw [h0, if_pos rfl]
     refine ⟨some ⟨B21, 0, none⟩, d.l.length, d.l.length, rfl, by simp [canL], grid_vals hG1 (hh.at (i := 0) rfl) (fun x hx => ?_), he1.trans hh.ext⟩
     rw [List.take_of_length_le (by omega), orW_all hx]
end Go.Proofs.YtemmhdgaagaglaaDoor
namespace Go.Proofs.YtemmhdgaagaglaaDoor
open Go Go.Sy Go.MatM
set_option maxHeartbeats 4000000 in
theorem c33 (d : RowsD) (sa sb : Option Addr) (ca cb : Nat) (u : World) (hA : MkAt u sa d.l) (hB : MkAt u sb d.r) (hl : d.l.length ≤ 1000) (hr : d.r.length ≤ 1000) : Calls Tryd.prog 33 #[rowsV d sa sb ca cb] u (Ret fun v w' => ∃ oa n cp, v = .tuple #[.slice oa n cp, .int .i64 (opE d true)] ∧ n = (if opE d true = 0 then sureL d else []).length ∧ ValsAt w' oa (ivs (if opE d true = 0 then sureL d else [])) ∧ Ext [] u w') := by
  refine calls_of Tryd.func33 rfl rfl (fun a hf => ?_)
  have hh := Hp.init u []
  refine sy_sq ?_
  refine o_box hf hh ?_; clear hf hh a; intro B1 a w hf hh
  refine o_v hf hh (yv_assign rfl) ?_; clear hf a; intro a hf
  refine o_v hf hh (yv_assign rfl) ?_; clear hf a; intro a hf
  refine o_end ?_
  refine sy_sq ?_
  refine o_v hf hh (y_lds Tryd.ag_26 rfl) ?_; clear hf a; intro a hf
  refine o_call hf Tryd.en_52 rfl rfl rfl (c52 d sa sb ca cb _ (hA.ext hh.ext) (hB.ext hh.ext) hl hr true) ?_; clear hf a; intro v a w hR hf
  obtain ⟨s, hs, X, rfl, hop, hx⟩ := hR; have he1 := hh.ext.trans hx.ext
  have hb1 := hx.ext.get (hh.get (B1, .cells (rowsV d sa sb ca cb).cells 26) (by simp))
  have hA1 := (hA.ext hh.ext).ext hx.ext
  have hB1 := (hB.ext hh.ext).ext hx.ext
  obtain ⟨u1, rfl⟩ : ∃ z, z = w := ⟨_, rfl⟩
  replace hh := Hp.init u1 []
  
  refine o_v hf hh (yv_move rfl) ?_; clear hf a; intro a hf
  refine o_v hf hh (yv_extract rfl rfl) ?_; clear hf a; intro a hf
  refine o_v hf hh (yv_extract rfl rfl) ?_; clear hf a; intro a hf
  refine o_v hf hh (yv_assign rfl) ?_; clear hf a; intro a hf
  refine o_v hf hh (yv_assign rfl) ?_; clear hf a; intro a hf
  refine o_end ?_
  refine sy_seq ?_
  refine sy_sq ?_
  refine o_v hf hh (yv_move rfl) ?_; clear hf a; intro a hf
  refine o_v hf hh (yv_bin rfl rfl rfl) ?_; clear hf a; intro a hf
  refine o_end ?_
  refine sy_cond hf rfl (fun hg5 => ?_) (fun hg5 => ?_)
  ·have hG5 := hg5; try simp only [gS] at hG5
   refine sy_sq ?_
   refine o_v hf hh (yv_move rfl) ?_; clear hf a; intro a hf
   refine o_v hf hh (yv_assign rfl) ?_; clear hf a; intro a hf
   refine o_v hf hh (yv_assign rfl) ?_; clear hf a; intro a hf
   refine o_end ?_
   refine sy_ret ?_
   refine then_r ?_
   refine ret_r hf rfl rfl ?_
   have hne : opE d true ≠ 0 := by omega
   rw [if_neg hne]
   exact ⟨none, 0, 0, rfl, rfl, .inl rfl, he1.trans hh.ext⟩
  ·have hG5 := hg5; try simp only [gS] at hG5
   refine sy_skip ?_
   refine then_n ?_
   refine sy_seq ?_
   have h0 : opE d true = 0 := by omega
   have hV := (okRows_iff d).1 (opE_zero.1 h0).1
   obtain ⟨hO, hD⟩ := hop h0
   have hwl := wys_long hV
   have hwc : ∀ c ∈ wys d, c.length ≤ 1000 := fun c hc => by have := wys_len hV hc; omega
   have hnl := hV.nl; have hnr := hV.nr
   obtain ⟨oa, cp, rfl⟩ := OwnSl_val hO
   have hW := WaysAt.mk hO (fun x hq => hx.get x hq) hD
   obtain ⟨c0, l0, hw0⟩ := wys_head h0
   obtain ⟨blk0, off0, cs0, T0, fr0, sb0, cb0, rfl, hbx0, hcc0, hv0⟩ := WaysAt.get hW (i := 0) (c := c0) (by rw [hw0]; rfl)
   have hcl0 := hwc c0 (by rw [hw0]; exact .head _)
   have hl0 : 0 < (wys d).length := by rw [hw0]; simp
   refine sy_ops ?_
   refine o_v hf hh (yv_assign rfl) ?_; clear hf a; intro a hf
   refine o_end ?_
   refine sy_seq ?_
   refine sy_sq ?_
   refine o_v hf hh (yv_assign rfl) ?_; clear hf a; intro a hf
   refine o_end ?_
   refine sy_block ?_
   refine sy_loopH (σ := Nat × Value × List (Nat × Obj)) [6, 7, 8, 9, 18, 19, 20, 21, 22, 23, 24, 25, 26, 27, 28, 29, 30, 31, 32, 33, 34, 35, 36, 37, 38, 39, 40, 41, 42, 43, 44, 45, 46, 47] (fun q => [(7, .int .i64 (q.1 : Nat)), (6, q.2.1)]) (fun q => fun w' => q.1 ≤ d.l.length ∧ OwnSl 3 1 q.2.1 q.1 (ivs ((sureL d).take q.1)) q.2.2 ∧ Hp u1 [] q.2.2 w') (fun q => d.l.length - q.1) ((0, .slice none 0 0, [])) hf ?_ ?_ ?_
   · repeat' (first | exact True.intro | refine And.intro rfl ?_)
   · exact ⟨Nat.zero_le _, OwnSl.nil _ _, hh⟩
   ·rintro q a w ⟨hi, hO6, hh⟩ hf
    obtain ⟨i, v6, X6⟩ := q
    simp only at hi hO6 hh hf ⊢
    refine sy_seq ?_
    refine sy_sq ?_
    refine o_v hf hh (yv_move rfl) ?_; clear hf a; intro a hf
    refine o_v hf hh (yv_fieldAddr Tryd.fo_26_0 rfl) ?_; clear hf a; intro a hf
    refine o_v hf hh (y_ld Tryd.sc_22 rfl) ?_; clear hf a; intro a hf
    refine o_v hf hh (yv_len Tryd.se_22 rfl) ?_; clear hf a; intro a hf
    refine o_v hf hh (yv_bin rfl rfl rfl) ?_; clear hf a; intro a hf
    refine o_end ?_
    refine sy_cond hf rfl (fun hg7 => ?_) (fun hg7 => ?_)
    ·have hG7 := hg7; try simp only [gS] at hG7
     refine sy_skip ?_
     refine then_n ?_
     refine sy_seq ?_
     refine sy_block ?_
     refine sy_sq ?_
     refine o_v hf hh (yv_move rfl) ?_; clear hf a; intro a hf
     refine o_v hf hh (y_ix Tryd.se_77 rfl rfl) ?_; clear hf a; intro a hf
     refine o_v hf hh (y_ld Tryd.sc_34 rfl) ?_; clear hf a; intro a hf
     refine o_v hf hh (yv_move rfl) ?_; clear hf a; intro a hf
     refine o_call hf Tryd.en_59 rfl rfl rfl (c59 c0 sb0 cb0 i _ (hv0.ext hh.ext) hcl0) ?_; clear hf a; intro v a w hR hf
     obtain ⟨rfl, hx⟩ := hR; replace hh := hh.more hx; clear hx
     refine o_v hf hh (yv_assign rfl) ?_; clear hf a; intro a hf
     refine o_end ?_
     refine sy_seq ?_
     refine sy_sq ?_
     refine o_v hf hh (yv_assign rfl) ?_; clear hf a; intro a hf
     refine o_end ?_
     refine sy_block ?_
     refine sy_loopF (σ := Nat) [8, 9, 30, 31, 32, 33, 34, 35, 36, 37, 38, 39, 40, 41, 42, 43] (fun k => [(9, .int .i64 (k : Nat)), (8, .int .i64 (sureR c0 i ((wys d).take k)))]) (fun k => k ≤ (wys d).length) (fun k => (wys d).length - k) (0) hf hh ?_ ?_ ?_
     · repeat' (first | exact True.intro | refine And.intro rfl ?_)
     · exact Nat.zero_le _
     ·rintro k a w hk hf hh
      refine sy_seq ?_
      refine sy_sq ?_
      refine o_v hf hh (yv_move rfl) ?_; clear hf a; intro a hf
      refine o_v hf hh (yv_move rfl) ?_; clear hf a; intro a hf
      refine o_v hf hh (yv_len Tryd.se_77 rfl) ?_; clear hf a; intro a hf
      refine o_v hf hh (yv_bin rfl rfl rfl) ?_; clear hf a; intro a hf
      refine o_end ?_
      refine sy_cond hf rfl (fun hg10 => ?_) (fun hg10 => ?_)
      ·have hG10 := hg10; try simp only [gS] at hG10
       refine sy_skip ?_
       refine then_n ?_
       refine sy_seq ?_
       refine sy_block ?_
       refine sy_seq ?_
       obtain ⟨ck, hck⟩ := ex_of (l := wys d) (i := k) (by omega)
       obtain ⟨blk, off, cs, T, fr, sb1, cb1, e1, hbx, hcc, hvi⟩ := WaysAt.get hW hck
       cases e1
       have hcl := hwc ck (List.mem_of_getElem? hck)
       have hst : sureR c0 i ((wys d).take (k + 1)) = if pN ck i = sureR c0 i ((wys d).take k) then sureR c0 i ((wys d).take k) else -1 := by rw [List.take_add_one, hck]; exact sureR_snoc _ _ _ _
       refine sy_ops ?_
       refine o_v hf hh (yv_move rfl) ?_; clear hf a; intro a hf
       refine o_v hf hh (yv_move rfl) ?_; clear hf a; intro a hf
       refine o_v hf hh (y_ix Tryd.se_77 rfl rfl) ?_; clear hf a; intro a hf
       refine o_v hf hh (y_ld Tryd.sc_34 rfl) ?_; clear hf a; intro a hf
       refine o_v hf hh (yv_move rfl) ?_; clear hf a; intro a hf
       refine o_call hf Tryd.en_59 rfl rfl rfl (c59 ck sb1 cb1 i _ (hvi.ext hh.ext) hcl) ?_; clear hf a; intro v a w hR hf
       obtain ⟨rfl, hx⟩ := hR; replace hh := hh.more hx; clear hx
       refine o_v hf hh (yv_move rfl) ?_; clear hf a; intro a hf
       refine o_v hf hh (yv_bin rfl rfl rfl) ?_; clear hf a; intro a hf
       refine o_end ?_
       refine sy_cond hf rfl (fun hg13 => ?_) (fun hg13 => ?_)
       ·have hG13 := hg13; try simp only [gS] at hG13
        refine sy_ops ?_
        refine o_v hf hh (yv_assign rfl) ?_; clear hf a; intro a hf
        refine ops_end ?_
        refine blk_n ?_
        refine then_n ?_
        refine sy_ops ?_
        refine o_v hf hh (yv_move rfl) ?_; clear hf a; intro a hf
        refine o_v hf hh (y_add rfl rfl) ?_; clear hf a; intro a hf
        refine o_v hf hh (yv_assign rfl) ?_; clear hf a; intro a hf
        refine ops_end ?_
        refine then_n ?_
        first
          | (rw [if_neg (by assumption)] at hst
             exact ⟨k + 1, ⟨by omega, hf.head ⟨rfl, (by rw [hst]; rfl), True.intro⟩ (Keep.cons rfl (Keep.cons rfl (Keep.cons rfl (Keep.cons rfl (Keep.cons rfl (Keep.cons rfl (Keep.cons rfl (Keep.cons rfl (Keep.cons rfl (Keep.cons rfl (Keep.cons rfl (Keep.cons rfl (Keep.cons rfl (Keep.cons rfl (Keep.cons rfl (Keep.cons rfl (Keep.app rfl (Keep.rm rfl Keep.base)))))))))))))))))), hh⟩, by omega⟩)
          | (rw [if_pos (by omega)] at hst
             exact ⟨k + 1, ⟨by omega, hf.head ⟨rfl, (by rw [hst]; rfl), True.intro⟩ (Keep.cons rfl (Keep.cons rfl (Keep.cons rfl (Keep.cons rfl (Keep.cons rfl (Keep.cons rfl (Keep.cons rfl (Keep.cons rfl (Keep.cons rfl (Keep.cons rfl (Keep.cons rfl (Keep.cons rfl (Keep.cons rfl (Keep.cons rfl (Keep.cons rfl (Keep.cons rfl (Keep.app rfl (Keep.rm rfl Keep.base)))))))))))))))))), hh⟩, by omega⟩)
       ·have hG13 := hg13; try simp only [gS] at hG13
        refine sy_skip ?_
        refine blk_n ?_
        refine then_n ?_
        refine sy_ops ?_
        refine o_v hf hh (yv_move rfl) ?_; clear hf a; intro a hf
        refine o_v hf hh (y_add rfl rfl) ?_; clear hf a; intro a hf
        refine o_v hf hh (yv_assign rfl) ?_; clear hf a; intro a hf
        refine ops_end ?_
        refine then_n ?_
        first
          | (rw [if_neg (by assumption)] at hst
             exact ⟨k + 1, ⟨by omega, hf.head ⟨rfl, (by rw [hst]; rfl), True.intro⟩ (Keep.cons rfl (Keep.cons rfl (Keep.cons rfl (Keep.cons rfl (Keep.cons rfl (Keep.cons rfl (Keep.cons rfl (Keep.cons rfl (Keep.cons rfl (Keep.cons rfl (Keep.cons rfl (Keep.cons rfl (Keep.cons rfl (Keep.cons rfl (Keep.cons rfl (Keep.app rfl (Keep.rm rfl Keep.base))))))))))))))))), hh⟩, by omega⟩)
          | (rw [if_pos (by omega)] at hst
             exact ⟨k + 1, ⟨by omega, hf.head ⟨rfl, (by rw [hst]; rfl), True.intro⟩ (Keep.cons rfl (Keep.cons rfl (Keep.cons rfl (Keep.cons rfl (Keep.cons rfl (Keep.cons rfl (Keep.cons rfl (Keep.cons rfl (Keep.cons rfl (Keep.cons rfl (Keep.cons rfl (Keep.cons rfl (Keep.cons rfl (Keep.cons rfl (Keep.cons rfl (Keep.app rfl (Keep.rm rfl Keep.base))))))))))))))))), hh⟩, by omega⟩)
      ·have hG10 := hg10; try simp only [gS] at hG10
       refine sy_exit ?_
       refine then_e ?_
       refine then_e ?_
       refine blk_e ?_
       refine then_n ?_
       have hsr : sureR c0 i ((wys d).take k) = sureN d i := by rw [List.take_of_length_le (by omega)]; exact sureR_all hnr hw0 (by omega)
       have htk := ivs_take (f := sureN d) (show i < d.l.length by omega)
       refine sy_ops ?_
       refine o_v hf hh (yv_move rfl) ?_; clear hf a; intro a hf
       refine ops_v hf hh (yv_cast (yv_move rfl) (intv (b := sureN d i) hsr)) (.inl rfl) rfl rfl rfl ?_; clear hf a; intro a hf
       refine ops_buildSl hf hh Tryd.bl_55_1 rfl rfl (.inl rfl) rfl ?_; clear hf hh; clear a; intro B46 a w hf hh
       refine ops_append (e := 3) (size := 1) (xs := ivs ((sureL d).take i)) (X := X6) (Z := []) (m := i) (q := 1) hf (by rw [List.append_nil]; exact hh) Tryd.eb_55 rfl rfl hO6 rfl rfl rfl (by simp only [maxLen]; omega) (by omega) (.inl rfl) rfl ?_; clear hf hh a; intro v7 X7 a w hO7 hf hh
       rw [List.append_nil] at hh
       refine o_v hf hh (yv_assign rfl) ?_; clear hf a; intro a hf
       refine ops_end ?_
       refine blk_n ?_
       refine then_n ?_
       refine sy_ops ?_
       refine o_v hf hh (yv_move rfl) ?_; clear hf a; intro a hf
       refine o_v hf hh (y_add rfl rfl) ?_; clear hf a; intro a hf
       refine o_v hf hh (yv_assign rfl) ?_; clear hf a; intro a hf
       refine ops_end ?_
       refine then_n ?_
       exact ⟨(i + 1, v7, X7), ⟨⟨by simp only; omega, by simp only; unfold sureL; rw [htk]; exact hO7, hh⟩, hf.head ⟨rfl, rfl, True.intro⟩ (Keep.cons rfl (Keep.cons rfl (Keep.cons rfl (Keep.cons rfl (Keep.cons rfl (Keep.cons rfl (Keep.cons rfl (Keep.cons rfl (Keep.cons rfl (Keep.cons rfl (Keep.cons rfl (Keep.cons rfl (Keep.app rfl (Keep.rm rfl (Keep.cons rfl (Keep.cons rfl (Keep.cons rfl (Keep.cons rfl (Keep.cons rfl (Keep.cons rfl (Keep.cons rfl (Keep.cons rfl (Keep.cons rfl (Keep.cons rfl (Keep.cons rfl (Keep.cons rfl (Keep.app rfl (Keep.rm rfl Keep.base))))))))))))))))))))))))))))⟩, by simp only; omega⟩
    ·have hG7 := hg7; try simp only [gS] at hG7
     refine sy_exit ?_
     refine then_e ?_
     refine then_e ?_
     refine blk_e ?_
     refine then_n ?_
     refine sy_sq ?_
     refine o_v hf hh (yv_move rfl) ?_; clear hf a; intro a hf
     refine o_v hf hh (yv_assign rfl) ?_; clear hf a; intro a hf
     refine o_v hf hh (yv_assign rfl) ?_; clear hf a; intro a hf
     refine o_end ?_
     refine sy_ret ?_
     refine ret_r hf rfl rfl ?_
     have hil : i = d.l.length := by omega
     have hsl : (sureL d).length = d.l.length := by simp [sureL]
     rw [List.take_of_length_le (by omega)] at hO6
     obtain ⟨oa6, cp6, rfl⟩ := OwnSl_val hO6
     rw [h0, if_pos rfl]
     exact ⟨oa6, i, cp6, rfl, by omega, valsAt_own hO6 fun x hx => hh.get x hx, he1.trans hh.ext⟩
set_option maxHeartbeats 4000000 in
theorem c35 (d : RowsD) (sa sb : Option Addr) (ca cb : Nat) (u : World) (hA : MkAt u sa d.l) (hB : MkAt u sb d.r) (hl : d.l.length ≤ 1000) (hr : d.r.length ≤ 1000) : Calls Tryd.prog 35 #[rowsV d sa sb ca cb] u (Ret fun v w' => v = .tuple #[.int .i64 (if opE d true = 0 then (hideA d : Int) else 0), .int .i64 (if opE d true = 0 then (hideB d : Int) else 0), .int .i64 (opE d true)] ∧ Ext [] u w') := by
  refine calls_of Tryd.func35 rfl rfl (fun a hf => ?_)
  have hh := Hp.init u []
  refine sy_sq ?_
  refine o_box hf hh ?_; clear hf hh a; intro B1 a w hf hh
  refine o_v hf hh (yv_assign rfl) ?_; clear hf a; intro a hf
  refine o_v hf hh (yv_assign rfl) ?_; clear hf a; intro a hf
  refine o_v hf hh (yv_assign rfl) ?_; clear hf a; intro a hf
  refine o_end ?_
  refine sy_sq ?_
  refine o_v hf hh (y_lds Tryd.ag_26 rfl) ?_; clear hf a; intro a hf
  refine o_call hf Tryd.en_52 rfl rfl rfl (c52 d sa sb ca cb _ (hA.ext hh.ext) (hB.ext hh.ext) hl hr true) ?_; clear hf a; intro v a w hR hf
  obtain ⟨s, hs, X, rfl, hop, hx⟩ := hR; have he1 := hh.ext.trans hx.ext
  have hb1 := hx.ext.get (hh.get (B1, .cells (rowsV d sa sb ca cb).cells 26) (by simp))
  have hA1 := (hA.ext hh.ext).ext hx.ext
  have hB1 := (hB.ext hh.ext).ext hx.ext
  obtain ⟨u1, rfl⟩ : ∃ z, z = w := ⟨_, rfl⟩
  replace hh := Hp.init u1 []
  
  refine o_v hf hh (yv_move rfl) ?_; clear hf a; intro a hf
  refine o_v hf hh (yv_extract rfl rfl) ?_; clear hf a; intro a hf
  refine o_v hf hh (yv_extract rfl rfl) ?_; clear hf a; intro a hf
  refine o_v hf hh (yv_assign rfl) ?_; clear hf a; intro a hf
  refine o_v hf hh (yv_assign rfl) ?_; clear hf a; intro a hf
  refine o_end ?_
  refine sy_seq ?_
  refine sy_sq ?_
  refine o_v hf hh (yv_move rfl) ?_; clear hf a; intro a hf
  refine o_v hf hh (yv_bin rfl rfl rfl) ?_; clear hf a; intro a hf
  refine o_end ?_
  refine sy_cond hf rfl (fun hg5 => ?_) (fun hg5 => ?_)
  ·have hG5 := hg5; try simp only [gS] at hG5
   refine sy_sq ?_
   refine o_v hf hh (yv_move rfl) ?_; clear hf a; intro a hf
   refine o_v hf hh (yv_assign rfl) ?_; clear hf a; intro a hf
   refine o_v hf hh (yv_assign rfl) ?_; clear hf a; intro a hf
   refine o_v hf hh (yv_assign rfl) ?_; clear hf a; intro a hf
   refine o_end ?_
   refine sy_ret ?_
   refine then_r ?_
   refine ret_r hf rfl rfl ?_
   have hne : opE d true ≠ 0 := by omega
   rw [if_neg hne, if_neg hne]
   exact ⟨rfl, he1.trans hh.ext⟩
  ·have hG5 := hg5; try simp only [gS] at hG5
   refine sy_skip ?_
   refine then_n ?_
   refine sy_seq ?_
   have h0 : opE d true = 0 := by omega
   have hV := (okRows_iff d).1 (opE_zero.1 h0).1
   obtain ⟨hO, hD⟩ := hop h0
   have hwl := wys_long hV
   have hwc : ∀ c ∈ wys d, c.length ≤ 1000 := fun c hc => by have := wys_len hV hc; omega
   have hnl := hV.nl; have hnr := hV.nr
   obtain ⟨oa, cp, rfl⟩ := OwnSl_val hO
   have hW := WaysAt.mk hO (fun x hq => hx.get x hq) hD
   have hL10 : 2 ^ d.l.length ≤ 2 ^ 10 := Nat.pow_le_pow_right (by decide) hnl
   have hR10 : 2 ^ d.r.length ≤ 2 ^ 10 := Nat.pow_le_pow_right (by decide) hnr
   refine sy_ops ?_
   refine o_v hf hh (yv_assign rfl) ?_; clear hf a; intro a hf
   refine o_v hf hh (yv_assign rfl) ?_; clear hf a; intro a hf
   refine o_end ?_
   refine sy_seq ?_
   refine sy_sq ?_
   refine o_v hf hh (yv_assign rfl) ?_; clear hf a; intro a hf
   refine o_end ?_
   refine sy_block ?_
   refine sy_loopF (σ := Nat) [7, 8, 9, 10, 11, 12, 13, 22, 23, 24, 25, 26, 27, 28, 29, 30, 31, 32, 33, 34, 35, 36, 37, 38, 39, 40, 41, 42, 43, 44, 45, 46, 47, 48, 49, 50, 51, 52, 53, 54, 55, 56, 57, 58, 59, 60, 61, 62, 63, 64, 65, 66, 67, 68, 69, 70, 71, 72, 73, 74, 75, 76, 77] (fun i => [(9, .int .i64 (i : Nat)), (7, .int .i64 ((hidLW d.l.length ((wys d).take i) : Nat) : Int)), (8, .int .i64 ((hidRW d.r.length ((wys d).take i) : Nat) : Int))]) (fun i => i ≤ (wys d).length) (fun i => (wys d).length - i) (0) hf hh ?_ ?_ ?_
   · repeat' (first | exact True.intro | refine And.intro rfl ?_)
   · exact Nat.zero_le _
   ·rintro i a w hi hf hh
    refine sy_seq ?_
    refine sy_sq ?_
    refine o_v hf hh (yv_move rfl) ?_; clear hf a; intro a hf
    refine o_v hf hh (yv_move rfl) ?_; clear hf a; intro a hf
    refine o_v hf hh (yv_len Tryd.se_77 rfl) ?_; clear hf a; intro a hf
    refine o_v hf hh (yv_bin rfl rfl rfl) ?_; clear hf a; intro a hf
    refine o_end ?_
    refine sy_cond hf rfl (fun hg7 => ?_) (fun hg7 => ?_)
    ·have hG7 := hg7; try simp only [gS] at hG7
     refine sy_skip ?_
     refine then_n ?_
     refine sy_seq ?_
     refine sy_block ?_
     refine sy_seq ?_
     obtain ⟨ci, hci⟩ := ex_of (l := wys d) (i := i) (by omega)
     obtain ⟨blk, off, cs, T, fr, sb1, cb1, rfl, hbx, hcc, hvi⟩ := WaysAt.get hW hci
     have hcl := hwc ci (List.mem_of_getElem? hci)
     have hcm := (mem_wys.1 (List.mem_of_getElem? hci)).1
     have hseen : ∀ j, seenC 0 (ci.take j) < 2 ^ 10 := fun j => seenC_lt (by decide) fun q hq => by
       have : q.2 < d.r.length := ((Ch_iff.1 hcm).1 q (List.mem_of_mem_take hq)).2.2.2.1
       omega
     have hseen1 : seenC 0 ci < 2 ^ 10 := by have := hseen ci.length; rwa [List.take_length] at this
     refine sy_ops ?_
     refine o_v hf hh (yv_assign rfl) ?_; clear hf a; intro a hf
     refine o_end ?_
     refine sy_seq ?_
     refine sy_sq ?_
     refine o_v hf hh (yv_assign rfl) ?_; clear hf a; intro a hf
     refine o_end ?_
     refine sy_block ?_
     refine sy_loopF (σ := Nat) [10, 11, 28, 29, 30, 31, 32, 33, 34, 35, 36, 37, 38, 39, 40, 41, 42, 43, 44, 45, 46] (fun j => [(11, .int .i64 (j : Nat)), (10, .int .i64 ((seenC 0 (ci.take j) : Nat) : Int))]) (fun j => j ≤ ci.length) (fun j => ci.length - j) (0) hf hh ?_ ?_ ?_
     · repeat' (first | exact True.intro | refine And.intro rfl ?_)
     · exact Nat.zero_le _
     ·rintro j a w hj hf hh
      refine sy_seq ?_
      refine sy_sq ?_
      refine o_v hf hh (yv_move rfl) ?_; clear hf a; intro a hf
      refine o_v hf hh (yv_move rfl) ?_; clear hf a; intro a hf
      refine o_v hf hh (yv_move rfl) ?_; clear hf a; intro a hf
      refine o_v hf hh (y_ix Tryd.se_77 rfl rfl) ?_; clear hf a; intro a hf
      refine o_v hf hh (y_ld Tryd.sc_34 rfl) ?_; clear hf a; intro a hf
      refine o_v hf hh (yv_len Tryd.se_34 rfl) ?_; clear hf a; intro a hf
      refine o_v hf hh (yv_bin rfl rfl rfl) ?_; clear hf a; intro a hf
      refine o_end ?_
      refine sy_cond hf rfl (fun hg9 => ?_) (fun hg9 => ?_)
      ·have hG9 := hg9; try simp only [gS] at hG9
       refine sy_skip ?_
       refine then_n ?_
       refine sy_seq ?_
       refine sy_block ?_
       obtain ⟨p, hp⟩ := ex_of (l := ci) (i := j) (by omega)
       have hpr : p.2 < d.r.length := ((Ch_iff.1 hcm).1 p (List.mem_of_getElem? hp)).2.2.2.1
       obtain ⟨g1, g2⟩ := encP_get ci j p hp
       obtain ⟨blk2, off2, cs2, T2, fr2, rfl, hbx2, hcx2⟩ := hvi.resolve_left (by intro e; rw [e] at g1; simp at g1)
       have e2 : cs2[off2 + ((j : Nat) : Int).toNat * 2 + (1 : Int).toNat * 1]? = some (.int .i64 p.2) := by rw [Int.toNat_natCast]; exact hcx2 _ _ g2
       have hs1 := hseen j
       have hst : seenC 0 (ci.take (j + 1)) = seenC 0 (ci.take j) ||| 2 ^ p.2 := by rw [List.take_add_one, hp]; exact seenC_snoc _ _ _
       refine sy_ops ?_
       refine o_v hf hh (yv_move rfl) ?_; clear hf a; intro a hf
       refine o_v hf hh (yv_move rfl) ?_; clear hf a; intro a hf
       refine o_v hf hh (yv_move rfl) ?_; clear hf a; intro a hf
       refine o_v hf hh (y_ix Tryd.se_77 rfl rfl) ?_; clear hf a; intro a hf
       refine o_v hf hh (y_ld Tryd.sc_34 rfl) ?_; clear hf a; intro a hf
       refine o_v hf hh (yv_move rfl) ?_; clear hf a; intro a hf
       refine o_v hf hh (y_ix Tryd.se_34 rfl rfl) ?_; clear hf a; intro a hf
       refine o_v hf hh (y_ia Tryd.ae_45 rfl rfl) ?_; clear hf a; intro a hf
       refine o_v hf hh (y_ld Tryd.sc_3 rfl) ?_; clear hf a; intro a hf
       refine o_call hf Tryd.en_66 rfl rfl rfl (c66 _ p.2 (by omega) (by omega) _) ?_; clear hf a; intro v a w hR hf
       obtain ⟨rfl, hx⟩ := hR; replace hh := hh.more hx; clear hx
       refine o_v hf hh (yv_assign rfl) ?_; clear hf a; intro a hf
       refine ops_end ?_
       refine blk_n ?_
       refine then_n ?_
       refine sy_ops ?_
       refine o_v hf hh (yv_move rfl) ?_; clear hf a; intro a hf
       refine o_v hf hh (y_add rfl rfl) ?_; clear hf a; intro a hf
       refine o_v hf hh (yv_assign rfl) ?_; clear hf a; intro a hf
       refine ops_end ?_
       refine then_n ?_
       exact ⟨j + 1, ⟨by omega, hf.head ⟨rfl, (by rw [hst]; rfl), True.intro⟩ (Keep.cons rfl (Keep.cons rfl (Keep.cons rfl (Keep.cons rfl (Keep.cons rfl (Keep.cons rfl (Keep.cons rfl (Keep.cons rfl (Keep.cons rfl (Keep.cons rfl (Keep.cons rfl (Keep.cons rfl (Keep.cons rfl (Keep.cons rfl (Keep.cons rfl (Keep.cons rfl (Keep.cons rfl (Keep.cons rfl (Keep.cons rfl (Keep.cons rfl (Keep.cons rfl (Keep.app rfl (Keep.rm rfl Keep.base))))))))))))))))))))))), hh⟩, by omega⟩
      ·have hG9 := hg9; try simp only [gS] at hG9
       refine sy_exit ?_
       refine then_e ?_
       refine then_e ?_
       refine blk_e ?_
       refine then_n ?_
       refine sy_seq ?_
       refine sy_seq ?_
       have hjs : ci.take j = ci := List.take_of_length_le (by omega)
       rw [hjs] at hf
       refine sy_ops ?_
       refine o_v hf hh (yv_assign rfl) ?_; clear hf a; intro a hf
       refine o_end ?_
       refine sy_block ?_
       refine sy_loopF (σ := Nat) [7, 12, 47, 48, 49, 50, 51, 52, 53, 54, 55, 56, 57, 58, 59, 60, 61, 62, 63] (fun k2 => [(12, .int .i64 (k2 : Nat)), (7, .int .i64 ((addF (fun i => decide (pN ci i = -1)) (hidLW d.l.length ((wys d).take i)) k2 : Nat) : Int))]) (fun k2 => k2 ≤ d.l.length) (fun k2 => d.l.length - k2) (0) hf hh ?_ ?_ ?_
       · repeat' (first | exact True.intro | refine And.intro rfl ?_)
       · exact Nat.zero_le _
       ·rintro k2 a w hk2 hf hh
        refine sy_seq ?_
        refine sy_sq ?_
        refine o_v hf hh (yv_move rfl) ?_; clear hf a; intro a hf
        refine o_v hf hh (yv_fieldAddr Tryd.fo_26_0 rfl) ?_; clear hf a; intro a hf
        refine o_v hf hh (y_ld Tryd.sc_22 rfl) ?_; clear hf a; intro a hf
        refine o_v hf hh (yv_len Tryd.se_22 rfl) ?_; clear hf a; intro a hf
        refine o_v hf hh (yv_bin rfl rfl rfl) ?_; clear hf a; intro a hf
        refine o_end ?_
        refine sy_cond hf rfl (fun hg12 => ?_) (fun hg12 => ?_)
        ·have hG12 := hg12; try simp only [gS] at hG12
         refine sy_skip ?_
         refine then_n ?_
         refine sy_seq ?_
         refine sy_block ?_
         refine sy_seq ?_
         have hb1 : addF (fun i => decide (pN ci i = -1)) (hidLW d.l.length ((wys d).take i)) k2 < 2 ^ 10 := Nat.lt_of_lt_of_le (addF_lt (hidLW_lt _ _) (by omega)) hL10
         have hst : addF (fun i => decide (pN ci i = -1)) (hidLW d.l.length ((wys d).take i)) (k2 + 1) = if decide (pN ci k2 = -1) then addF (fun i => decide (pN ci i = -1)) (hidLW d.l.length ((wys d).take i)) k2 ||| 2 ^ k2 else addF (fun i => decide (pN ci i = -1)) (hidLW d.l.length ((wys d).take i)) k2 := rfl
         refine sy_ops ?_
         refine o_v hf hh (yv_move rfl) ?_; clear hf a; intro a hf
         refine o_v hf hh (yv_move rfl) ?_; clear hf a; intro a hf
         refine o_v hf hh (y_ix Tryd.se_77 rfl rfl) ?_; clear hf a; intro a hf
         refine o_v hf hh (y_ld Tryd.sc_34 rfl) ?_; clear hf a; intro a hf
         refine o_v hf hh (yv_move rfl) ?_; clear hf a; intro a hf
         refine o_call hf Tryd.en_59 rfl rfl rfl (c59 ci sb1 cb1 k2 _ (hvi.ext hh.ext) hcl) ?_; clear hf a; intro v a w hR hf
         obtain ⟨rfl, hx⟩ := hR; replace hh := hh.more hx; clear hx
         refine o_v hf hh (yv_bin rfl rfl rfl) ?_; clear hf a; intro a hf
         refine o_end ?_
         refine sy_cond hf rfl (fun hg15 => ?_) (fun hg15 => ?_)
         ·have hG15 := hg15; try simp only [gS] at hG15
          refine sy_ops ?_
          refine o_v hf hh (yv_move rfl) ?_; clear hf a; intro a hf
          refine o_v hf hh (yv_move rfl) ?_; clear hf a; intro a hf
          refine o_call hf Tryd.en_66 rfl rfl rfl (c66 _ k2 (by omega) (by omega) _) ?_; clear hf a; intro v a w hR hf
          obtain ⟨rfl, hx⟩ := hR; replace hh := hh.more hx; clear hx
          refine o_v hf hh (yv_assign rfl) ?_; clear hf a; intro a hf
          refine ops_end ?_
          refine blk_n ?_
          refine then_n ?_
          refine sy_ops ?_
          refine o_v hf hh (yv_move rfl) ?_; clear hf a; intro a hf
          refine o_v hf hh (y_add rfl rfl) ?_; clear hf a; intro a hf
          refine o_v hf hh (yv_assign rfl) ?_; clear hf a; intro a hf
          refine ops_end ?_
          refine then_n ?_
          first
            | (rw [decide_eq_true (by assumption), if_pos rfl] at hst
               exact ⟨k2 + 1, ⟨by omega, hf.head ⟨rfl, (by rw [hst]; rfl), True.intro⟩ (Keep.cons rfl (Keep.cons rfl (Keep.cons rfl (Keep.cons rfl (Keep.cons rfl (Keep.cons rfl (Keep.cons rfl (Keep.cons rfl (Keep.cons rfl (Keep.cons rfl (Keep.cons rfl (Keep.cons rfl (Keep.cons rfl (Keep.cons rfl (Keep.cons rfl (Keep.cons rfl (Keep.cons rfl (Keep.cons rfl (Keep.cons rfl (Keep.app rfl (Keep.rm rfl Keep.base))))))))))))))))))))), hh⟩, by omega⟩)
            | (rw [decide_eq_false (by assumption), if_neg (by decide)] at hst
               exact ⟨k2 + 1, ⟨by omega, hf.head ⟨rfl, (by rw [hst]; rfl), True.intro⟩ (Keep.cons rfl (Keep.cons rfl (Keep.cons rfl (Keep.cons rfl (Keep.cons rfl (Keep.cons rfl (Keep.cons rfl (Keep.cons rfl (Keep.cons rfl (Keep.cons rfl (Keep.cons rfl (Keep.cons rfl (Keep.cons rfl (Keep.cons rfl (Keep.cons rfl (Keep.cons rfl (Keep.cons rfl (Keep.cons rfl (Keep.cons rfl (Keep.app rfl (Keep.rm rfl Keep.base))))))))))))))))))))), hh⟩, by omega⟩)
         ·have hG15 := hg15; try simp only [gS] at hG15
          refine sy_skip ?_
          refine blk_n ?_
          refine then_n ?_
          refine sy_ops ?_
          refine o_v hf hh (yv_move rfl) ?_; clear hf a; intro a hf
          refine o_v hf hh (y_add rfl rfl) ?_; clear hf a; intro a hf
          refine o_v hf hh (yv_assign rfl) ?_; clear hf a; intro a hf
          refine ops_end ?_
          refine then_n ?_
          first
            | (rw [decide_eq_true (by assumption), if_pos rfl] at hst
               exact ⟨k2 + 1, ⟨by omega, hf.head ⟨rfl, (by rw [hst]; rfl), True.intro⟩ (Keep.cons rfl (Keep.cons rfl (Keep.cons rfl (Keep.cons rfl (Keep.cons rfl (Keep.cons rfl (Keep.cons rfl (Keep.cons rfl (Keep.cons rfl (Keep.cons rfl (Keep.cons rfl (Keep.cons rfl (Keep.cons rfl (Keep.cons rfl (Keep.cons rfl (Keep.app rfl (Keep.rm rfl Keep.base))))))))))))))))), hh⟩, by omega⟩)
            | (rw [decide_eq_false (by assumption), if_neg (by decide)] at hst
               exact ⟨k2 + 1, ⟨by omega, hf.head ⟨rfl, (by rw [hst]; rfl), True.intro⟩ (Keep.cons rfl (Keep.cons rfl (Keep.cons rfl (Keep.cons rfl (Keep.cons rfl (Keep.cons rfl (Keep.cons rfl (Keep.cons rfl (Keep.cons rfl (Keep.cons rfl (Keep.cons rfl (Keep.cons rfl (Keep.cons rfl (Keep.cons rfl (Keep.cons rfl (Keep.app rfl (Keep.rm rfl Keep.base))))))))))))))))), hh⟩, by omega⟩)
        ·have hG12 := hg12; try simp only [gS] at hG12
         refine sy_exit ?_
         refine then_e ?_
         refine then_e ?_
         refine blk_e ?_
         refine then_n ?_
         refine sy_sq ?_
         refine o_v hf hh (yv_assign rfl) ?_; clear hf a; intro a hf
         refine o_end ?_
         refine sy_block ?_
         refine sy_loopF (σ := Nat) [8, 13, 64, 65, 66, 67, 68, 69, 70, 71, 72, 73, 74, 75, 76, 77] (fun k3 => [(13, .int .i64 (k3 : Nat)), (8, .int .i64 ((addF (fun k => !(seenC 0 ci).testBit k) (hidRW d.r.length ((wys d).take i)) k3 : Nat) : Int))]) (fun k3 => k3 ≤ d.r.length) (fun k3 => d.r.length - k3) (0) hf hh ?_ ?_ ?_
         · repeat' (first | exact True.intro | refine And.intro rfl ?_)
         · exact Nat.zero_le _
         ·rintro k3 a w hk3 hf hh
          refine sy_seq ?_
          refine sy_sq ?_
          refine o_v hf hh (yv_move rfl) ?_; clear hf a; intro a hf
          refine o_v hf hh (yv_fieldAddr Tryd.fo_26_1 rfl) ?_; clear hf a; intro a hf
          refine o_v hf hh (y_ld Tryd.sc_22 rfl) ?_; clear hf a; intro a hf
          refine o_v hf hh (yv_len Tryd.se_22 rfl) ?_; clear hf a; intro a hf
          refine o_v hf hh (yv_bin rfl rfl rfl) ?_; clear hf a; intro a hf
          refine o_end ?_
          refine sy_cond hf rfl (fun hg18 => ?_) (fun hg18 => ?_)
          ·have hG18 := hg18; try simp only [gS] at hG18
           refine sy_skip ?_
           refine then_n ?_
           refine sy_seq ?_
           refine sy_block ?_
           refine sy_seq ?_
           have hb1 : addF (fun k => !(seenC 0 ci).testBit k) (hidRW d.r.length ((wys d).take i)) k3 < 2 ^ 10 := Nat.lt_of_lt_of_le (addF_lt (hidRW_lt _ _) (by omega)) hR10
           have hst : addF (fun k => !(seenC 0 ci).testBit k) (hidRW d.r.length ((wys d).take i)) (k3 + 1) = if !(seenC 0 ci).testBit k3 then addF (fun k => !(seenC 0 ci).testBit k) (hidRW d.r.length ((wys d).take i)) k3 ||| 2 ^ k3 else addF (fun k => !(seenC 0 ci).testBit k) (hidRW d.r.length ((wys d).take i)) k3 := rfl
           refine sy_ops ?_
           refine o_v hf hh (yv_move rfl) ?_; clear hf a; intro a hf
           refine o_v hf hh (yv_move rfl) ?_; clear hf a; intro a hf
           refine o_call hf Tryd.en_71 rfl rfl rfl (c71 _ k3 (by omega) (by omega) _) ?_; clear hf a; intro v a w hR hf
           obtain ⟨rfl, hx⟩ := hR; replace hh := hh.more hx; clear hx
           refine o_v hf hh (yv_not rfl) ?_; clear hf a; intro a hf
           refine o_end ?_
           refine sy_cond hf rfl (fun hg20 => ?_) (fun hg20 => ?_)
           ·have hG20 := hg20; try simp only [gS] at hG20
            refine sy_ops ?_
            refine o_v hf hh (yv_move rfl) ?_; clear hf a; intro a hf
            refine o_v hf hh (yv_move rfl) ?_; clear hf a; intro a hf
            refine o_call hf Tryd.en_66 rfl rfl rfl (c66 _ k3 (by omega) (by omega) _) ?_; clear hf a; intro v a w hR hf
            obtain ⟨rfl, hx⟩ := hR; replace hh := hh.more hx; clear hx
            refine o_v hf hh (yv_assign rfl) ?_; clear hf a; intro a hf
            refine ops_end ?_
            refine blk_n ?_
            refine then_n ?_
            refine sy_ops ?_
            refine o_v hf hh (yv_move rfl) ?_; clear hf a; intro a hf
            refine o_v hf hh (y_add rfl rfl) ?_; clear hf a; intro a hf
            refine o_v hf hh (yv_assign rfl) ?_; clear hf a; intro a hf
            refine ops_end ?_
            refine then_n ?_
            first
              | (rw [show (seenC 0 ci).testBit k3 = false by assumption, if_pos (by decide)] at hst
                 exact ⟨k3 + 1, ⟨by omega, hf.head ⟨rfl, (by rw [hst]; rfl), True.intro⟩ (Keep.cons rfl (Keep.cons rfl (Keep.cons rfl (Keep.cons rfl (Keep.cons rfl (Keep.cons rfl (Keep.cons rfl (Keep.cons rfl (Keep.cons rfl (Keep.cons rfl (Keep.cons rfl (Keep.cons rfl (Keep.cons rfl (Keep.cons rfl (Keep.cons rfl (Keep.cons rfl (Keep.app rfl (Keep.rm rfl Keep.base)))))))))))))))))), hh⟩, by omega⟩)
              | (rw [show (seenC 0 ci).testBit k3 = true by assumption, if_neg (by decide)] at hst
                 exact ⟨k3 + 1, ⟨by omega, hf.head ⟨rfl, (by rw [hst]; rfl), True.intro⟩ (Keep.cons rfl (Keep.cons rfl (Keep.cons rfl (Keep.cons rfl (Keep.cons rfl (Keep.cons rfl (Keep.cons rfl (Keep.cons rfl (Keep.cons rfl (Keep.cons rfl (Keep.cons rfl (Keep.cons rfl (Keep.cons rfl (Keep.cons rfl (Keep.cons rfl (Keep.cons rfl (Keep.app rfl (Keep.rm rfl Keep.base)))))))))))))))))), hh⟩, by omega⟩)
           ·have hG20 := hg20; try simp only [gS] at hG20
            refine sy_skip ?_
            refine blk_n ?_
            refine then_n ?_
            refine sy_ops ?_
            refine o_v hf hh (yv_move rfl) ?_; clear hf a; intro a hf
            refine o_v hf hh (y_add rfl rfl) ?_; clear hf a; intro a hf
            refine o_v hf hh (yv_assign rfl) ?_; clear hf a; intro a hf
            refine ops_end ?_
            refine then_n ?_
            first
              | (rw [show (seenC 0 ci).testBit k3 = false by assumption, if_pos (by decide)] at hst
                 exact ⟨k3 + 1, ⟨by omega, hf.head ⟨rfl, (by rw [hst]; rfl), True.intro⟩ (Keep.cons rfl (Keep.cons rfl (Keep.cons rfl (Keep.cons rfl (Keep.cons rfl (Keep.cons rfl (Keep.cons rfl (Keep.cons rfl (Keep.cons rfl (Keep.cons rfl (Keep.cons rfl (Keep.cons rfl (Keep.app rfl (Keep.rm rfl Keep.base)))))))))))))), hh⟩, by omega⟩)
              | (rw [show (seenC 0 ci).testBit k3 = true by assumption, if_neg (by decide)] at hst
                 exact ⟨k3 + 1, ⟨by omega, hf.head ⟨rfl, (by rw [hst]; rfl), True.intro⟩ (Keep.cons rfl (Keep.cons rfl (Keep.cons rfl (Keep.cons rfl (Keep.cons rfl (Keep.cons rfl (Keep.cons rfl (Keep.cons rfl (Keep.cons rfl (Keep.cons rfl (Keep.cons rfl (Keep.cons rfl (Keep.app rfl (Keep.rm rfl Keep.base)))))))))))))), hh⟩, by omega⟩)
          ·have hG18 := hg18; try simp only [gS] at hG18
           refine sy_exit ?_
           refine then_e ?_
           refine then_e ?_
           refine blk_e ?_
           refine blk_n ?_
           refine then_n ?_
           refine sy_ops ?_
           refine o_v hf hh (yv_move rfl) ?_; clear hf a; intro a hf
           refine o_v hf hh (y_add rfl rfl) ?_; clear hf a; intro a hf
           refine o_v hf hh (yv_assign rfl) ?_; clear hf a; intro a hf
           refine ops_end ?_
           refine then_n ?_
           have htk : (wys d).take (i + 1) = (wys d).take i ++ [ci] := by rw [List.take_add_one, hci]; rfl
           have q1 : hidLW d.l.length ((wys d).take (i + 1)) = addF (fun i => decide (pN ci i = -1)) (hidLW d.l.length ((wys d).take i)) k2 := by rw [htk, hidLW_snoc, show k2 = d.l.length by omega]
           have q2 : hidRW d.r.length ((wys d).take (i + 1)) = addF (fun k => !(seenC 0 ci).testBit k) (hidRW d.r.length ((wys d).take i)) k3 := by rw [htk, hidRW_snoc, show k3 = d.r.length by omega]
           exact ⟨i + 1, ⟨by omega, hf.head ⟨rfl, (by rw [q1]; rfl), (by rw [q2]; rfl), True.intro⟩ (Keep.cons rfl (Keep.cons rfl (Keep.cons rfl (Keep.cons rfl (Keep.cons rfl (Keep.cons rfl (Keep.cons rfl (Keep.cons rfl (Keep.app rfl (Keep.rm rfl (Keep.cons rfl (Keep.cons rfl (Keep.cons rfl (Keep.cons rfl (Keep.cons rfl (Keep.cons rfl (Keep.app rfl (Keep.rm rfl (Keep.cons rfl (Keep.cons rfl (Keep.cons rfl (Keep.cons rfl (Keep.cons rfl (Keep.cons rfl (Keep.cons rfl (Keep.cons rfl (Keep.app rfl (Keep.rm rfl (Keep.cons rfl (Keep.cons rfl (Keep.cons rfl (Keep.cons rfl (Keep.cons rfl (Keep.cons rfl (Keep.app rfl (Keep.rm rfl Keep.base)))))))))))))))))))))))))))))))))))), hh⟩, by omega⟩
    ·have hG7 := hg7; try simp only [gS] at hG7
     refine sy_exit ?_
     refine then_e ?_
     refine then_e ?_
     refine blk_e ?_
     refine then_n ?_
     refine sy_sq ?_
     refine o_v hf hh (yv_move rfl) ?_; clear hf a; intro a hf
     refine o_v hf hh (yv_move rfl) ?_; clear hf a; intro a hf
     refine o_v hf hh (yv_assign rfl) ?_; clear hf a; intro a hf
     refine o_v hf hh (yv_assign rfl) ?_; clear hf a; intro a hf
     refine o_v hf hh (yv_assign rfl) ?_; clear hf a; intro a hf
     refine o_end ?_
     refine sy_ret ?_
     refine ret_r hf rfl rfl ?_
     rw [h0, if_pos rfl, if_pos rfl, ← hidLW_all, ← hidRW_all, List.take_of_length_le (by omega)]
     exact ⟨rfl, he1.trans hh.ext⟩
end Go.Proofs.YtemmhdgaagaglaaDoor
namespace Go.Proofs.YtemmhdgaagaglaaDoor
open Go Go.Sy Go.MatM
set_option maxRecDepth 100000 in
set_option maxHeartbeats 4000000 in
theorem c8 (d : RowsD) (sa sb : Option Addr) (ca cb : Nat) (u : World) (hA : MkAt u sa d.l) (hB : MkAt u sb d.r) (hT : GTab u) : Calls Tryd.prog 8 #[rowsV d sa sb ca cb] u (Ret fun v w' => v = .bool true ∧ Ext [] u w') := by
  refine calls_of Tryd.func8 rfl rfl (fun a hf => ?_)
  have hh := Hp.init u []
  refine sy_sq ?_
  refine o_box hf hh ?_; clear hf hh a; intro B1 a w hf hh
  refine o_v hf hh (yv_assign rfl) ?_; clear hf a; intro a hf
  refine o_end ?_
  refine sy_seq ?_
  refine sy_sq ?_
  refine o_v hf hh (y_lds Tryd.ag_26 rfl) ?_; clear hf a; intro a hf
  refine o_call hf Tryd.en_13 rfl rfl rfl (c13 d sa sb ca cb _ (hA.ext hh.ext) (hB.ext hh.ext) 5) ?_; clear hf a; intro v a w hR hf
  obtain ⟨rfl, hx⟩ := hR; replace hh := hh.more hx; clear hx
  refine o_end ?_
  refine sy_cond hf rfl (fun hg2 => ?_) (fun hg2 => ?_)
  ·have hG2 := hg2; try simp only [gS] at hG2
   refine sy_sq ?_
   refine o_call hf Tryd.en_14 rfl rfl rfl (c14 _ (hT.ext hh.ext (by simp))) ?_; clear hf a; intro v a w hR hf
   obtain ⟨rfl, hx⟩ := hR; replace hh := hh.more hx; clear hx
   refine o_v hf hh (yv_assign rfl) ?_; clear hf a; intro a hf
   refine o_end ?_
   refine sy_ret ?_
   refine then_r ?_
   refine ret_r hf rfl rfl ?_
   exact ⟨rfl, hh.ext⟩
  ·have hG2 := hg2; try simp only [gS] at hG2
   refine sy_skip ?_
   refine then_n ?_
   refine sy_seq ?_
   have hlen : d.l.length ≤ 24 ∧ d.r.length ≤ 24 := by first | (simp_all; done) | (simp_all; omega)
   have hl : d.l.length ≤ 1000 := by omega
   have hr : d.r.length ≤ 1000 := by omega
   have hlc : (if opE d true = 0 then canL d else []).length ≤ 1000000 := by split <;> simp [canL] <;> omega
   have hls : (if opE d true = 0 then sureL d else []).length ≤ 1000000 := by split <;> simp [sureL] <;> omega
   refine sy_ops ?_
   refine o_v hf hh (y_lds Tryd.ag_26 rfl) ?_; clear hf a; intro a hf
   refine o_call hf Tryd.en_30 rfl rfl rfl (c30 d sa sb ca cb _ (hA.ext hh.ext) (hB.ext hh.ext)) ?_; clear hf a; intro v a w hR hf
   obtain ⟨sv1, X1, rfl, hown1, hx⟩ := hR; replace hh := (hh.join hx).perm List.perm_append_comm; clear hx
   obtain ⟨oa1, cap1, rfl⟩ := OwnSl_val hown1
   refine o_v hf hh (yv_move rfl) ?_; clear hf a; intro a hf
   refine o_v hf hh (yv_extract rfl rfl) ?_; clear hf a; intro a hf
   refine o_v hf hh (yv_extract rfl rfl) ?_; clear hf a; intro a hf
   refine o_v hf hh (yv_assign rfl) ?_; clear hf a; intro a hf
   refine o_v hf hh (yv_assign rfl) ?_; clear hf a; intro a hf
   refine o_end ?_
   refine sy_sq ?_
   refine o_v hf hh (y_lds Tryd.ag_26 rfl) ?_; clear hf a; intro a hf
   refine o_call hf Tryd.en_31 rfl rfl rfl (c31 d sa sb ca cb _ (hA.ext hh.ext) (hB.ext hh.ext) hl hr) ?_; clear hf a; intro v a w hR hf
   obtain ⟨oa2, n2, cap2, rfl, hn2, hv2, hx⟩ := hR; replace hh := hh.more hx; clear hx; subst hn2
   refine o_v hf hh (yv_move rfl) ?_; clear hf a; intro a hf
   refine o_v hf hh (yv_extract rfl rfl) ?_; clear hf a; intro a hf
   refine o_v hf hh (yv_extract rfl rfl) ?_; clear hf a; intro a hf
   refine o_v hf hh (yv_assign rfl) ?_; clear hf a; intro a hf
   refine o_v hf hh (yv_assign rfl) ?_; clear hf a; intro a hf
   refine o_end ?_
   refine sy_sq ?_
   refine o_v hf hh (y_lds Tryd.ag_26 rfl) ?_; clear hf a; intro a hf
   refine o_call hf Tryd.en_32 rfl rfl rfl (c32 d sa sb ca cb _ (hA.ext hh.ext) (hB.ext hh.ext) (hT.ext hh.ext (by simp))) ?_; clear hf a; intro v a w hR hf
   obtain ⟨sv3, X3, rfl, hown3, hx⟩ := hR; have hx3 := hx.ext; replace hh := (hh.join hx).perm List.perm_append_comm; clear hx
   obtain ⟨oa3, cap3, rfl⟩ := OwnSl_val hown3
   replace hv2 := hv2.ext hx3
   refine o_v hf hh (yv_move rfl) ?_; clear hf a; intro a hf
   refine o_v hf hh (yv_extract rfl rfl) ?_; clear hf a; intro a hf
   refine o_v hf hh (yv_extract rfl rfl) ?_; clear hf a; intro a hf
   refine o_v hf hh (yv_assign rfl) ?_; clear hf a; intro a hf
   refine o_v hf hh (yv_assign rfl) ?_; clear hf a; intro a hf
   refine o_end ?_
   refine sy_sq ?_
   refine o_v hf hh (y_lds Tryd.ag_26 rfl) ?_; clear hf a; intro a hf
   refine o_call hf Tryd.en_33 rfl rfl rfl (c33 d sa sb ca cb _ (hA.ext hh.ext) (hB.ext hh.ext) hl hr) ?_; clear hf a; intro v a w hR hf
   obtain ⟨oa4, n4, cap4, rfl, hn4, hv4, hx⟩ := hR; replace hv2 := hv2.ext hx; replace hh := hh.more hx; clear hx; subst hn4
   refine o_v hf hh (yv_move rfl) ?_; clear hf a; intro a hf
   refine o_v hf hh (yv_extract rfl rfl) ?_; clear hf a; intro a hf
   refine o_v hf hh (yv_extract rfl rfl) ?_; clear hf a; intro a hf
   refine o_v hf hh (yv_assign rfl) ?_; clear hf a; intro a hf
   refine o_v hf hh (yv_assign rfl) ?_; clear hf a; intro a hf
   refine o_end ?_
   refine sy_sq ?_
   refine o_v hf hh (y_lds Tryd.ag_26 rfl) ?_; clear hf a; intro a hf
   refine o_call hf Tryd.en_34 rfl rfl rfl (c34 d sa sb ca cb _ (hA.ext hh.ext) (hB.ext hh.ext)) ?_; clear hf a; intro v a w hR hf
   obtain ⟨rfl, hx⟩ := hR; replace hv2 := hv2.ext hx; replace hv4 := hv4.ext hx; replace hh := hh.more hx; clear hx
   refine o_v hf hh (yv_move rfl) ?_; clear hf a; intro a hf
   refine o_v hf hh (yv_extract rfl rfl) ?_; clear hf a; intro a hf
   refine o_v hf hh (yv_extract rfl rfl) ?_; clear hf a; intro a hf
   refine o_v hf hh (yv_extract rfl rfl) ?_; clear hf a; intro a hf
   refine o_v hf hh (yv_assign rfl) ?_; clear hf a; intro a hf
   refine o_v hf hh (yv_assign rfl) ?_; clear hf a; intro a hf
   refine o_v hf hh (yv_assign rfl) ?_; clear hf a; intro a hf
   refine o_end ?_
   refine sy_sq ?_
   refine o_v hf hh (y_lds Tryd.ag_26 rfl) ?_; clear hf a; intro a hf
   refine o_call hf Tryd.en_35 rfl rfl rfl (c35 d sa sb ca cb _ (hA.ext hh.ext) (hB.ext hh.ext) hl hr) ?_; clear hf a; intro v a w hR hf
   obtain ⟨rfl, hx⟩ := hR; replace hv2 := hv2.ext hx; replace hv4 := hv4.ext hx; replace hh := hh.more hx; clear hx
   refine o_v hf hh (yv_move rfl) ?_; clear hf a; intro a hf
   refine o_v hf hh (yv_extract rfl rfl) ?_; clear hf a; intro a hf
   refine o_v hf hh (yv_extract rfl rfl) ?_; clear hf a; intro a hf
   refine o_v hf hh (yv_extract rfl rfl) ?_; clear hf a; intro a hf
   refine o_v hf hh (yv_assign rfl) ?_; clear hf a; intro a hf
   refine o_v hf hh (yv_assign rfl) ?_; clear hf a; intro a hf
   refine o_v hf hh (yv_assign rfl) ?_; clear hf a; intro a hf
   refine o_end ?_
   refine sy_sq ?_
   refine o_v hf hh (yv_move rfl) ?_; clear hf a; intro a hf
   refine o_v hf hh (yv_move rfl) ?_; clear hf a; intro a hf
   refine o_call hf Tryd.en_36 rfl rfl rfl (c36 _ _ oa1 oa2 cap1 cap2 _ (valsAt_own hown1 fun x hx => hh.get x (by simp [hx])) hv2 hlc) ?_; clear hf a; intro v a w hR hf
   obtain ⟨rfl, hx⟩ := hR; replace hv4 := hv4.ext hx; replace hh := hh.more hx; clear hx
   refine o_v hf hh (yv_move rfl) ?_; clear hf a; intro a hf
   refine o_v hf hh (yv_move rfl) ?_; clear hf a; intro a hf
   refine o_v hf hh (yv_move rfl) ?_; clear hf a; intro a hf
   refine o_v hf hh (yv_bin rfl rfl rfl) ?_; clear hf a; intro a hf
   refine o_v hf hh (y_pt rfl rfl) ?_; clear hf a; intro a hf
   refine o_v hf hh (yv_move rfl) ?_; clear hf a; intro a hf
   refine o_v hf hh (yv_move rfl) ?_; clear hf a; intro a hf
   refine o_v hf hh (yv_move rfl) ?_; clear hf a; intro a hf
   refine o_call hf Tryd.en_36 rfl rfl rfl (c36 _ _ oa3 oa4 cap3 cap4 _ (valsAt_own hown3 fun x hx => hh.get x (by simp [hx])) hv4 hls) ?_; clear hf a; intro v a w hR hf
   obtain ⟨rfl, hx⟩ := hR; replace hh := hh.more hx; clear hx
   refine o_v hf hh (y_pt rfl rfl) ?_; clear hf a; intro a hf
   refine o_v hf hh (yv_move rfl) ?_; clear hf a; intro a hf
   refine o_v hf hh (yv_move rfl) ?_; clear hf a; intro a hf
   refine o_v hf hh (yv_move rfl) ?_; clear hf a; intro a hf
   refine o_v hf hh (yv_bin rfl rfl rfl) ?_; clear hf a; intro a hf
   refine o_v hf hh (y_pt rfl rfl) ?_; clear hf a; intro a hf
   refine o_v hf hh (yv_move rfl) ?_; clear hf a; intro a hf
   refine o_v hf hh (yv_move rfl) ?_; clear hf a; intro a hf
   refine o_v hf hh (yv_move rfl) ?_; clear hf a; intro a hf
   refine o_v hf hh (yv_bin rfl rfl rfl) ?_; clear hf a; intro a hf
   refine o_v hf hh (y_pt rfl rfl) ?_; clear hf a; intro a hf
   refine o_v hf hh (yv_move rfl) ?_; clear hf a; intro a hf
   refine o_v hf hh (yv_move rfl) ?_; clear hf a; intro a hf
   refine o_v hf hh (yv_move rfl) ?_; clear hf a; intro a hf
   refine o_v hf hh (yv_bin rfl rfl rfl) ?_; clear hf a; intro a hf
   refine o_v hf hh (y_pt rfl rfl) ?_; clear hf a; intro a hf
   refine o_v hf hh (yv_move rfl) ?_; clear hf a; intro a hf
   refine o_v hf hh (yv_move rfl) ?_; clear hf a; intro a hf
   refine o_v hf hh (yv_move rfl) ?_; clear hf a; intro a hf
   refine o_v hf hh (yv_bin rfl rfl rfl) ?_; clear hf a; intro a hf
   refine o_v hf hh (y_pt rfl rfl) ?_; clear hf a; intro a hf
   refine o_v hf hh (yv_move rfl) ?_; clear hf a; intro a hf
   refine o_call hf Tryd.en_14 rfl rfl rfl (c14 _ (hT.ext hh.ext (by simp))) ?_; clear hf a; intro v a w hR hf
   obtain ⟨rfl, hx⟩ := hR; replace hh := hh.more hx; clear hx
   refine o_v hf hh (y_pt rfl rfl) ?_; clear hf a; intro a hf
   refine o_v hf hh (yv_assign rfl) ?_; clear hf a; intro a hf
   refine o_end ?_
   refine sy_ret ?_
   refine ret_r hf rfl rfl ?_
   exact ⟨rfl, hh.ext⟩
end Go.Proofs.YtemmhdgaagaglaaDoor
