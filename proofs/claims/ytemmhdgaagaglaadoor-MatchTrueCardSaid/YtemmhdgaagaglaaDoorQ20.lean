/- Lemmas, in order: Integers in memory that are made and turned one by one. The reference's Can, walked. The reference's Sure and Hides, walked. MatchSets, walked. Plain laws: rows that are made, with the pairs that truly are. Numbers that are drawn: where the drawer lies. Numbers that are drawn, walked. Orders of blocks; a world seen from before a block was laid. Rows that are made, walked. MatchSure, walked. MatchTrue, walked. Slices of numbers of 16 bits that a law is handed.. -/
import Derived.Test.YtemmhdgaagaglaaDoorQ19
namespace Go.MatM
open Go Go.Sy Go.Proofs Go.RowKit
theorem made_grid (n : Nat) : Grid n 1 (fun _ _ => 0) (madeCells (Value.int .i64 0).cells (n * 1)) := by
  refine ⟨by simp [madeCells], fun i k hi hk => ?_⟩
  have hk0 : k = 0 := by omega
  subst hk0
  unfold madeCells
  rw [Array.getElem?_map, Array.getElem?_range, if_pos (by omega)]
  have e : (Value.int .i64 0).cells = #[.int .i64 0] := rfl
  rw [e]
  simp [Nat.mod_one]
theorem grid_one {n i : Nat} {G : Nat → Nat → Int} {cs : Array Value} (h : Grid n 1 G cs) (hi : i < n) : cs[0 + ((i : Nat) : Int).toNat * 1]? = some (.int .i64 (G i 0)) := by
  have := h.get i 0 hi (by omega)
  rw [Int.toNat_natCast, Nat.zero_add]; exact this
theorem pair_cells {cs : Array Value} {off : Nat} {c : List Pr} {j : Nat} {p : Pr} (hp : c[j]? = some p) (hcx : ∀ j v, (encP c)[j]? = some v → cs[off + j]? = some v) : cellsAt cs (off + ((j : Nat) : Int).toNat * 2) 2 = some [.int .i64 (p.1 : Int), .int .i64 (p.2 : Int)] := by
  obtain ⟨g1, g2⟩ := encP_get c j p hp
  rw [Int.toNat_natCast]
  refine cellsAt_of [.int .i64 (p.1 : Int), .int .i64 (p.2 : Int)] _ fun k v hk => ?_
  match k, hk with
  | 0, hk => cases hk; exact hcx _ _ g1
  | 1, hk => cases hk; exact hcx _ _ g2
theorem grid_vals {w : World} {B n : Nat} {G : Nat → Nat → Int} {cs : Array Value} {T : TypeId} {fr : Nat × Nat} (h : Grid n 1 G cs) (hb : w.heap[B]? = some (.cells cs T fr)) {f : Nat → Int} (e : ∀ i, i < n → G i 0 = f i) : ValsAt w (some ⟨B, 0, none⟩) (ivs ((List.range n).map f)) :=
  .inr ⟨B, 0, cs, T, fr, rfl, hb, fun j v hj => by
    have hjn : j < n := by have := (List.getElem?_eq_some_iff.1 hj).1; simpa using this
    have := h.get j 0 hjn (by omega)
    rw [Nat.mul_one, Nat.add_zero, e j hjn] at this
    rw [Nat.zero_add, this]
    unfold ivs at hj
    rw [List.map_map, List.getElem?_map, List.getElem?_range hjn] at hj
    exact hj⟩
end Go.MatM
namespace Go.Proofs.YtemmhdgaagaglaaDoor
open Go Go.Sy Go.MatM
theorem c91 (n : Nat) (hn : n ≤ 60) (u : World) : Calls Tryd.prog 91 #[.int .i64 (n : Nat)] u (Ret fun v w' => v = .int .i64 ((2 ^ n : Nat) : Int) ∧ Ext [] u w') := by
  refine calls_of Tryd.func91 rfl rfl (fun a hf => ?_)
  have hh := Hp.init u []
  refine sy_sq ?_
  refine o_v hf hh (yv_assign rfl) ?_; clear hf a; intro a hf
  refine o_end ?_
  refine sy_sq ?_
  refine o_v hf hh (yv_assign rfl) ?_; clear hf a; intro a hf
  refine o_end ?_
  refine sy_seq ?_
  refine sy_sq ?_
  refine o_v hf hh (yv_assign rfl) ?_; clear hf a; intro a hf
  refine o_end ?_
  refine sy_block ?_
  refine sy_loopF (σ := Nat) [3, 4, 5, 6, 7, 8, 9, 10, 11] (fun i => [(4, .int .i64 (i : Nat)), (3, .int .i64 ((2 ^ i : Nat) : Int))]) (fun i => i ≤ n) (fun i => n - i) (0) hf hh ?_ ?_ ?_
  · repeat' (first | exact True.intro | refine And.intro rfl ?_)
  · exact Nat.zero_le _
  ·rintro i a w hi hf hh
   refine sy_seq ?_
   refine sy_sq ?_
   refine o_v hf hh (yv_move rfl) ?_; clear hf a; intro a hf
   refine o_v hf hh (yv_move rfl) ?_; clear hf a; intro a hf
   refine o_v hf hh (yv_bin rfl rfl rfl) ?_; clear hf a; intro a hf
   refine o_end ?_
   refine sy_cond hf rfl (fun hg2 => ?_) (fun hg2 => ?_)
   ·have hG2 := hg2; try simp only [gS] at hG2
    refine sy_skip ?_
    refine then_n ?_
    refine sy_seq ?_
    refine sy_block ?_
    have hz2 : 2 ^ (i + 1) = 2 * 2 ^ i := by rw [Nat.pow_succ]; omega
    have hzb : 2 ^ i ≤ 2 ^ 60 := Nat.pow_le_pow_right (by decide) (by omega)
    obtain ⟨z, hz⟩ : ∃ z : Nat, z = 2 ^ i := ⟨_, rfl⟩
    rw [← hz] at hf hz2 hzb
    refine sy_ops ?_
    refine o_v hf hh (yv_move rfl) ?_; clear hf a; intro a hf
    refine ops_v hf hh (yv_cast (yv_mul rfl rfl (by omega) (by omega)) (intv (b := ((2 ^ (i + 1) : Nat) : Int)) (by rw [hz2]; omega))) (.inl rfl) rfl rfl rfl ?_; clear hf a; intro a hf
    refine o_v hf hh (yv_assign rfl) ?_; clear hf a; intro a hf
    refine ops_end ?_
    refine blk_n ?_
    refine then_n ?_
    refine sy_ops ?_
    refine o_v hf hh (yv_move rfl) ?_; clear hf a; intro a hf
    refine o_v hf hh (y_add rfl rfl) ?_; clear hf a; intro a hf
    refine o_v hf hh (yv_assign rfl) ?_; clear hf a; intro a hf
    refine ops_end ?_
    refine then_n ?_
    exact ⟨i + 1, ⟨by omega, (hf.head (by repeat' (first | exact True.intro | refine And.intro rfl ?_)) (Keep.cons rfl (Keep.cons rfl (Keep.cons rfl (Keep.cons rfl (Keep.cons rfl (Keep.cons rfl (Keep.cons rfl (Keep.cons rfl (Keep.cons rfl (Keep.app rfl (Keep.rm rfl Keep.base)))))))))))), hh⟩, by omega⟩
   ·have hG2 := hg2; try simp only [gS] at hG2
    refine sy_exit ?_
    refine then_e ?_
    refine then_e ?_
    refine blk_e ?_
    refine then_n ?_
    refine sy_sq ?_
    refine o_v hf hh (yv_move rfl) ?_; clear hf a; intro a hf
    refine o_v hf hh (yv_assign rfl) ?_; clear hf a; intro a hf
    refine o_end ?_
    refine sy_ret ?_
    refine ret_r hf rfl rfl ?_
    rw [show n = i by omega]
    exact ⟨rfl, hh.ext⟩
theorem c71 (s n : Nat) (hs : s ≤ 2305843009213693952) (hn : n ≤ 60) (u : World) : Calls Tryd.prog 71 #[.int .i64 (s : Nat), .int .i64 (n : Nat)] u (Ret fun v w' => v = .bool (s.testBit n) ∧ Ext [] u w') := by
  refine calls_of Tryd.func71 rfl rfl (fun a hf => ?_)
  have hh := Hp.init u []
  have hz0 : 0 < 2 ^ n := Nat.two_pow_pos _
  have hy : ∀ y z : Nat, 0 < z → 0 ≤ (y : Int) ∧ 1 ≤ (z : Int) := fun y z h => ⟨Int.natCast_nonneg _, by omega⟩
  refine sy_sq ?_
  refine o_v hf hh (yv_assign rfl) ?_; clear hf a; intro a hf
  refine o_end ?_
  refine sy_sq ?_
  refine o_v hf hh (yv_move rfl) ?_; clear hf a; intro a hf
  refine o_v hf hh (yv_move rfl) ?_; clear hf a; intro a hf
  refine o_call hf Tryd.en_91 rfl rfl rfl (c91 n hn _) ?_; clear hf a; intro v a w hR hf
  obtain ⟨rfl, hx⟩ := hR; replace hh := hh.more hx; clear hx
  refine ops_v hf hh (yv_cast (yv_quo rfl rfl (hy s _ hz0).1 (hy s _ hz0).2 (by omega)) (intv (b := ((s / 2 ^ n : Nat) : Int)) rfl)) (.inl rfl) rfl rfl rfl ?_; clear hf a; intro a hf
  refine ops_v hf hh (yv_cast (yv_rem rfl rfl (Int.natCast_nonneg _) (by omega)) (intv (b := ((s / 2 ^ n % 2 : Nat) : Int)) rfl)) (.inl rfl) rfl rfl rfl ?_; clear hf a; intro a hf
  refine o_v hf hh (yv_cast (yv_bin rfl rfl rfl) (congrArg Value.bool (has_bit s n))) ?_; clear hf a; intro a hf
  refine o_v hf hh (yv_assign rfl) ?_; clear hf a; intro a hf
  refine o_end ?_
  refine sy_ret ?_
  refine ret_r hf rfl rfl ?_
  exact ⟨rfl, hh.ext⟩
theorem c66 (s n : Nat) (hs : s ≤ 1152921504606846976) (hn : n ≤ 60) (u : World) : Calls Tryd.prog 66 #[.int .i64 (s : Nat), .int .i64 (n : Nat)] u (Ret fun v w' => v = .int .i64 ((s ||| 2 ^ n : Nat) : Int) ∧ Ext [] u w') := by
  refine calls_of Tryd.func66 rfl rfl (fun a hf => ?_)
  have hh := Hp.init u []
  refine sy_sq ?_
  refine o_v hf hh (yv_assign rfl) ?_; clear hf a; intro a hf
  refine o_end ?_
  refine sy_seq ?_
  refine sy_sq ?_
  refine o_v hf hh (yv_move rfl) ?_; clear hf a; intro a hf
  refine o_v hf hh (yv_move rfl) ?_; clear hf a; intro a hf
  refine o_call hf Tryd.en_71 rfl rfl rfl (c71 s n (by omega) hn _) ?_; clear hf a; intro v a w hR hf
  obtain ⟨rfl, hx⟩ := hR; replace hh := hh.more hx; clear hx
  refine o_end ?_
  refine sy_cond hf rfl (fun hg2 => ?_) (fun hg2 => ?_)
  ·have hG2 := hg2; try simp only [gS] at hG2
   refine sy_sq ?_
   refine o_v hf hh (yv_move rfl) ?_; clear hf a; intro a hf
   refine o_v hf hh (yv_assign rfl) ?_; clear hf a; intro a hf
   refine o_end ?_
   refine sy_ret ?_
   refine then_r ?_
   refine ret_r hf rfl rfl ?_
   rw [or_same (by assumption)]
   exact ⟨rfl, hh.ext⟩
  ·have hG2 := hg2; try simp only [gS] at hG2
   refine sy_skip ?_
   refine then_n ?_
   refine sy_seq ?_
   have hz : ∀ z : Nat, z ≤ 2 ^ 60 → -9223372036854775808 ≤ (s : Int) + (z : Int) ∧ (s : Int) + (z : Int) ≤ 9223372036854775807 := fun z h => ⟨by omega, by omega⟩
   have hzb := hz _ (Nat.pow_le_pow_right (n := 2) (by decide) hn)
   refine sy_ops ?_
   refine o_v hf hh (yv_move rfl) ?_; clear hf a; intro a hf
   refine o_v hf hh (yv_move rfl) ?_; clear hf a; intro a hf
   refine o_call hf Tryd.en_91 rfl rfl rfl (c91 n hn _) ?_; clear hf a; intro v a w hR hf
   obtain ⟨rfl, hx⟩ := hR; replace hh := hh.more hx; clear hx
   refine ops_v hf hh (yv_cast (yv_add rfl rfl hzb.1 hzb.2) (intv (b := ((s ||| 2 ^ n : Nat) : Int)) (by rw [or_pow (by assumption)]; rfl))) (.inl rfl) rfl rfl rfl ?_; clear hf a; intro a hf
   refine o_v hf hh (yv_assign rfl) ?_; clear hf a; intro a hf
   refine o_end ?_
   refine sy_ret ?_
   refine ret_r hf rfl rfl ?_
   exact ⟨rfl, hh.ext⟩
set_option maxHeartbeats 4000000 in
theorem c31 (d : RowsD) (sa sb : Option Addr) (ca cb : Nat) (u : World) (hA : MkAt u sa d.l) (hB : MkAt u sb d.r) (hl : d.l.length ≤ 1000) (hr : d.r.length ≤ 1000) : Calls Tryd.prog 31 #[rowsV d sa sb ca cb] u (Ret fun v w' => ∃ oa n cp, v = .tuple #[.slice oa n cp, .int .i64 (opE d true)] ∧ n = (if opE d true = 0 then canL d else []).length ∧ ValsAt w' oa (ivs (if opE d true = 0 then canL d else [])) ∧ Ext [] u w') := by
  refine calls_of Tryd.func31 rfl rfl (fun a hf => ?_)
  have hh := Hp.init u []
  refine sy_sq ?_
  refine o_box hf hh ?_; clear hf hh a; intro B1 a w hf hh
  refine o_v hf hh (yv_assign rfl) ?_; clear hf a; intro a hf
  refine o_v hf hh (yv_assign rfl) ?_; clear hf a; intro a hf
  refine o_end ?_
  refine sy_sq ?_
  refine o_v hf hh (y_lds Tryd.ag_26 rfl) ?_; clear hf a; intro a hf
  refine o_call hf Tryd.en_52 rfl rfl rfl (c52 d sa sb ca cb _ (hA.ext hh.ext) (hB.ext hh.ext) hl hr true) ?_; clear hf a; intro v a w hR hf
  obtain ⟨s, hs, X, rfl, hop, hx⟩ := hR; have he1 := hh.ext.trans hx.ext
  have hb1 := hx.ext.get (hh.get (B1, .cells (rowsV d sa sb ca cb).cells 26) (by simp))
  have hA1 := (hA.ext hh.ext).ext hx.ext
  have hB1 := (hB.ext hh.ext).ext hx.ext
  obtain ⟨u1, rfl⟩ : ∃ z, z = w := ⟨_, rfl⟩
  replace hh := Hp.init u1 []
  
  refine o_v hf hh (yv_move rfl) ?_; clear hf a; intro a hf
  refine o_v hf hh (yv_extract rfl rfl) ?_; clear hf a; intro a hf
  refine o_v hf hh (yv_extract rfl rfl) ?_; clear hf a; intro a hf
  refine o_v hf hh (yv_assign rfl) ?_; clear hf a; intro a hf
  refine o_v hf hh (yv_assign rfl) ?_; clear hf a; intro a hf
  refine o_end ?_
  refine sy_seq ?_
  refine sy_sq ?_
  refine o_v hf hh (yv_move rfl) ?_; clear hf a; intro a hf
  refine o_v hf hh (yv_bin rfl rfl rfl) ?_; clear hf a; intro a hf
  refine o_end ?_
  refine sy_cond hf rfl (fun hg5 => ?_) (fun hg5 => ?_)
  ·have hG5 := hg5; try simp only [gS] at hG5
   refine sy_sq ?_
   refine o_v hf hh (yv_move rfl) ?_; clear hf a; intro a hf
   refine o_v hf hh (yv_assign rfl) ?_; clear hf a; intro a hf
   refine o_v hf hh (yv_assign rfl) ?_; clear hf a; intro a hf
   refine o_end ?_
   refine sy_ret ?_
   refine then_r ?_
   refine ret_r hf rfl rfl ?_
   have hne : opE d true ≠ 0 := by omega
   rw [if_neg hne]
   exact ⟨none, 0, 0, rfl, rfl, .inl rfl, he1.trans hh.ext⟩
  ·have hG5 := hg5; try simp only [gS] at hG5
   refine sy_skip ?_
   refine then_n ?_
   refine sy_seq ?_
   have h0 : opE d true = 0 := by omega
   have hV := (okRows_iff d).1 (opE_zero.1 h0).1
   obtain ⟨hO, hD⟩ := hop h0
   have hwl := wys_long hV
   have hwc : ∀ c ∈ wys d, c.length ≤ 1000 := fun c hc => by have := wys_len hV hc; omega
   have hnl := hV.nl; have hnr := hV.nr
   obtain ⟨oa, cp, rfl⟩ := OwnSl_val hO
   have hW := WaysAt.mk hO (fun x hq => hx.get x hq) hD
   refine sy_ops ?_
   refine o_v hf hh (yv_fieldAddr Tryd.fo_26_0 rfl) ?_; clear hf a; intro a hf
   refine o_v hf hh (y_ld Tryd.sc_22 rfl) ?_; clear hf a; intro a hf
   refine o_v hf hh (yv_len Tryd.se_22 rfl) ?_; clear hf a; intro a hf
   refine ops_make hf hh Tryd.eb_55 rfl rfl (by omega) (by omega) (.inl rfl) rfl ?_; clear hf hh a; intro B21 a w hf hh
   have hG0 := made_grid d.l.length
   refine o_v hf hh (yv_assign rfl) ?_; clear hf a; intro a hf
   refine o_end ?_
   refine sy_seq ?_
   refine sy_sq ?_
   refine o_v hf hh (yv_assign rfl) ?_; clear hf a; intro a hf
   refine o_end ?_
   refine sy_block ?_
   refine sy_loopH (σ := Nat) [7, 8, 9, 22, 23, 24, 25, 26, 27, 28, 29, 30, 31, 32, 33, 34, 35, 36, 37, 38, 39, 40, 41, 42, 43, 44, 45, 46, 47, 48, 49, 50, 51, 52, 53, 54, 55] (fun i => [(7, .int .i64 (i : Nat))]) (fun i => fun w' => i ≤ (wys d).length ∧ ∃ cs, Grid d.l.length 1 (fun x _ => ((orW x ((wys d).take i) : Nat) : Int)) cs ∧ Hp u1 [] [(B21, .cells cs 3)] w') (fun i => (wys d).length - i) (0) hf ?_ ?_ ?_
   · repeat' (first | exact True.intro | refine And.intro rfl ?_)
   · exact ⟨Nat.zero_le _, _, hG0, hh⟩
   ·rintro i a w ⟨hi, cs1, hG1, hh⟩ hf
    refine sy_seq ?_
    refine sy_sq ?_
    refine o_v hf hh (yv_move rfl) ?_; clear hf a; intro a hf
    refine o_v hf hh (yv_move rfl) ?_; clear hf a; intro a hf
    refine o_v hf hh (yv_len Tryd.se_77 rfl) ?_; clear hf a; intro a hf
    refine o_v hf hh (yv_bin rfl rfl rfl) ?_; clear hf a; intro a hf
    refine o_end ?_
    refine sy_cond hf rfl (fun hg8 => ?_) (fun hg8 => ?_)
    ·have hG8 := hg8; try simp only [gS] at hG8
     refine sy_skip ?_
     refine then_n ?_
     refine sy_seq ?_
     refine sy_block ?_
     refine sy_seq ?_
     obtain ⟨ci, hci⟩ := ex_of (l := wys d) (i := i) (by omega)
     obtain ⟨blk, off, cs, T, fr, sb1, cb1, rfl, hbx, hcc, hvi⟩ := WaysAt.get hW hci
     have hcl := hwc ci (List.mem_of_getElem? hci)
     have hcm := (mem_wys.1 (List.mem_of_getElem? hci)).1
     refine sy_ops ?_
     refine o_v hf hh (yv_assign rfl) ?_; clear hf a; intro a hf
     refine o_end ?_
     refine sy_block ?_
     refine sy_loopH (σ := Nat) [8, 9, 28, 29, 30, 31, 32, 33, 34, 35, 36, 37, 38, 39, 40, 41, 42, 43, 44, 45, 46, 47, 48, 49, 50, 51, 52, 53, 54, 55] (fun j => [(8, .int .i64 (j : Nat))]) (fun j => fun w' => j ≤ ci.length ∧ ∃ cs, Grid d.l.length 1 (fun x _ => ((orC x (orW x ((wys d).take i)) (ci.take j) : Nat) : Int)) cs ∧ Hp u1 [] [(B21, .cells cs 3)] w') (fun j => ci.length - j) (0) hf ?_ ?_ ?_
     · repeat' (first | exact True.intro | refine And.intro rfl ?_)
     · exact ⟨Nat.zero_le _, _, hG1, hh⟩
     ·rintro j a w ⟨hj, cs2, hG2, hh⟩ hf
      refine sy_seq ?_
      refine sy_sq ?_
      refine o_v hf hh (yv_move rfl) ?_; clear hf a; intro a hf
      refine o_v hf hh (yv_move rfl) ?_; clear hf a; intro a hf
      refine o_v hf hh (yv_move rfl) ?_; clear hf a; intro a hf
      refine o_v hf hh (y_ix Tryd.se_77 rfl rfl) ?_; clear hf a; intro a hf
      refine o_v hf hh (y_ld Tryd.sc_34 rfl) ?_; clear hf a; intro a hf
      refine o_v hf hh (yv_len Tryd.se_34 rfl) ?_; clear hf a; intro a hf
      refine o_v hf hh (yv_bin rfl rfl rfl) ?_; clear hf a; intro a hf
      refine o_end ?_
      refine sy_cond hf rfl (fun hg10 => ?_) (fun hg10 => ?_)
      ·have hG10 := hg10; try simp only [gS] at hG10
       refine sy_skip ?_
       refine then_n ?_
       refine sy_seq ?_
       refine sy_block ?_
       refine sy_seq ?_
       obtain ⟨p, hp⟩ := ex_of (l := ci) (i := j) (by omega)
       have hpm := (Ch_iff.1 hcm).1 p (List.mem_of_getElem? hp)
       have hpl : p.1 < d.l.length := hpm.2.1
       have hpr : p.2 < d.r.length := hpm.2.2.2.1
       obtain ⟨blk2, off2, cs2, T2, fr2, rfl, hbx2, hcx2⟩ := hvi.resolve_left (by intro e; have := encP_get ci j p hp; rw [e] at this; simp at this)
       have hpc := pair_cells hp hcx2
       have hg1 := grid_one hG2 hpl
       have hsl : orC p.1 (orW p.1 ((wys d).take i)) (ci.take j) < 2 ^ 10 := orC_lt (n := 10) (by
         have h1 : ∀ k, (orW p.1 ((wys d).take i)).testBit k = true → k < 10 := fun k h => by
           unfold orW at h
           rw [orW_bit, Nat.zero_testBit, Bool.false_or, decide_eq_true_eq] at h
           obtain ⟨c, hc, hm⟩ := h
           have : k < d.r.length := ((Ch_iff.1 (mem_wys.1 (List.mem_of_mem_take hc)).1).1 _ hm).2.2.2.1
           omega
         exact Nat.lt_pow_two_of_testBit _ fun k hk => by cases h : (orW p.1 ((wys d).take i)).testBit k with
           | false => rfl
           | true => have := h1 k h; omega) (fun q hq => by
         have : q.2 < d.r.length := ((Ch_iff.1 hcm).1 q (List.mem_of_mem_take hq)).2.2.2.1
         omega)
       have hszc := hG2.size
       refine sy_ops ?_
       refine o_v hf hh (yv_move rfl) ?_; clear hf a; intro a hf
       refine o_v hf hh (yv_move rfl) ?_; clear hf a; intro a hf
       refine o_v hf hh (y_ix Tryd.se_77 rfl rfl) ?_; clear hf a; intro a hf
       refine o_v hf hh (y_ld Tryd.sc_34 rfl) ?_; clear hf a; intro a hf
       refine o_v hf hh (yv_move rfl) ?_; clear hf a; intro a hf
       refine o_v hf hh (y_ix Tryd.se_34 rfl rfl) ?_; clear hf a; intro a hf
       refine o_v hf hh (y_lds Tryd.ag_45 rfl) ?_; clear hf a; intro a hf
       refine o_alloc hf hh Tryd.ze_45 ?_; clear hf hh a; intro B9 a w hf hh
       refine o_store hf hh Tryd.sz_45 fun w hh => ?_
       refine o_end ?_
       refine sy_tree1 (.p 0 (.p 1 (.q 0 2 (.p 3 (.p 4 (.q 0 5 (.p 6 (.q 0 7 (.p 8 (.q 0 9 (.e1 10 (.p 11 (.e1 12 (.fin)))))))))))))) [12] Tryd.follows (by kernel_rfl) hh (fun w hh => ?_)
       refine mc_p rfl   hf (yv_move rfl) (.inl rfl) rfl rfl ?_; clear hf a; intro a hf
       refine mc_p rfl   hf (y_ia Tryd.ae_45 rfl rfl) (.inl rfl) rfl rfl ?_; clear hf a; intro a hf
       refine mc_q rfl rfl hh hf (y_ld Tryd.sc_3 rfl) (.inl rfl) rfl rfl ?_; clear hf a; intro a hf
       refine mc_p rfl   hf (yv_move rfl) (.inl rfl) rfl rfl ?_; clear hf a; intro a hf
       refine mc_p rfl   hf (y_ia Tryd.ae_45 rfl rfl) (.inl rfl) rfl rfl ?_; clear hf a; intro a hf
       refine mc_q rfl rfl hh hf (y_ld Tryd.sc_3 rfl) (.inl rfl) rfl rfl ?_; clear hf a; intro a hf
       refine mc_p rfl   hf (y_ix Tryd.se_55 rfl rfl) (.inl rfl) rfl rfl ?_; clear hf a; intro a hf
       refine mc_q rfl rfl hh hf (y_ld Tryd.sc_3 rfl) (.inl rfl) rfl rfl ?_; clear hf a; intro a hf
       refine mc_p rfl   hf (y_ia Tryd.ae_45 rfl rfl) (.inl rfl) rfl rfl ?_; clear hf a; intro a hf
       refine mc_q rfl rfl hh hf (y_ld Tryd.sc_3 rfl) (.inl rfl) rfl rfl ?_; clear hf a; intro a hf
       refine mc_e rfl fun Q1 => ?_
       refine o_call hf Tryd.en_66 rfl rfl rfl (c66 _ p.2 (by omega) (by omega) _) ?_; clear hf a; intro v a w hR hf
       obtain ⟨rfl, hx⟩ := hR; replace hh := hh.more hx; clear hx
       refine ops_end ?_
       refine then_n ⟨⟨fun _ _ => hh, trivial⟩, ?_⟩
       refine mc_p rfl   hf (y_ix Tryd.se_55 rfl rfl) (.inl rfl) rfl rfl ?_; clear hf a; intro a hf
       refine mc_e rfl fun Q1 => ?_
       refine o_store (i := 1) hf hh Tryd.sz_3 (hx := rfl) (hi := atI (i := 1) rfl) (hy := rfl) (hl := Nat.ble_eq_true_of_le (by rw [Int.toNat_natCast]; omega)) fun w hh => ?_
       refine ops_end ?_
       refine then_n ⟨⟨fun h => Bool.noConfusion (show true = false from h), trivial⟩, ?_⟩
       refine mc_end ?_
       refine blk_n ?_
       refine then_n ?_
       refine sy_ops ?_
       refine o_v hf hh (yv_move rfl) ?_; clear hf a; intro a hf
       refine o_v hf hh (y_add rfl rfl) ?_; clear hf a; intro a hf
       refine o_v hf hh (yv_assign rfl) ?_; clear hf a; intro a hf
       refine ops_end ?_
       refine then_n ?_
       refine ⟨j + 1, ⟨⟨by omega, _, (hG2.set (off := 0 + ((p.1 : Nat) : Int).toNat * 1) hpl (Nat.zero_lt_one) (by rw [Int.toNat_natCast]; omega) _).congr fun x k hx hk => ?_, hh.less (.cons _ (List.Sublist.refl _))⟩, hf.head ⟨rfl, True.intro⟩ (Keep.cons rfl (Keep.cons rfl (Keep.cons rfl (Keep.cons rfl (Keep.cons rfl (Keep.cons rfl (Keep.cons rfl (Keep.cons rfl (Keep.cons rfl (Keep.cons rfl (Keep.cons rfl (Keep.cons rfl (Keep.cons rfl (Keep.cons rfl (Keep.cons rfl (Keep.cons rfl (Keep.cons rfl (Keep.cons rfl (Keep.cons rfl (Keep.cons rfl (Keep.cons rfl (Keep.cons rfl (Keep.cons rfl (Keep.cons rfl (Keep.cons rfl (Keep.cons rfl (Keep.cons rfl (Keep.cons rfl (Keep.cons rfl (Keep.cons rfl (Keep.app rfl (Keep.rm rfl Keep.base))))))))))))))))))))))))))))))))⟩, by omega⟩
       have hk0 : k = 0 := by omega
       subst hk0
       rw [List.take_add_one, hp]
       show updG _ p.1 0 _ x 0 = ((orC x (orW x ((wys d).take i)) (ci.take j ++ [p]) : Nat) : Int)
       rw [orC_snoc]
       unfold updG
       by_cases e : x = p.1
       · subst e; rw [if_pos ⟨rfl, rfl⟩, if_pos rfl]
       · rw [if_neg (fun h => e h.1), if_neg (fun h => e h.symm)]
      ·have hG10 := hg10; try simp only [gS] at hG10
       refine sy_exit ?_
       refine then_e ?_
       refine then_e ?_
       refine blk_e ?_
       refine blk_n ?_
       refine then_n ?_
       refine sy_ops ?_
       refine o_v hf hh (yv_move rfl) ?_; clear hf a; intro a hf
       refine o_v hf hh (y_add rfl rfl) ?_; clear hf a; intro a hf
       refine o_v hf hh (yv_assign rfl) ?_; clear hf a; intro a hf
       refine ops_end ?_
       refine then_n ?_
       have hcn : ∀ x, orW x ((wys d).take (i + 1)) = orC x (orW x ((wys d).take i)) (ci.take j) := fun x => by rw [List.take_add_one, hci, List.take_of_length_le (show ci.length ≤ j by omega)]; exact orW_snoc _ _ _
       exact ⟨i + 1, ⟨⟨by omega, cs2, hG2.congr fun x k _ _ => by rw [hcn], hh⟩, hf.head ⟨rfl, True.intro⟩ (Keep.cons rfl (Keep.cons rfl (Keep.cons rfl (Keep.cons rfl (Keep.cons rfl (Keep.cons rfl (Keep.cons rfl (Keep.cons rfl (Keep.cons rfl (Keep.cons rfl (Keep.app rfl (Keep.rm rfl (Keep.cons rfl (Keep.cons rfl (Keep.cons rfl (Keep.cons rfl (Keep.cons rfl (Keep.app rfl (Keep.rm rfl Keep.base)))))))))))))))))))⟩, by omega⟩
    ·have hG8 := hg8; try simp only [gS] at hG8
     refine sy_exit ?_
     refine then_e ?_
     refine then_e ?_
     refine blk_e ?_
     refine then_n ?_
     refine sy_sq ?_
     refine o_v hf hh (yv_move rfl) ?_; clear hf a; intro a hf
     refine o_v hf hh (yv_assign rfl) ?_; clear hf a; intro a hf
     refine o_v hf hh (yv_assign rfl) ?_; clear hf a; intro a hf
     refine o_end ?_
     refine sy_ret ?_
     refine ret_r hf rfl rfl ?_
     rw [h0, if_pos rfl]
     refine ⟨some ⟨B21, 0, none⟩, d.l.length, d.l.length, rfl, by simp [canL], grid_vals hG1 (hh.at (i := 0) rfl) (fun x hx => ?_), he1.trans hh.ext⟩
     rw [List.take_of_length_le (by omega), orW_all hx]
end Go.Proofs.YtemmhdgaagaglaaDoor
namespace Go.Proofs.YtemmhdgaagaglaaDoor
open Go Go.Sy Go.MatM
set_option maxHeartbeats 4000000 in
theorem c33 (d : RowsD) (sa sb : Option Addr) (ca cb : Nat) (u : World) (hA : MkAt u sa d.l) (hB : MkAt u sb d.r) (hl : d.l.length ≤ 1000) (hr : d.r.length ≤ 1000) : Calls Tryd.prog 33 #[rowsV d sa sb ca cb] u (Ret fun v w' => ∃ oa n cp, v = .tuple #[.slice oa n cp, .int .i64 (opE d true)] ∧ n = (if opE d true = 0 then sureL d else []).length ∧ ValsAt w' oa (ivs (if opE d true = 0 then sureL d else [])) ∧ Ext [] u w') := by
  refine calls_of Tryd.func33 rfl rfl (fun a hf => ?_)
  have hh := Hp.init u []
  refine sy_sq ?_
  refine o_box hf hh ?_; clear hf hh a; intro B1 a w hf hh
  refine o_v hf hh (yv_assign rfl) ?_; clear hf a; intro a hf
  refine o_v hf hh (yv_assign rfl) ?_; clear hf a; intro a hf
  refine o_end ?_
  refine sy_sq ?_
  refine o_v hf hh (y_lds Tryd.ag_26 rfl) ?_; clear hf a; intro a hf
  refine o_call hf Tryd.en_52 rfl rfl rfl (c52 d sa sb ca cb _ (hA.ext hh.ext) (hB.ext hh.ext) hl hr true) ?_; clear hf a; intro v a w hR hf
  obtain ⟨s, hs, X, rfl, hop, hx⟩ := hR; have he1 := hh.ext.trans hx.ext
  have hb1 := hx.ext.get (hh.get (B1, .cells (rowsV d sa sb ca cb).cells 26) (by simp))
  have hA1 := (hA.ext hh.ext).ext hx.ext
  have hB1 := (hB.ext hh.ext).ext hx.ext
  obtain ⟨u1, rfl⟩ : ∃ z, z = w := ⟨_, rfl⟩
  replace hh := Hp.init u1 []
  
  refine o_v hf hh (yv_move rfl) ?_; clear hf a; intro a hf
  refine o_v hf hh (yv_extract rfl rfl) ?_; clear hf a; intro a hf
  refine o_v hf hh (yv_extract rfl rfl) ?_; clear hf a; intro a hf
  refine o_v hf hh (yv_assign rfl) ?_; clear hf a; intro a hf
  refine o_v hf hh (yv_assign rfl) ?_; clear hf a; intro a hf
  refine o_end ?_
  refine sy_seq ?_
  refine sy_sq ?_
  refine o_v hf hh (yv_move rfl) ?_; clear hf a; intro a hf
  refine o_v hf hh (yv_bin rfl rfl rfl) ?_; clear hf a; intro a hf
  refine o_end ?_
  refine sy_cond hf rfl (fun hg5 => ?_) (fun hg5 => ?_)
  ·have hG5 := hg5; try simp only [gS] at hG5
   refine sy_sq ?_
   refine o_v hf hh (yv_move rfl) ?_; clear hf a; intro a hf
   refine o_v hf hh (yv_assign rfl) ?_; clear hf a; intro a hf
   refine o_v hf hh (yv_assign rfl) ?_; clear hf a; intro a hf
   refine o_end ?_
   refine sy_ret ?_
   refine then_r ?_
   refine ret_r hf rfl rfl ?_
   have hne : opE d true ≠ 0 := by omega
   rw [if_neg hne]
   exact ⟨none, 0, 0, rfl, rfl, .inl rfl, he1.trans hh.ext⟩
  ·have hG5 := hg5; try simp only [gS] at hG5
   refine sy_skip ?_
   refine then_n ?_
   refine sy_seq ?_
   have h0 : opE d true = 0 := by omega
   have hV := (okRows_iff d).1 (opE_zero.1 h0).1
   obtain ⟨hO, hD⟩ := hop h0
   have hwl := wys_long hV
   have hwc : ∀ c ∈ wys d, c.length ≤ 1000 := fun c hc => by have := wys_len hV hc; omega
   have hnl := hV.nl; have hnr := hV.nr
   obtain ⟨oa, cp, rfl⟩ := OwnSl_val hO
   have hW := WaysAt.mk hO (fun x hq => hx.get x hq) hD
   obtain ⟨c0, l0, hw0⟩ := wys_head h0
   obtain ⟨blk0, off0, cs0, T0, fr0, sb0, cb0, rfl, hbx0, hcc0, hv0⟩ := WaysAt.get hW (i := 0) (c := c0) (by rw [hw0]; rfl)
   have hcl0 := hwc c0 (by rw [hw0]; exact .head _)
   have hl0 : 0 < (wys d).length := by rw [hw0]; simp
   refine sy_ops ?_
   refine o_v hf hh (yv_assign rfl) ?_; clear hf a; intro a hf
   refine o_end ?_
   refine sy_seq ?_
   refine sy_sq ?_
   refine o_v hf hh (yv_assign rfl) ?_; clear hf a; intro a hf
   refine o_end ?_
   refine sy_block ?_
   refine sy_loopH (σ := Nat × Value × List (Nat × Obj)) [6, 7, 8, 9, 18, 19, 20, 21, 22, 23, 24, 25, 26, 27, 28, 29, 30, 31, 32, 33, 34, 35, 36, 37, 38, 39, 40, 41, 42, 43, 44, 45, 46, 47] (fun q => [(7, .int .i64 (q.1 : Nat)), (6, q.2.1)]) (fun q => fun w' => q.1 ≤ d.l.length ∧ OwnSl 3 1 q.2.1 q.1 (ivs ((sureL d).take q.1)) q.2.2 ∧ Hp u1 [] q.2.2 w') (fun q => d.l.length - q.1) ((0, .slice none 0 0, [])) hf ?_ ?_ ?_
   · repeat' (first | exact True.intro | refine And.intro rfl ?_)
   · exact ⟨Nat.zero_le _, OwnSl.nil _ _, hh⟩
   ·rintro q a w ⟨hi, hO6, hh⟩ hf
    obtain ⟨i, v6, X6⟩ := q
    simp only at hi hO6 hh hf ⊢
    refine sy_seq ?_
    refine sy_sq ?_
    refine o_v hf hh (yv_move rfl) ?_; clear hf a; intro a hf
    refine o_v hf hh (yv_fieldAddr Tryd.fo_26_0 rfl) ?_; clear hf a; intro a hf
    refine o_v hf hh (y_ld Tryd.sc_22 rfl) ?_; clear hf a; intro a hf
    refine o_v hf hh (yv_len Tryd.se_22 rfl) ?_; clear hf a; intro a hf
    refine o_v hf hh (yv_bin rfl rfl rfl) ?_; clear hf a; intro a hf
    refine o_end ?_
    refine sy_cond hf rfl (fun hg7 => ?_) (fun hg7 => ?_)
    ·have hG7 := hg7; try simp only [gS] at hG7
     refine sy_skip ?_
     refine then_n ?_
     refine sy_seq ?_
     refine sy_block ?_
     refine sy_sq ?_
     refine o_v hf hh (yv_move rfl) ?_; clear hf a; intro a hf
     refine o_v hf hh (y_ix Tryd.se_77 rfl rfl) ?_; clear hf a; intro a hf
     refine o_v hf hh (y_ld Tryd.sc_34 rfl) ?_; clear hf a; intro a hf
     refine o_v hf hh (yv_move rfl) ?_; clear hf a; intro a hf
     refine o_call hf Tryd.en_59 rfl rfl rfl (c59 c0 sb0 cb0 i _ (hv0.ext hh.ext) hcl0) ?_; clear hf a; intro v a w hR hf
     obtain ⟨rfl, hx⟩ := hR; replace hh := hh.more hx; clear hx
     refine o_v hf hh (yv_assign rfl) ?_; clear hf a; intro a hf
     refine o_end ?_
     refine sy_seq ?_
     refine sy_sq ?_
     refine o_v hf hh (yv_assign rfl) ?_; clear hf a; intro a hf
     refine o_end ?_
     refine sy_block ?_
     refine sy_loopF (σ := Nat) [8, 9, 30, 31, 32, 33, 34, 35, 36, 37, 38, 39, 40, 41, 42, 43] (fun k => [(9, .int .i64 (k : Nat)), (8, .int .i64 (sureR c0 i ((wys d).take k)))]) (fun k => k ≤ (wys d).length) (fun k => (wys d).length - k) (0) hf hh ?_ ?_ ?_
     · repeat' (first | exact True.intro | refine And.intro rfl ?_)
     · exact Nat.zero_le _
     ·rintro k a w hk hf hh
      refine sy_seq ?_
      refine sy_sq ?_
      refine o_v hf hh (yv_move rfl) ?_; clear hf a; intro a hf
      refine o_v hf hh (yv_move rfl) ?_; clear hf a; intro a hf
      refine o_v hf hh (yv_len Tryd.se_77 rfl) ?_; clear hf a; intro a hf
      refine o_v hf hh (yv_bin rfl rfl rfl) ?_; clear hf a; intro a hf
      refine o_end ?_
      refine sy_cond hf rfl (fun hg10 => ?_) (fun hg10 => ?_)
      ·have hG10 := hg10; try simp only [gS] at hG10
       refine sy_skip ?_
       refine then_n ?_
       refine sy_seq ?_
       refine sy_block ?_
       refine sy_seq ?_
       obtain ⟨ck, hck⟩ := ex_of (l := wys d) (i := k) (by omega)
       obtain ⟨blk, off, cs, T, fr, sb1, cb1, e1, hbx, hcc, hvi⟩ := WaysAt.get hW hck
       cases e1
       have hcl := hwc ck (List.mem_of_getElem? hck)
       have hst : sureR c0 i ((wys d).take (k + 1)) = if pN ck i = sureR c0 i ((wys d).take k) then sureR c0 i ((wys d).take k) else -1 := by rw [List.take_add_one, hck]; exact sureR_snoc _ _ _ _
       refine sy_ops ?_
       refine o_v hf hh (yv_move rfl) ?_; clear hf a; intro a hf
       refine o_v hf hh (yv_move rfl) ?_; clear hf a; intro a hf
       refine o_v hf hh (y_ix Tryd.se_77 rfl rfl) ?_; clear hf a; intro a hf
       refine o_v hf hh (y_ld Tryd.sc_34 rfl) ?_; clear hf a; intro a hf
       refine o_v hf hh (yv_move rfl) ?_; clear hf a; intro a hf
       refine o_call hf Tryd.en_59 rfl rfl rfl (c59 ck sb1 cb1 i _ (hvi.ext hh.ext) hcl) ?_; clear hf a; intro v a w hR hf
       obtain ⟨rfl, hx⟩ := hR; replace hh := hh.more hx; clear hx
       refine o_v hf hh (yv_move rfl) ?_; clear hf a; intro a hf
       refine o_v hf hh (yv_bin rfl rfl rfl) ?_; clear hf a; intro a hf
       refine o_end ?_
       refine sy_cond hf rfl (fun hg13 => ?_) (fun hg13 => ?_)
       ·have hG13 := hg13; try simp only [gS] at hG13
        refine sy_ops ?_
        refine o_v hf hh (yv_assign rfl) ?_; clear hf a; intro a hf
        refine ops_end ?_
        refine blk_n ?_
        refine then_n ?_
        refine sy_ops ?_
        refine o_v hf hh (yv_move rfl) ?_; clear hf a; intro a hf
        refine o_v hf hh (y_add rfl rfl) ?_; clear hf a; intro a hf
        refine o_v hf hh (yv_assign rfl) ?_; clear hf a; intro a hf
        refine ops_end ?_
        refine then_n ?_
        first
          | (rw [if_neg (by assumption)] at hst
             exact ⟨k + 1, ⟨by omega, hf.head ⟨rfl, (by rw [hst]; rfl), True.intro⟩ (Keep.cons rfl (Keep.cons rfl (Keep.cons rfl (Keep.cons rfl (Keep.cons rfl (Keep.cons rfl (Keep.cons rfl (Keep.cons rfl (Keep.cons rfl (Keep.cons rfl (Keep.cons rfl (Keep.cons rfl (Keep.cons rfl (Keep.cons rfl (Keep.cons rfl (Keep.cons rfl (Keep.app rfl (Keep.rm rfl Keep.base)))))))))))))))))), hh⟩, by omega⟩)
          | (rw [if_pos (by omega)] at hst
             exact ⟨k + 1, ⟨by omega, hf.head ⟨rfl, (by rw [hst]; rfl), True.intro⟩ (Keep.cons rfl (Keep.cons rfl (Keep.cons rfl (Keep.cons rfl (Keep.cons rfl (Keep.cons rfl (Keep.cons rfl (Keep.cons rfl (Keep.cons rfl (Keep.cons rfl (Keep.cons rfl (Keep.cons rfl (Keep.cons rfl (Keep.cons rfl (Keep.cons rfl (Keep.cons rfl (Keep.app rfl (Keep.rm rfl Keep.base)))))))))))))))))), hh⟩, by omega⟩)
       ·have hG13 := hg13; try simp only [gS] at hG13
        refine sy_skip ?_
        refine blk_n ?_
        refine then_n ?_
        refine sy_ops ?_
        refine o_v hf hh (yv_move rfl) ?_; clear hf a; intro a hf
        refine o_v hf hh (y_add rfl rfl) ?_; clear hf a; intro a hf
        refine o_v hf hh (yv_assign rfl) ?_; clear hf a; intro a hf
        refine ops_end ?_
        refine then_n ?_
        first
          | (rw [if_neg (by assumption)] at hst
             exact ⟨k + 1, ⟨by omega, hf.head ⟨rfl, (by rw [hst]; rfl), True.intro⟩ (Keep.cons rfl (Keep.cons rfl (Keep.cons rfl (Keep.cons rfl (Keep.cons rfl (Keep.cons rfl (Keep.cons rfl (Keep.cons rfl (Keep.cons rfl (Keep.cons rfl (Keep.cons rfl (Keep.cons rfl (Keep.cons rfl (Keep.cons rfl (Keep.cons rfl (Keep.app rfl (Keep.rm rfl Keep.base))))))))))))))))), hh⟩, by omega⟩)
          | (rw [if_pos (by omega)] at hst
             exact ⟨k + 1, ⟨by omega, hf.head ⟨rfl, (by rw [hst]; rfl), True.intro⟩ (Keep.cons rfl (Keep.cons rfl (Keep.cons rfl (Keep.cons rfl (Keep.cons rfl (Keep.cons rfl (Keep.cons rfl (Keep.cons rfl (Keep.cons rfl (Keep.cons rfl (Keep.cons rfl (Keep.cons rfl (Keep.cons rfl (Keep.cons rfl (Keep.cons rfl (Keep.app rfl (Keep.rm rfl Keep.base))))))))))))))))), hh⟩, by omega⟩)
      ·have hG10 := hg10; try simp only [gS] at hG10
       refine sy_exit ?_
       refine then_e ?_
       refine then_e ?_
       refine blk_e ?_
       refine then_n ?_
       have hsr : sureR c0 i ((wys d).take k) = sureN d i := by rw [List.take_of_length_le (by omega)]; exact sureR_all hnr hw0 (by omega)
       have htk := ivs_take (f := sureN d) (show i < d.l.length by omega)
       refine sy_ops ?_
       refine o_v hf hh (yv_move rfl) ?_; clear hf a; intro a hf
       refine ops_v hf hh (yv_cast (yv_move rfl) (intv (b := sureN d i) hsr)) (.inl rfl) rfl rfl rfl ?_; clear hf a; intro a hf
       refine ops_buildSl hf hh Tryd.bl_55_1 rfl rfl (.inl rfl) rfl ?_; clear hf hh; clear a; intro B46 a w hf hh
       refine ops_append (e := 3) (size := 1) (xs := ivs ((sureL d).take i)) (X := X6) (Z := []) (m := i) (q := 1) hf (by rw [List.append_nil]; exact hh) Tryd.eb_55 rfl rfl hO6 rfl rfl rfl (by simp only [maxLen]; omega) (by omega) (.inl rfl) rfl ?_; clear hf hh a; intro v7 X7 a w hO7 hf hh
       rw [List.append_nil] at hh
       refine o_v hf hh (yv_assign rfl) ?_; clear hf a; intro a hf
       refine ops_end ?_
       refine blk_n ?_
       refine then_n ?_
       refine sy_ops ?_
       refine o_v hf hh (yv_move rfl) ?_; clear hf a; intro a hf
       refine o_v hf hh (y_add rfl rfl) ?_; clear hf a; intro a hf
       refine o_v hf hh (yv_assign rfl) ?_; clear hf a; intro a hf
       refine ops_end ?_
       refine then_n ?_
       exact ⟨(i + 1, v7, X7), ⟨⟨by simp only; omega, by simp only; unfold sureL; rw [htk]; exact hO7, hh⟩, hf.head ⟨rfl, rfl, True.intro⟩ (Keep.cons rfl (Keep.cons rfl (Keep.cons rfl (Keep.cons rfl (Keep.cons rfl (Keep.cons rfl (Keep.cons rfl (Keep.cons rfl (Keep.cons rfl (Keep.cons rfl (Keep.cons rfl (Keep.cons rfl (Keep.app rfl (Keep.rm rfl (Keep.cons rfl (Keep.cons rfl (Keep.cons rfl (Keep.cons rfl (Keep.cons rfl (Keep.cons rfl (Keep.cons rfl (Keep.cons rfl (Keep.cons rfl (Keep.cons rfl (Keep.cons rfl (Keep.cons rfl (Keep.app rfl (Keep.rm rfl Keep.base))))))))))))))))))))))))))))⟩, by simp only; omega⟩
    ·have hG7 := hg7; try simp only [gS] at hG7
     refine sy_exit ?_
     refine then_e ?_
     refine then_e ?_
     refine blk_e ?_
     refine then_n ?_
     refine sy_sq ?_
     refine o_v hf hh (yv_move rfl) ?_; clear hf a; intro a hf
     refine o_v hf hh (yv_assign rfl) ?_; clear hf a; intro a hf
     refine o_v hf hh (yv_assign rfl) ?_; clear hf a; intro a hf
     refine o_end ?_
     refine sy_ret ?_
     refine ret_r hf rfl rfl ?_
     have hil : i = d.l.length := by omega
     have hsl : (sureL d).length = d.l.length := by simp [sureL]
     rw [List.take_of_length_le (by omega)] at hO6
     obtain ⟨oa6, cp6, rfl⟩ := OwnSl_val hO6
     rw [h0, if_pos rfl]
     exact ⟨oa6, i, cp6, rfl, by omega, valsAt_own hO6 fun x hx => hh.get x hx, he1.trans hh.ext⟩
set_option maxHeartbeats 4000000 in
theorem c35 (d : RowsD) (sa sb : Option Addr) (ca cb : Nat) (u : World) (hA : MkAt u sa d.l) (hB : MkAt u sb d.r) (hl : d.l.length ≤ 1000) (hr : d.r.length ≤ 1000) : Calls Tryd.prog 35 #[rowsV d sa sb ca cb] u (Ret fun v w' => v = .tuple #[.int .i64 (if opE d true = 0 then (hideA d : Int) else 0), .int .i64 (if opE d true = 0 then (hideB d : Int) else 0), .int .i64 (opE d true)] ∧ Ext [] u w') := by
  refine calls_of Tryd.func35 rfl rfl (fun a hf => ?_)
  have hh := Hp.init u []
  refine sy_sq ?_
  refine o_box hf hh ?_; clear hf hh a; intro B1 a w hf hh
  refine o_v hf hh (yv_assign rfl) ?_; clear hf a; intro a hf
  refine o_v hf hh (yv_assign rfl) ?_; clear hf a; intro a hf
  refine o_v hf hh (yv_assign rfl) ?_; clear hf a; intro a hf
  refine o_end ?_
  refine sy_sq ?_
  refine o_v hf hh (y_lds Tryd.ag_26 rfl) ?_; clear hf a; intro a hf
  refine o_call hf Tryd.en_52 rfl rfl rfl (c52 d sa sb ca cb _ (hA.ext hh.ext) (hB.ext hh.ext) hl hr true) ?_; clear hf a; intro v a w hR hf
  obtain ⟨s, hs, X, rfl, hop, hx⟩ := hR; have he1 := hh.ext.trans hx.ext
  have hb1 := hx.ext.get (hh.get (B1, .cells (rowsV d sa sb ca cb).cells 26) (by simp))
  have hA1 := (hA.ext hh.ext).ext hx.ext
  have hB1 := (hB.ext hh.ext).ext hx.ext
  obtain ⟨u1, rfl⟩ : ∃ z, z = w := ⟨_, rfl⟩
  replace hh := Hp.init u1 []
  
  refine o_v hf hh (yv_move rfl) ?_; clear hf a; intro a hf
  refine o_v hf hh (yv_extract rfl rfl) ?_; clear hf a; intro a hf
  refine o_v hf hh (yv_extract rfl rfl) ?_; clear hf a; intro a hf
  refine o_v hf hh (yv_assign rfl) ?_; clear hf a; intro a hf
  refine o_v hf hh (yv_assign rfl) ?_; clear hf a; intro a hf
  refine o_end ?_
  refine sy_seq ?_
  refine sy_sq ?_
  refine o_v hf hh (yv_move rfl) ?_; clear hf a; intro a hf
  refine o_v hf hh (yv_bin rfl rfl rfl) ?_; clear hf a; intro a hf
  refine o_end ?_
  refine sy_cond hf rfl (fun hg5 => ?_) (fun hg5 => ?_)
  ·have hG5 := hg5; try simp only [gS] at hG5
   refine sy_sq ?_
   refine o_v hf hh (yv_move rfl) ?_; clear hf a; intro a hf
   refine o_v hf hh (yv_assign rfl) ?_; clear hf a; intro a hf
   refine o_v hf hh (yv_assign rfl) ?_; clear hf a; intro a hf
   refine o_v hf hh (yv_assign rfl) ?_; clear hf a; intro a hf
   refine o_end ?_
   refine sy_ret ?_
   refine then_r ?_
   refine ret_r hf rfl rfl ?_
   have hne : opE d true ≠ 0 := by omega
   rw [if_neg hne, if_neg hne]
   exact ⟨rfl, he1.trans hh.ext⟩
  ·have hG5 := hg5; try simp only [gS] at hG5
   refine sy_skip ?_
   refine then_n ?_
   refine sy_seq ?_
   have h0 : opE d true = 0 := by omega
   have hV := (okRows_iff d).1 (opE_zero.1 h0).1
   obtain ⟨hO, hD⟩ := hop h0
   have hwl := wys_long hV
   have hwc : ∀ c ∈ wys d, c.length ≤ 1000 := fun c hc => by have := wys_len hV hc; omega
   have hnl := hV.nl; have hnr := hV.nr
   obtain ⟨oa, cp, rfl⟩ := OwnSl_val hO
   have hW := WaysAt.mk hO (fun x hq => hx.get x hq) hD
   have hL10 : 2 ^ d.l.length ≤ 2 ^ 10 := Nat.pow_le_pow_right (by decide) hnl
   have hR10 : 2 ^ d.r.length ≤ 2 ^ 10 := Nat.pow_le_pow_right (by decide) hnr
   refine sy_ops ?_
   refine o_v hf hh (yv_assign rfl) ?_; clear hf a; intro a hf
   refine o_v hf hh (yv_assign rfl) ?_; clear hf a; intro a hf
   refine o_end ?_
   refine sy_seq ?_
   refine sy_sq ?_
   refine o_v hf hh (yv_assign rfl) ?_; clear hf a; intro a hf
   refine o_end ?_
   refine sy_block ?_
   refine sy_loopF (σ := Nat) [7, 8, 9, 10, 11, 12, 13, 22, 23, 24, 25, 26, 27, 28, 29, 30, 31, 32, 33, 34, 35, 36, 37, 38, 39, 40, 41, 42, 43, 44, 45, 46, 47, 48, 49, 50, 51, 52, 53, 54, 55, 56, 57, 58, 59, 60, 61, 62, 63, 64, 65, 66, 67, 68, 69, 70, 71, 72, 73, 74, 75, 76, 77] (fun i => [(9, .int .i64 (i : Nat)), (7, .int .i64 ((hidLW d.l.length ((wys d).take i) : Nat) : Int)), (8, .int .i64 ((hidRW d.r.length ((wys d).take i) : Nat) : Int))]) (fun i => i ≤ (wys d).length) (fun i => (wys d).length - i) (0) hf hh ?_ ?_ ?_
   · repeat' (first | exact True.intro | refine And.intro rfl ?_)
   · exact Nat.zero_le _
   ·rintro i a w hi hf hh
    refine sy_seq ?_
    refine sy_sq ?_
    refine o_v hf hh (yv_move rfl) ?_; clear hf a; intro a hf
    refine o_v hf hh (yv_move rfl) ?_; clear hf a; intro a hf
    refine o_v hf hh (yv_len Tryd.se_77 rfl) ?_; clear hf a; intro a hf
    refine o_v hf hh (yv_bin rfl rfl rfl) ?_; clear hf a; intro a hf
    refine o_end ?_
    refine sy_cond hf rfl (fun hg7 => ?_) (fun hg7 => ?_)
    ·have hG7 := hg7; try simp only [gS] at hG7
     refine sy_skip ?_
     refine then_n ?_
     refine sy_seq ?_
     refine sy_block ?_
     refine sy_seq ?_
     obtain ⟨ci, hci⟩ := ex_of (l := wys d) (i := i) (by omega)
     obtain ⟨blk, off, cs, T, fr, sb1, cb1, rfl, hbx, hcc, hvi⟩ := WaysAt.get hW hci
     have hcl := hwc ci (List.mem_of_getElem? hci)
     have hcm := (mem_wys.1 (List.mem_of_getElem? hci)).1
     have hseen : ∀ j, seenC 0 (ci.take j) < 2 ^ 10 := fun j => seenC_lt (by decide) fun q hq => by
       have : q.2 < d.r.length := ((Ch_iff.1 hcm).1 q (List.mem_of_mem_take hq)).2.2.2.1
       omega
     have hseen1 : seenC 0 ci < 2 ^ 10 := by have := hseen ci.length; rwa [List.take_length] at this
     refine sy_ops ?_
     refine o_v hf hh (yv_assign rfl) ?_; clear hf a; intro a hf
     refine o_end ?_
     refine sy_seq ?_
     refine sy_sq ?_
     refine o_v hf hh (yv_assign rfl) ?_; clear hf a; intro a hf
     refine o_end ?_
     refine sy_block ?_
     refine sy_loopF (σ := Nat) [10, 11, 28, 29, 30, 31, 32, 33, 34, 35, 36, 37, 38, 39, 40, 41, 42, 43, 44, 45, 46] (fun j => [(11, .int .i64 (j : Nat)), (10, .int .i64 ((seenC 0 (ci.take j) : Nat) : Int))]) (fun j => j ≤ ci.length) (fun j => ci.length - j) (0) hf hh ?_ ?_ ?_
     · repeat' (first | exact True.intro | refine And.intro rfl ?_)
     · exact Nat.zero_le _
     ·rintro j a w hj hf hh
      refine sy_seq ?_
      refine sy_sq ?_
      refine o_v hf hh (yv_move rfl) ?_; clear hf a; intro a hf
      refine o_v hf hh (yv_move rfl) ?_; clear hf a; intro a hf
      refine o_v hf hh (yv_move rfl) ?_; clear hf a; intro a hf
      refine o_v hf hh (y_ix Tryd.se_77 rfl rfl) ?_; clear hf a; intro a hf
      refine o_v hf hh (y_ld Tryd.sc_34 rfl) ?_; clear hf a; intro a hf
      refine o_v hf hh (yv_len Tryd.se_34 rfl) ?_; clear hf a; intro a hf
      refine o_v hf hh (yv_bin rfl rfl rfl) ?_; clear hf a; intro a hf
      refine o_end ?_
      refine sy_cond hf rfl (fun hg9 => ?_) (fun hg9 => ?_)
      ·have hG9 := hg9; try simp only [gS] at hG9
       refine sy_skip ?_
       refine then_n ?_
       refine sy_seq ?_
       refine sy_block ?_
       obtain ⟨p, hp⟩ := ex_of (l := ci) (i := j) (by omega)
       have hpr : p.2 < d.r.length := ((Ch_iff.1 hcm).1 p (List.mem_of_getElem? hp)).2.2.2.1
       obtain ⟨g1, g2⟩ := encP_get ci j p hp
       obtain ⟨blk2, off2, cs2, T2, fr2, rfl, hbx2, hcx2⟩ := hvi.resolve_left (by intro e; rw [e] at g1; simp at g1)
       have e2 : cs2[off2 + ((j : Nat) : Int).toNat * 2 + (1 : Int).toNat * 1]? = some (.int .i64 p.2) := by rw [Int.toNat_natCast]; exact hcx2 _ _ g2
       have hs1 := hseen j
       have hst : seenC 0 (ci.take (j + 1)) = seenC 0 (ci.take j) ||| 2 ^ p.2 := by rw [List.take_add_one, hp]; exact seenC_snoc _ _ _
       refine sy_ops ?_
       refine o_v hf hh (yv_move rfl) ?_; clear hf a; intro a hf
       refine o_v hf hh (yv_move rfl) ?_; clear hf a; intro a hf
       refine o_v hf hh (yv_move rfl) ?_; clear hf a; intro a hf
       refine o_v hf hh (y_ix Tryd.se_77 rfl rfl) ?_; clear hf a; intro a hf
       refine o_v hf hh (y_ld Tryd.sc_34 rfl) ?_; clear hf a; intro a hf
       refine o_v hf hh (yv_move rfl) ?_; clear hf a; intro a hf
       refine o_v hf hh (y_ix Tryd.se_34 rfl rfl) ?_; clear hf a; intro a hf
       refine o_v hf hh (y_ia Tryd.ae_45 rfl rfl) ?_; clear hf a; intro a hf
       refine o_v hf hh (y_ld Tryd.sc_3 rfl) ?_; clear hf a; intro a hf
       refine o_call hf Tryd.en_66 rfl rfl rfl (c66 _ p.2 (by omega) (by omega) _) ?_; clear hf a; intro v a w hR hf
       obtain ⟨rfl, hx⟩ := hR; replace hh := hh.more hx; clear hx
       refine o_v hf hh (yv_assign rfl) ?_; clear hf a; intro a hf
       refine ops_end ?_
       refine blk_n ?_
       refine then_n ?_
       refine sy_ops ?_
       refine o_v hf hh (yv_move rfl) ?_; clear hf a; intro a hf
       refine o_v hf hh (y_add rfl rfl) ?_; clear hf a; intro a hf
       refine o_v hf hh (yv_assign rfl) ?_; clear hf a; intro a hf
       refine ops_end ?_
       refine then_n ?_
       exact ⟨j + 1, ⟨by omega, hf.head ⟨rfl, (by rw [hst]; rfl), True.intro⟩ (Keep.cons rfl (Keep.cons rfl (Keep.cons rfl (Keep.cons rfl (Keep.cons rfl (Keep.cons rfl (Keep.cons rfl (Keep.cons rfl (Keep.cons rfl (Keep.cons rfl (Keep.cons rfl (Keep.cons rfl (Keep.cons rfl (Keep.cons rfl (Keep.cons rfl (Keep.cons rfl (Keep.cons rfl (Keep.cons rfl (Keep.cons rfl (Keep.cons rfl (Keep.cons rfl (Keep.app rfl (Keep.rm rfl Keep.base))))))))))))))))))))))), hh⟩, by omega⟩
      ·have hG9 := hg9; try simp only [gS] at hG9
       refine sy_exit ?_
       refine then_e ?_
       refine then_e ?_
       refine blk_e ?_
       refine then_n ?_
       refine sy_seq ?_
       refine sy_seq ?_
       have hjs : ci.take j = ci := List.take_of_length_le (by omega)
       rw [hjs] at hf
       refine sy_ops ?_
       refine o_v hf hh (yv_assign rfl) ?_; clear hf a; intro a hf
       refine o_end ?_
       refine sy_block ?_
       refine sy_loopF (σ := Nat) [7, 12, 47, 48, 49, 50, 51, 52, 53, 54, 55, 56, 57, 58, 59, 60, 61, 62, 63] (fun k2 => [(12, .int .i64 (k2 : Nat)), (7, .int .i64 ((addF (fun i => decide (pN ci i = -1)) (hidLW d.l.length ((wys d).take i)) k2 : Nat) : Int))]) (fun k2 => k2 ≤ d.l.length) (fun k2 => d.l.length - k2) (0) hf hh ?_ ?_ ?_
       · repeat' (first | exact True.intro | refine And.intro rfl ?_)
       · exact Nat.zero_le _
       ·rintro k2 a w hk2 hf hh
        refine sy_seq ?_
        refine sy_sq ?_
        refine o_v hf hh (yv_move rfl) ?_; clear hf a; intro a hf
        refine o_v hf hh (yv_fieldAddr Tryd.fo_26_0 rfl) ?_; clear hf a; intro a hf
        refine o_v hf hh (y_ld Tryd.sc_22 rfl) ?_; clear hf a; intro a hf
        refine o_v hf hh (yv_len Tryd.se_22 rfl) ?_; clear hf a; intro a hf
        refine o_v hf hh (yv_bin rfl rfl rfl) ?_; clear hf a; intro a hf
        refine o_end ?_
        refine sy_cond hf rfl (fun hg12 => ?_) (fun hg12 => ?_)
        ·have hG12 := hg12; try simp only [gS] at hG12
         refine sy_skip ?_
         refine then_n ?_
         refine sy_seq ?_
         refine sy_block ?_
         refine sy_seq ?_
         have hb1 : addF (fun i => decide (pN ci i = -1)) (hidLW d.l.length ((wys d).take i)) k2 < 2 ^ 10 := Nat.lt_of_lt_of_le (addF_lt (hidLW_lt _ _) (by omega)) hL10
         have hst : addF (fun i => decide (pN ci i = -1)) (hidLW d.l.length ((wys d).take i)) (k2 + 1) = if decide (pN ci k2 = -1) then addF (fun i => decide (pN ci i = -1)) (hidLW d.l.length ((wys d).take i)) k2 ||| 2 ^ k2 else addF (fun i => decide (pN ci i = -1)) (hidLW d.l.length ((wys d).take i)) k2 := rfl
         refine sy_ops ?_
         refine o_v hf hh (yv_move rfl) ?_; clear hf a; intro a hf
         refine o_v hf hh (yv_move rfl) ?_; clear hf a; intro a hf
         refine o_v hf hh (y_ix Tryd.se_77 rfl rfl) ?_; clear hf a; intro a hf
         refine o_v hf hh (y_ld Tryd.sc_34 rfl) ?_; clear hf a; intro a hf
         refine o_v hf hh (yv_move rfl) ?_; clear hf a; intro a hf
         refine o_call hf Tryd.en_59 rfl rfl rfl (c59 ci sb1 cb1 k2 _ (hvi.ext hh.ext) hcl) ?_; clear hf a; intro v a w hR hf
         obtain ⟨rfl, hx⟩ := hR; replace hh := hh.more hx; clear hx
         refine o_v hf hh (yv_bin rfl rfl rfl) ?_; clear hf a; intro a hf
         refine o_end ?_
         refine sy_cond hf rfl (fun hg15 => ?_) (fun hg15 => ?_)
         ·have hG15 := hg15; try simp only [gS] at hG15
          refine sy_ops ?_
          refine o_v hf hh (yv_move rfl) ?_; clear hf a; intro a hf
          refine o_v hf hh (yv_move rfl) ?_; clear hf a; intro a hf
          refine o_call hf Tryd.en_66 rfl rfl rfl (c66 _ k2 (by omega) (by omega) _) ?_; clear hf a; intro v a w hR hf
          obtain ⟨rfl, hx⟩ := hR; replace hh := hh.more hx; clear hx
          refine o_v hf hh (yv_assign rfl) ?_; clear hf a; intro a hf
          refine ops_end ?_
          refine blk_n ?_
          refine then_n ?_
          refine sy_ops ?_
          refine o_v hf hh (yv_move rfl) ?_; clear hf a; intro a hf
          refine o_v hf hh (y_add rfl rfl) ?_; clear hf a; intro a hf
          refine o_v hf hh (yv_assign rfl) ?_; clear hf a; intro a hf
          refine ops_end ?_
          refine then_n ?_
          first
            | (rw [decide_eq_true (by assumption), if_pos rfl] at hst
               exact ⟨k2 + 1, ⟨by omega, hf.head ⟨rfl, (by rw [hst]; rfl), True.intro⟩ (Keep.cons rfl (Keep.cons rfl (Keep.cons rfl (Keep.cons rfl (Keep.cons rfl (Keep.cons rfl (Keep.cons rfl (Keep.cons rfl (Keep.cons rfl (Keep.cons rfl (Keep.cons rfl (Keep.cons rfl (Keep.cons rfl (Keep.cons rfl (Keep.cons rfl (Keep.cons rfl (Keep.cons rfl (Keep.cons rfl (Keep.cons rfl (Keep.app rfl (Keep.rm rfl Keep.base))))))))))))))))))))), hh⟩, by omega⟩)
            | (rw [decide_eq_false (by assumption), if_neg (by decide)] at hst
               exact ⟨k2 + 1, ⟨by omega, hf.head ⟨rfl, (by rw [hst]; rfl), True.intro⟩ (Keep.cons rfl (Keep.cons rfl (Keep.cons rfl (Keep.cons rfl (Keep.cons rfl (Keep.cons rfl (Keep.cons rfl (Keep.cons rfl (Keep.cons rfl (Keep.cons rfl (Keep.cons rfl (Keep.cons rfl (Keep.cons rfl (Keep.cons rfl (Keep.cons rfl (Keep.cons rfl (Keep.cons rfl (Keep.cons rfl (Keep.cons rfl (Keep.app rfl (Keep.rm rfl Keep.base))))))))))))))))))))), hh⟩, by omega⟩)
         ·have hG15 := hg15; try simp only [gS] at hG15
          refine sy_skip ?_
          refine blk_n ?_
          refine then_n ?_
          refine sy_ops ?_
          refine o_v hf hh (yv_move rfl) ?_; clear hf a; intro a hf
          refine o_v hf hh (y_add rfl rfl) ?_; clear hf a; intro a hf
          refine o_v hf hh (yv_assign rfl) ?_; clear hf a; intro a hf
          refine ops_end ?_
          refine then_n ?_
          first
            | (rw [decide_eq_true (by assumption), if_pos rfl] at hst
               exact ⟨k2 + 1, ⟨by omega, hf.head ⟨rfl, (by rw [hst]; rfl), True.intro⟩ (Keep.cons rfl (Keep.cons rfl (Keep.cons rfl (Keep.cons rfl (Keep.cons rfl (Keep.cons rfl (Keep.cons rfl (Keep.cons rfl (Keep.cons rfl (Keep.cons rfl (Keep.cons rfl (Keep.cons rfl (Keep.cons rfl (Keep.cons rfl (Keep.cons rfl (Keep.app rfl (Keep.rm rfl Keep.base))))))))))))))))), hh⟩, by omega⟩)
            | (rw [decide_eq_false (by assumption), if_neg (by decide)] at hst
               exact ⟨k2 + 1, ⟨by omega, hf.head ⟨rfl, (by rw [hst]; rfl), True.intro⟩ (Keep.cons rfl (Keep.cons rfl (Keep.cons rfl (Keep.cons rfl (Keep.cons rfl (Keep.cons rfl (Keep.cons rfl (Keep.cons rfl (Keep.cons rfl (Keep.cons rfl (Keep.cons rfl (Keep.cons rfl (Keep.cons rfl (Keep.cons rfl (Keep.cons rfl (Keep.app rfl (Keep.rm rfl Keep.base))))))))))))))))), hh⟩, by omega⟩)
        ·have hG12 := hg12; try simp only [gS] at hG12
         refine sy_exit ?_
         refine then_e ?_
         refine then_e ?_
         refine blk_e ?_
         refine then_n ?_
         refine sy_sq ?_
         refine o_v hf hh (yv_assign rfl) ?_; clear hf a; intro a hf
         refine o_end ?_
         refine sy_block ?_
         refine sy_loopF (σ := Nat) [8, 13, 64, 65, 66, 67, 68, 69, 70, 71, 72, 73, 74, 75, 76, 77] (fun k3 => [(13, .int .i64 (k3 : Nat)), (8, .int .i64 ((addF (fun k => !(seenC 0 ci).testBit k) (hidRW d.r.length ((wys d).take i)) k3 : Nat) : Int))]) (fun k3 => k3 ≤ d.r.length) (fun k3 => d.r.length - k3) (0) hf hh ?_ ?_ ?_
         · repeat' (first | exact True.intro | refine And.intro rfl ?_)
         · exact Nat.zero_le _
         ·rintro k3 a w hk3 hf hh
          refine sy_seq ?_
          refine sy_sq ?_
          refine o_v hf hh (yv_move rfl) ?_; clear hf a; intro a hf
          refine o_v hf hh (yv_fieldAddr Tryd.fo_26_1 rfl) ?_; clear hf a; intro a hf
          refine o_v hf hh (y_ld Tryd.sc_22 rfl) ?_; clear hf a; intro a hf
          refine o_v hf hh (yv_len Tryd.se_22 rfl) ?_; clear hf a; intro a hf
          refine o_v hf hh (yv_bin rfl rfl rfl) ?_; clear hf a; intro a hf
          refine o_end ?_
          refine sy_cond hf rfl (fun hg18 => ?_) (fun hg18 => ?_)
          ·have hG18 := hg18; try simp only [gS] at hG18
           refine sy_skip ?_
           refine then_n ?_
           refine sy_seq ?_
           refine sy_block ?_
           refine sy_seq ?_
           have hb1 : addF (fun k => !(seenC 0 ci).testBit k) (hidRW d.r.length ((wys d).take i)) k3 < 2 ^ 10 := Nat.lt_of_lt_of_le (addF_lt (hidRW_lt _ _) (by omega)) hR10
           have hst : addF (fun k => !(seenC 0 ci).testBit k) (hidRW d.r.length ((wys d).take i)) (k3 + 1) = if !(seenC 0 ci).testBit k3 then addF (fun k => !(seenC 0 ci).testBit k) (hidRW d.r.length ((wys d).take i)) k3 ||| 2 ^ k3 else addF (fun k => !(seenC 0 ci).testBit k) (hidRW d.r.length ((wys d).take i)) k3 := rfl
           refine sy_ops ?_
           refine o_v hf hh (yv_move rfl) ?_; clear hf a; intro a hf
           refine o_v hf hh (yv_move rfl) ?_; clear hf a; intro a hf
           refine o_call hf Tryd.en_71 rfl rfl rfl (c71 _ k3 (by omega) (by omega) _) ?_; clear hf a; intro v a w hR hf
           obtain ⟨rfl, hx⟩ := hR; replace hh := hh.more hx; clear hx
           refine o_v hf hh (yv_not rfl) ?_; clear hf a; intro a hf
           refine o_end ?_
           refine sy_cond hf rfl (fun hg20 => ?_) (fun hg20 => ?_)
           ·have hG20 := hg20; try simp only [gS] at hG20
            refine sy_ops ?_
            refine o_v hf hh (yv_move rfl) ?_; clear hf a; intro a hf
            refine o_v hf hh (yv_move rfl) ?_; clear hf a; intro a hf
            refine o_call hf Tryd.en_66 rfl rfl rfl (c66 _ k3 (by omega) (by omega) _) ?_; clear hf a; intro v a w hR hf
            obtain ⟨rfl, hx⟩ := hR; replace hh := hh.more hx; clear hx
            refine o_v hf hh (yv_assign rfl) ?_; clear hf a; intro a hf
            refine ops_end ?_
            refine blk_n ?_
            refine then_n ?_
            refine sy_ops ?_
            refine o_v hf hh (yv_move rfl) ?_; clear hf a; intro a hf
            refine o_v hf hh (y_add rfl rfl) ?_; clear hf a; intro a hf
            refine o_v hf hh (yv_assign rfl) ?_; clear hf a; intro a hf
            refine ops_end ?_
            refine then_n ?_
            first
              | (rw [show (seenC 0 ci).testBit k3 = false by assumption, if_pos (by decide)] at hst
                 exact ⟨k3 + 1, ⟨by omega, hf.head ⟨rfl, (by rw [hst]; rfl), True.intro⟩ (Keep.cons rfl (Keep.cons rfl (Keep.cons rfl (Keep.cons rfl (Keep.cons rfl (Keep.cons rfl (Keep.cons rfl (Keep.cons rfl (Keep.cons rfl (Keep.cons rfl (Keep.cons rfl (Keep.cons rfl (Keep.cons rfl (Keep.cons rfl (Keep.cons rfl (Keep.cons rfl (Keep.app rfl (Keep.rm rfl Keep.base)))))))))))))))))), hh⟩, by omega⟩)
              | (rw [show (seenC 0 ci).testBit k3 = true by assumption, if_neg (by decide)] at hst
                 exact ⟨k3 + 1, ⟨by omega, hf.head ⟨rfl, (by rw [hst]; rfl), True.intro⟩ (Keep.cons rfl (Keep.cons rfl (Keep.cons rfl (Keep.cons rfl (Keep.cons rfl (Keep.cons rfl (Keep.cons rfl (Keep.cons rfl (Keep.cons rfl (Keep.cons rfl (Keep.cons rfl (Keep.cons rfl (Keep.cons rfl (Keep.cons rfl (Keep.cons rfl (Keep.cons rfl (Keep.app rfl (Keep.rm rfl Keep.base)))))))))))))))))), hh⟩, by omega⟩)
           ·have hG20 := hg20; try simp only [gS] at hG20
            refine sy_skip ?_
            refine blk_n ?_
            refine then_n ?_
            refine sy_ops ?_
            refine o_v hf hh (yv_move rfl) ?_; clear hf a; intro a hf
            refine o_v hf hh (y_add rfl rfl) ?_; clear hf a; intro a hf
            refine o_v hf hh (yv_assign rfl) ?_; clear hf a; intro a hf
            refine ops_end ?_
            refine then_n ?_
            first
              | (rw [show (seenC 0 ci).testBit k3 = false by assumption, if_pos (by decide)] at hst
                 exact ⟨k3 + 1, ⟨by omega, hf.head ⟨rfl, (by rw [hst]; rfl), True.intro⟩ (Keep.cons rfl (Keep.cons rfl (Keep.cons rfl (Keep.cons rfl (Keep.cons rfl (Keep.cons rfl (Keep.cons rfl (Keep.cons rfl (Keep.cons rfl (Keep.cons rfl (Keep.cons rfl (Keep.cons rfl (Keep.app rfl (Keep.rm rfl Keep.base)))))))))))))), hh⟩, by omega⟩)
              | (rw [show (seenC 0 ci).testBit k3 = true by assumption, if_neg (by decide)] at hst
                 exact ⟨k3 + 1, ⟨by omega, hf.head ⟨rfl, (by rw [hst]; rfl), True.intro⟩ (Keep.cons rfl (Keep.cons rfl (Keep.cons rfl (Keep.cons rfl (Keep.cons rfl (Keep.cons rfl (Keep.cons rfl (Keep.cons rfl (Keep.cons rfl (Keep.cons rfl (Keep.cons rfl (Keep.cons rfl (Keep.app rfl (Keep.rm rfl Keep.base)))))))))))))), hh⟩, by omega⟩)
          ·have hG18 := hg18; try simp only [gS] at hG18
           refine sy_exit ?_
           refine then_e ?_
           refine then_e ?_
           refine blk_e ?_
           refine blk_n ?_
           refine then_n ?_
           refine sy_ops ?_
           refine o_v hf hh (yv_move rfl) ?_; clear hf a; intro a hf
           refine o_v hf hh (y_add rfl rfl) ?_; clear hf a; intro a hf
           refine o_v hf hh (yv_assign rfl) ?_; clear hf a; intro a hf
           refine ops_end ?_
           refine then_n ?_
           have htk : (wys d).take (i + 1) = (wys d).take i ++ [ci] := by rw [List.take_add_one, hci]; rfl
           have q1 : hidLW d.l.length ((wys d).take (i + 1)) = addF (fun i => decide (pN ci i = -1)) (hidLW d.l.length ((wys d).take i)) k2 := by rw [htk, hidLW_snoc, show k2 = d.l.length by omega]
           have q2 : hidRW d.r.length ((wys d).take (i + 1)) = addF (fun k => !(seenC 0 ci).testBit k) (hidRW d.r.length ((wys d).take i)) k3 := by rw [htk, hidRW_snoc, show k3 = d.r.length by omega]
           exact ⟨i + 1, ⟨by omega, hf.head ⟨rfl, (by rw [q1]; rfl), (by rw [q2]; rfl), True.intro⟩ (Keep.cons rfl (Keep.cons rfl (Keep.cons rfl (Keep.cons rfl (Keep.cons rfl (Keep.cons rfl (Keep.cons rfl (Keep.cons rfl (Keep.app rfl (Keep.rm rfl (Keep.cons rfl (Keep.cons rfl (Keep.cons rfl (Keep.cons rfl (Keep.cons rfl (Keep.cons rfl (Keep.app rfl (Keep.rm rfl (Keep.cons rfl (Keep.cons rfl (Keep.cons rfl (Keep.cons rfl (Keep.cons rfl (Keep.cons rfl (Keep.cons rfl (Keep.cons rfl (Keep.app rfl (Keep.rm rfl (Keep.cons rfl (Keep.cons rfl (Keep.cons rfl (Keep.cons rfl (Keep.cons rfl (Keep.cons rfl (Keep.app rfl (Keep.rm rfl Keep.base)))))))))))))))))))))))))))))))))))), hh⟩, by omega⟩
    ·have hG7 := hg7; try simp only [gS] at hG7
     refine sy_exit ?_
     refine then_e ?_
     refine then_e ?_
     refine blk_e ?_
     refine then_n ?_
     refine sy_sq ?_
     refine o_v hf hh (yv_move rfl) ?_; clear hf a; intro a hf
     refine o_v hf hh (yv_move rfl) ?_; clear hf a; intro a hf
     refine o_v hf hh (yv_assign rfl) ?_; clear hf a; intro a hf
     refine o_v hf hh (yv_assign rfl) ?_; clear hf a; intro a hf
     refine o_v hf hh (yv_assign rfl) ?_; clear hf a; intro a hf
     refine o_end ?_
     refine sy_ret ?_
     refine ret_r hf rfl rfl ?_
     rw [h0, if_pos rfl, if_pos rfl, ← hidLW_all, ← hidRW_all, List.take_of_length_le (by omega)]
     exact ⟨rfl, he1.trans hh.ext⟩
end Go.Proofs.YtemmhdgaagaglaaDoor
namespace Go.Proofs.YtemmhdgaagaglaaDoor
open Go Go.Sy Go.MatM
set_option maxRecDepth 100000 in
set_option maxHeartbeats 4000000 in
theorem c8 (d : RowsD) (sa sb : Option Addr) (ca cb : Nat) (u : World) (hA : MkAt u sa d.l) (hB : MkAt u sb d.r) (hT : GTab u) : Calls Tryd.prog 8 #[rowsV d sa sb ca cb] u (Ret fun v w' => v = .bool true ∧ Ext [] u w') := by
  refine calls_of Tryd.func8 rfl rfl (fun a hf => ?_)
  have hh := Hp.init u []
  refine sy_sq ?_
  refine o_box hf hh ?_; clear hf hh a; intro B1 a w hf hh
  refine o_v hf hh (yv_assign rfl) ?_; clear hf a; intro a hf
  refine o_end ?_
  refine sy_seq ?_
  refine sy_sq ?_
  refine o_v hf hh (y_lds Tryd.ag_26 rfl) ?_; clear hf a; intro a hf
  refine o_call hf Tryd.en_13 rfl rfl rfl (c13 d sa sb ca cb _ (hA.ext hh.ext) (hB.ext hh.ext) 5) ?_; clear hf a; intro v a w hR hf
  obtain ⟨rfl, hx⟩ := hR; replace hh := hh.more hx; clear hx
  refine o_end ?_
  refine sy_cond hf rfl (fun hg2 => ?_) (fun hg2 => ?_)
  ·have hG2 := hg2; try simp only [gS] at hG2
   refine sy_sq ?_
   refine o_call hf Tryd.en_14 rfl rfl rfl (c14 _ (hT.ext hh.ext (by simp))) ?_; clear hf a; intro v a w hR hf
   obtain ⟨rfl, hx⟩ := hR; replace hh := hh.more hx; clear hx
   refine o_v hf hh (yv_assign rfl) ?_; clear hf a; intro a hf
   refine o_end ?_
   refine sy_ret ?_
   refine then_r ?_
   refine ret_r hf rfl rfl ?_
   exact ⟨rfl, hh.ext⟩
  ·have hG2 := hg2; try simp only [gS] at hG2
   refine sy_skip ?_
   refine then_n ?_
   refine sy_seq ?_
   have hlen : d.l.length ≤ 24 ∧ d.r.length ≤ 24 := by first | (simp_all; done) | (simp_all; omega)
   have hl : d.l.length ≤ 1000 := by omega
   have hr : d.r.length ≤ 1000 := by omega
   have hlc : (if opE d true = 0 then canL d else []).length ≤ 1000000 := by split <;> simp [canL] <;> omega
   have hls : (if opE d true = 0 then sureL d else []).length ≤ 1000000 := by split <;> simp [sureL] <;> omega
   refine sy_ops ?_
   refine o_v hf hh (y_lds Tryd.ag_26 rfl) ?_; clear hf a; intro a hf
   refine o_call hf Tryd.en_30 rfl rfl rfl (c30 d sa sb ca cb _ (hA.ext hh.ext) (hB.ext hh.ext)) ?_; clear hf a; intro v a w hR hf
   obtain ⟨sv1, X1, rfl, hown1, hx⟩ := hR; replace hh := (hh.join hx).perm List.perm_append_comm; clear hx
   obtain ⟨oa1, cap1, rfl⟩ := OwnSl_val hown1
   refine o_v hf hh (yv_move rfl) ?_; clear hf a; intro a hf
   refine o_v hf hh (yv_extract rfl rfl) ?_; clear hf a; intro a hf
   refine o_v hf hh (yv_extract rfl rfl) ?_; clear hf a; intro a hf
   refine o_v hf hh (yv_assign rfl) ?_; clear hf a; intro a hf
   refine o_v hf hh (yv_assign rfl) ?_; clear hf a; intro a hf
   refine o_end ?_
   refine sy_sq ?_
   refine o_v hf hh (y_lds Tryd.ag_26 rfl) ?_; clear hf a; intro a hf
   refine o_call hf Tryd.en_31 rfl rfl rfl (c31 d sa sb ca cb _ (hA.ext hh.ext) (hB.ext hh.ext) hl hr) ?_; clear hf a; intro v a w hR hf
   obtain ⟨oa2, n2, cap2, rfl, hn2, hv2, hx⟩ := hR; replace hh := hh.more hx; clear hx; subst hn2
   refine o_v hf hh (yv_move rfl) ?_; clear hf a; intro a hf
   refine o_v hf hh (yv_extract rfl rfl) ?_; clear hf a; intro a hf
   refine o_v hf hh (yv_extract rfl rfl) ?_; clear hf a; intro a hf
   refine o_v hf hh (yv_assign rfl) ?_; clear hf a; intro a hf
   refine o_v hf hh (yv_assign rfl) ?_; clear hf a; intro a hf
   refine o_end ?_
   refine sy_sq ?_
   refine o_v hf hh (y_lds Tryd.ag_26 rfl) ?_; clear hf a; intro a hf
   refine o_call hf Tryd.en_32 rfl rfl rfl (c32 d sa sb ca cb _ (hA.ext hh.ext) (hB.ext hh.ext) (hT.ext hh.ext (by simp))) ?_; clear hf a; intro v a w hR hf
   obtain ⟨sv3, X3, rfl, hown3, hx⟩ := hR; have hx3 := hx.ext; replace hh := (hh.join hx).perm List.perm_append_comm; clear hx
   obtain ⟨oa3, cap3, rfl⟩ := OwnSl_val hown3
   replace hv2 := hv2.ext hx3
   refine o_v hf hh (yv_move rfl) ?_; clear hf a; intro a hf
   refine o_v hf hh (yv_extract rfl rfl) ?_; clear hf a; intro a hf
   refine o_v hf hh (yv_extract rfl rfl) ?_; clear hf a; intro a hf
   refine o_v hf hh (yv_assign rfl) ?_; clear hf a; intro a hf
   refine o_v hf hh (yv_assign rfl) ?_; clear hf a; intro a hf
   refine o_end ?_
   refine sy_sq ?_
   refine o_v hf hh (y_lds Tryd.ag_26 rfl) ?_; clear hf a; intro a hf
   refine o_call hf Tryd.en_33 rfl rfl rfl (c33 d sa sb ca cb _ (hA.ext hh.ext) (hB.ext hh.ext) hl hr) ?_; clear hf a; intro v a w hR hf
   obtain ⟨oa4, n4, cap4, rfl, hn4, hv4, hx⟩ := hR; replace hv2 := hv2.ext hx; replace hh := hh.more hx; clear hx; subst hn4
   refine o_v hf hh (yv_move rfl) ?_; clear hf a; intro a hf
   refine o_v hf hh (yv_extract rfl rfl) ?_; clear hf a; intro a hf
   refine o_v hf hh (yv_extract rfl rfl) ?_; clear hf a; intro a hf
   refine o_v hf hh (yv_assign rfl) ?_; clear hf a; intro a hf
   refine o_v hf hh (yv_assign rfl) ?_; clear hf a; intro a hf
   refine o_end ?_
   refine sy_sq ?_
   refine o_v hf hh (y_lds Tryd.ag_26 rfl) ?_; clear hf a; intro a hf
   refine o_call hf Tryd.en_34 rfl rfl rfl (c34 d sa sb ca cb _ (hA.ext hh.ext) (hB.ext hh.ext)) ?_; clear hf a; intro v a w hR hf
   obtain ⟨rfl, hx⟩ := hR; replace hv2 := hv2.ext hx; replace hv4 := hv4.ext hx; replace hh := hh.more hx; clear hx
   refine o_v hf hh (yv_move rfl) ?_; clear hf a; intro a hf
   refine o_v hf hh (yv_extract rfl rfl) ?_; clear hf a; intro a hf
   refine o_v hf hh (yv_extract rfl rfl) ?_; clear hf a; intro a hf
   refine o_v hf hh (yv_extract rfl rfl) ?_; clear hf a; intro a hf
   refine o_v hf hh (yv_assign rfl) ?_; clear hf a; intro a hf
   refine o_v hf hh (yv_assign rfl) ?_; clear hf a; intro a hf
   refine o_v hf hh (yv_assign rfl) ?_; clear hf a; intro a hf
   refine o_end ?_
   refine sy_sq ?_
   refine o_v hf hh (y_lds Tryd.ag_26 rfl) ?_; clear hf a; intro a hf
   refine o_call hf Tryd.en_35 rfl rfl rfl (c35 d sa sb ca cb _ (hA.ext hh.ext) (hB.ext hh.ext) hl hr) ?_; clear hf a; intro v a w hR hf
   obtain ⟨rfl, hx⟩ := hR; replace hv2 := hv2.ext hx; replace hv4 := hv4.ext hx; replace hh := hh.more hx; clear hx
   refine o_v hf hh (yv_move rfl) ?_; clear hf a; intro a hf
   refine o_v hf hh (yv_extract rfl rfl) ?_; clear hf a; intro a hf
   refine o_v hf hh (yv_extract rfl rfl) ?_; clear hf a; intro a hf
   refine o_v hf hh (yv_extract rfl rfl) ?_; clear hf a; intro a hf
   refine o_v hf hh (yv_assign rfl) ?_; clear hf a; intro a hf
   refine o_v hf hh (yv_assign rfl) ?_; clear hf a; intro a hf
   refine o_v hf hh (yv_assign rfl) ?_; clear hf a; intro a hf
   refine o_end ?_
   refine sy_sq ?_
   refine o_v hf hh (yv_move rfl) ?_; clear hf a; intro a hf
   refine o_v hf hh (yv_move rfl) ?_; clear hf a; intro a hf
   refine o_call hf Tryd.en_36 rfl rfl rfl (c36 _ _ oa1 oa2 cap1 cap2 _ (valsAt_own hown1 fun x hx => hh.get x (by simp [hx])) hv2 hlc) ?_; clear hf a; intro v a w hR hf
   obtain ⟨rfl, hx⟩ := hR; replace hv4 := hv4.ext hx; replace hh := hh.more hx; clear hx
   refine o_v hf hh (yv_move rfl) ?_; clear hf a; intro a hf
   refine o_v hf hh (yv_move rfl) ?_; clear hf a; intro a hf
   refine o_v hf hh (yv_move rfl) ?_; clear hf a; intro a hf
   refine o_v hf hh (yv_bin rfl rfl rfl) ?_; clear hf a; intro a hf
   refine o_v hf hh (y_pt rfl rfl) ?_; clear hf a; intro a hf
   refine o_v hf hh (yv_move rfl) ?_; clear hf a; intro a hf
   refine o_v hf hh (yv_move rfl) ?_; clear hf a; intro a hf
   refine o_v hf hh (yv_move rfl) ?_; clear hf a; intro a hf
   refine o_call hf Tryd.en_36 rfl rfl rfl (c36 _ _ oa3 oa4 cap3 cap4 _ (valsAt_own hown3 fun x hx => hh.get x (by simp [hx])) hv4 hls) ?_; clear hf a; intro v a w hR hf
   obtain ⟨rfl, hx⟩ := hR; replace hh := hh.more hx; clear hx
   refine o_v hf hh (y_pt rfl rfl) ?_; clear hf a; intro a hf
   refine o_v hf hh (yv_move rfl) ?_; clear hf a; intro a hf
   refine o_v hf hh (yv_move rfl) ?_; clear hf a; intro a hf
   refine o_v hf hh (yv_move rfl) ?_; clear hf a; intro a hf
   refine o_v hf hh (yv_bin rfl rfl rfl) ?_; clear hf a; intro a hf
   refine o_v hf hh (y_pt rfl rfl) ?_; clear hf a; intro a hf
   refine o_v hf hh (yv_move rfl) ?_; clear hf a; intro a hf
   refine o_v hf hh (yv_move rfl) ?_; clear hf a; intro a hf
   refine o_v hf hh (yv_move rfl) ?_; clear hf a; intro a hf
   refine o_v hf hh (yv_bin rfl rfl rfl) ?_; clear hf a; intro a hf
   refine o_v hf hh (y_pt rfl rfl) ?_; clear hf a; intro a hf
   refine o_v hf hh (yv_move rfl) ?_; clear hf a; intro a hf
   refine o_v hf hh (yv_move rfl) ?_; clear hf a; intro a hf
   refine o_v hf hh (yv_move rfl) ?_; clear hf a; intro a hf
   refine o_v hf hh (yv_bin rfl rfl rfl) ?_; clear hf a; intro a hf
   refine o_v hf hh (y_pt rfl rfl) ?_; clear hf a; intro a hf
   refine o_v hf hh (yv_move rfl) ?_; clear hf a; intro a hf
   refine o_v hf hh (yv_move rfl) ?_; clear hf a; intro a hf
   refine o_v hf hh (yv_move rfl) ?_; clear hf a; intro a hf
   refine o_v hf hh (yv_bin rfl rfl rfl) ?_; clear hf a; intro a hf
   refine o_v hf hh (y_pt rfl rfl) ?_; clear hf a; intro a hf
   refine o_v hf hh (yv_move rfl) ?_; clear hf a; intro a hf
   refine o_call hf Tryd.en_14 rfl rfl rfl (c14 _ (hT.ext hh.ext (by simp))) ?_; clear hf a; intro v a w hR hf
   obtain ⟨rfl, hx⟩ := hR; replace hh := hh.more hx; clear hx
   refine o_v hf hh (y_pt rfl rfl) ?_; clear hf a; intro a hf
   refine o_v hf hh (yv_assign rfl) ?_; clear hf a; intro a hf
   refine o_end ?_
   refine sy_ret ?_
   refine ret_r hf rfl rfl ?_
   exact ⟨rfl, hh.ext⟩
end Go.Proofs.YtemmhdgaagaglaaDoor
namespace Go.MatM
open Go Go.Sy Go.Proofs
/-- What is true of rows that are made: pairs, and their shifts. -/
structure Made (d : RowsD) (ps : List Pr) (sh : List Int) : Prop where
  ch : Ch (fitD d) d.l.length d.r.length 0 0 ps
  len : sh.length = ps.length
  inn : ∀ (j : Nat) (p : Pr) (s : Int), ps[j]? = some p → sh[j]? = some s → (shiftD d p.1 p.2).1 ≤ s ∧ s ≤ (shiftD d p.1 p.2).2
  ml : ∀ m ∈ d.l, okM m = true
  mr : ∀ m ∈ d.r, okM m = true
theorem Made.nil (lo hi h : Int) : Made ⟨[], [], lo, hi, h⟩ [] [] := ⟨trivial, rfl, fun j p s h => by simp at h, by simp, by simp⟩
theorem fitD_app {d d' : RowsD} {a b : List Mk} (hl : d'.l = d.l ++ a) (hr : d'.r = d.r ++ b) (h1 : d'.lo = d.lo) (h2 : d'.hi = d.hi) {i k : Nat} (hi : i < d.l.length) (hk : k < d.r.length) : fitD d' i k = fitD d i k ∧ shiftD d' i k = shiftD d i k := by
  unfold fitD shiftD
  rw [hl, hr, List.getElem?_append_left hi, List.getElem?_append_left hk, h1, h2]
  exact ⟨rfl, rfl⟩
theorem Made.app {d d' : RowsD} {ps : List Pr} {sh : List Int} {a b : List Mk} (h : Made d ps sh) (hl : d'.l = d.l ++ a) (hr : d'.r = d.r ++ b) (h1 : d'.lo = d.lo) (h2 : d'.hi = d.hi) (ha : ∀ m ∈ a, okM m = true) (hb : ∀ m ∈ b, okM m = true) : Made d' ps sh := by
  have hc := Ch_iff.1 h.ch
  refine ⟨Ch_iff.2 ⟨fun p hp => ?_, hc.2⟩, h.len, fun j p s hp hs => ?_, fun m hm => ?_, fun m hm => ?_⟩
  · obtain ⟨q1, q2, q3, q4, q5⟩ := hc.1 p hp
    rw [(fitD_app hl hr h1 h2 q2 q4).1, hl, hr, List.length_append, List.length_append]
    exact ⟨q1, by omega, q3, by omega, q5⟩
  · obtain ⟨q1, q2, q3, q4, q5⟩ := hc.1 p (List.mem_of_getElem? hp)
    rw [(fitD_app hl hr h1 h2 q2 q4).2]
    exact h.inn j p s hp hs
  · rw [hl] at hm
    rcases List.mem_append.1 hm with hm | hm
    · exact h.ml m hm
    · exact ha m hm
  · rw [hr] at hm
    rcases List.mem_append.1 hm with hm | hm
    · exact h.mr m hm
    · exact hb m hm
theorem Made.pair {d d' : RowsD} {ps : List Pr} {sh : List Int} {a b : Mk} {s : Int} (h : Made d ps sh) (hl : d'.l = d.l ++ [a]) (hr : d'.r = d.r ++ [b]) (h1 : d'.lo = d.lo) (h2 : d'.hi = d.hi) (ha : okM a = true) (hb : okM b = true)
    (q1 : a.tl ≤ b.th) (q2 : b.tl ≤ a.th) (q3 : a.al - b.ah ≤ s) (q4 : s ≤ a.ah - b.al) (q5 : d.lo ≤ s) (q6 : s ≤ d.hi) : Made d' (ps ++ [(d.l.length, d.r.length)]) (sh ++ [s]) := by
  have hm := h.app hl hr h1 h2 (by simpa using ha) (by simpa using hb)
  have ga : d'.l[d.l.length]? = some a := by rw [hl, List.getElem?_append_right (Nat.le_refl _)]; simp
  have gb : d'.r[d.r.length]? = some b := by rw [hr, List.getElem?_append_right (Nat.le_refl _)]; simp
  have hF : fitD d' d.l.length d.r.length = true := by
    unfold fitD
    rw [ga, gb]
    unfold fitM
    simp only [Bool.and_eq_true, decide_eq_true_eq]
    rw [h1, h2]
    exact ⟨⟨⟨q1, q2⟩, by omega⟩, by omega⟩
  have hc := Ch_iff.1 h.ch
  refine ⟨Ch_snoc hm.ch (fun p hp => ⟨(hc.1 p hp).2.1, (hc.1 p hp).2.2.2.1⟩) (by rw [hl]; simp) (by rw [hr]; simp) hF, by simp [h.len], fun j p x hp hx => ?_, hm.ml, hm.mr⟩
  by_cases hj : j < ps.length
  · rw [List.getElem?_append_left hj] at hp
    rw [List.getElem?_append_left (by rw [h.len]; exact hj)] at hx
    exact hm.inn j p x hp hx
  · have hjl := (List.getElem?_eq_some_iff.1 hp).1
    rw [List.length_append, List.length_singleton] at hjl
    have e : j = ps.length := by omega
    subst e
    rw [List.getElem?_append_right (Nat.le_refl _), Nat.sub_self] at hp
    rw [List.getElem?_append_right (by rw [h.len]; exact Nat.le_refl _), h.len, Nat.sub_self] at hx
    cases hp; cases hx
    rw [shiftD_eq ga gb, h1, h2]
    simp only
    omega
theorem Made.setH {d : RowsD} {ps : List Pr} {sh : List Int} (h : Made d ps sh) (x : Int) : Made (MatM.setH d x) ps sh := ⟨h.ch, h.len, h.inn, h.ml, h.mr⟩
section
variable {d : RowsD} {ps : List Pr} {sh : List Int}
theorem made_way (h : Made d ps sh) (hV : Valid d) (hh : ((d.l.length + d.r.length : Nat) : Int) - 2 * ((ps.length : Nat) : Int) ≤ d.hid) : ps ∈ wys d := mem_wys.2 ⟨h.ch, (need_le hV.h2 _).2 hh⟩
theorem made_op (hV : Valid d) (hw : ps ∈ wys d) : opE d true = 0 ∧ 1 ≤ countV d ∧ countE d = 0 := by
  have hi : isD d = true := by
    cases h : isD d with
    | true => rfl
    | false => have := (wys_none d).2 h; rw [List.length_eq_zero_iff.1 this] at hw; simp at hw
  have h0 : opE d true = 0 := opE_zero.2 ⟨(okRows_iff d).2 hV, rfl, hi⟩
  exact ⟨h0, count_some h0⟩
theorem made_few (hV : Valid d) (hw : ps ∈ wys d) : fewH d ≤ ((d.l.length : Nat) : Int) + ((d.r.length : Nat) : Int) - 2 * ((ps.length : Nat) : Int) := by
  rw [fewH_eq (made_op hV hw).1]
  have := le_mos (mem_wys.1 hw).1
  unfold mosD
  omega
theorem made_can (hw : ps ∈ wys d) {p : Pr} (hp : p ∈ ps) : (canS d p.1).testBit p.2 = true := can_of (mem_wys.1 hw).1 (mem_wys.1 hw).2 hp
theorem made_shift (h : Made d ps sh) (hV : Valid d) (hw : ps ∈ wys d) {j : Nat} {p : Pr} {s : Int} (hp : ps[j]? = some p) (hs : sh[j]? = some s) : shiftE d p.1 = 0 ∧ (shiftV d p.1).1 ≤ s ∧ s ≤ (shiftV d p.1).2 := by
  have h0 := (made_op hV hw).1
  have hpm := List.mem_of_getElem? hp
  have hc := (Ch_iff.1 h.ch).1 p hpm
  have hl : opE d (leftOk d p.1) = 0 := by
    have e : leftOk d (p.1 : Int) = true := by unfold leftOk inB; simp only [Bool.and_eq_true, decide_eq_true_eq]; omega
    rw [e]; exact h0
  have hb := made_can hw hpm
  have he := endsF_of (p := fun k => (canS d p.1).testBit k) (f := shiftD d p.1) d.r.length
  have hi := h.inn j p s hp hs
  unfold shiftE shiftV
  rw [if_pos hl, if_pos hl, Int.toNat_natCast]
  unfold shiftO
  match hq : endsF (fun k => (canS d p.1).testBit k) (shiftD d p.1) d.r.length with
  | none =>
    rw [hq] at he
    exact absurd ⟨hc.2.2.2.1, hb⟩ (he p.2)
  | some e =>
    rw [hq] at he
    obtain ⟨h1, _, _⟩ := he
    have := h1 p.2 ⟨hc.2.2.2.1, hb⟩
    exact ⟨rfl, by simp only [Option.getD_some]; omega, by simp only [Option.getD_some]; omega⟩
theorem made_hidL (hw : ps ∈ wys d) {i : Nat} (hi : i < d.l.length) (h : pN ps i = -1) : (hideA d).testBit i = true := by
  rw [hideA_bit, decide_eq_true hi, Bool.true_and]
  unfold hidD
  rw [hidB_l]
  exact ⟨ps, (mem_wys.1 hw).1, (mem_wys.1 hw).2, pN_none.1 h⟩
theorem made_sure (hr : d.r.length ≤ 10) (hV : Valid d) (hw : ps ∈ wys d) {i : Nat} (hi : i < d.l.length) (h : sureN d i ≠ -1) : sureN d i = pN ps i := by
  obtain ⟨c0, l, hw0⟩ := wys_head (made_op hV hw).1
  rw [← sureR_all hr hw0 hi] at h ⊢
  unfold sureR at h ⊢
  rcases fold_sure (x := i) (wys d) (pN c0 i) with ⟨h1, h2⟩ | ⟨_, h2⟩
  · rw [h2]; exact (h1 ps hw).symm
  · rw [h2] at h; exact absurd rfl h
theorem made_hidR (hw : ps ∈ wys d) {k : Nat} (hk : k < d.r.length) (h : (seenC 0 ps).testBit k = false) : (hideB d).testBit k = true := by
  rw [hideB_bit, decide_eq_true hk, Bool.true_and]
  unfold hidD
  rw [hidB_r]
  rw [seenC_bit] at h
  simp at h
  exact ⟨ps, (mem_wys.1 hw).1, (mem_wys.1 hw).2, fun p hp e => h p.1 (by rw [← e]; exact hp)⟩
/-- The partners of left marks in the first pairs. -/
def parN (ps : List Pr) (x j : Nat) : Int := pN (ps.take j) x
theorem parN_step (h : Ch (fitD d) d.l.length d.r.length 0 0 ps) {x j : Nat} {p : Pr} (hp : ps[j]? = some p) : parN ps x (j + 1) = if x = p.1 then (p.2 : Int) else parN ps x j := by
  unfold parN
  rw [List.take_add_one, hp]
  show pN (ps.take j ++ [p]) x = _
  have key : ∀ l : List Pr, (∀ q ∈ l, q.1 ≠ p.1) → pN (l ++ [p]) x = if x = p.1 then (p.2 : Int) else pN l x := by
    intro l
    induction l with
    | nil =>
      intro _
      rw [List.nil_append, pN_cons, pN_nil]
      by_cases e : x = p.1
      · rw [if_pos e, if_pos (by omega)]
      · rw [if_neg e, if_neg (by omega)]
    | cons q l ih =>
      intro hq
      have h1 := hq q (.head _)
      rw [List.cons_append, pN_cons, pN_cons, ih fun y hy => hq y (.tail _ hy)]
      by_cases e : (q.1 : Int) = (x : Int)
      · rw [if_pos e, if_pos e, if_neg (by omega)]
      · rw [if_neg e, if_neg e]
  refine key _ fun q hq => ?_
  have hpw := (Ch_iff.1 h).2
  obtain ⟨i, hi, rfl⟩ := List.getElem_of_mem hq
  rw [List.length_take] at hi
  rw [List.getElem_take]
  have hj := List.getElem?_eq_some_iff.1 hp
  have := (List.pairwise_iff_getElem.1 hpw) i j (by omega) hj.1 (by omega)
  rw [hj.2] at this
  omega
end
end Go.MatM
namespace Go.MatM
open Go Go.Sy Go.Proofs Go.RowKit
/-- The raw numbers, not in blocks of N. -/
def ByAt (w : World) (N : List Nat) (sy : Option Addr) (n : Nat) : Prop := ∀ j, j < n → ∃ blk off c T fr z, sy = some ⟨blk, off, none⟩ ∧ blk ∉ N ∧ w.heap[blk]? = some (.cells c T fr) ∧ c[off + ((j : Nat) : Int).toNat * 1]? = some (.int .u16 z) ∧ 0 ≤ z ∧ z ≤ 65535
theorem ByAt.ext {u w : World} {N : List Nat} {sy : Option Addr} {n : Nat} (h : ByAt u N sy n) (e : Ext N u w) : ByAt w N sy n := fun j hj => by
  obtain ⟨blk, off, c, T, fr, z, h1, h2, h3, h4⟩ := h j hj
  exact ⟨blk, off, c, T, fr, z, h1, h2, e.getM h3 h2, h4⟩
theorem ByAt.of {w : World} {N : List Nat} {sy : Option Addr} {m : List Int} (h : FlatAt w .u16 sy 1 (m.map fun z => [z])) (hb : ∀ z ∈ m, 0 ≤ z ∧ z ≤ 65535) (hN : ∀ x ∈ N, w.heap.size ≤ x) : ByAt w N sy m.length := fun j hj => by
  obtain ⟨blk, off, c, T, fr, h1, h2, h3⟩ := h j [m[j]] (by rw [List.getElem?_map, List.getElem?_eq_getElem hj]; rfl)
  have hlt := (Array.getElem?_eq_some_iff.1 h2).1
  have h4 := (cellsAt_get _ _ _ h3).2 0 _ rfl
  exact ⟨blk, off, c, T, fr, m[j], h1, fun hx => by have := hN _ hx; omega, h2, by rw [Int.toNat_natCast]; exact h4, hb _ (List.getElem_mem hj)⟩
structure DrwAt (w : World) (Bat Bby : Nat) (sy : Option Addr) (ny cy : Nat) : Prop where
  by1 : w.heap[Bby]? = some (.cells #[.slice sy ny cy] 62 (0, 0))
  ne : Bby ∉ [Bat]
  el : ByAt w [Bat] sy ny
  pos : 1 ≤ ny
  top : ny ≤ 9223372036854775807
theorem DrwAt.ext {u w : World} {Bat Bby : Nat} {sy : Option Addr} {ny cy : Nat} (h : DrwAt u Bat Bby sy ny cy) (e : Ext [Bat] u w) : DrwAt w Bat Bby sy ny cy := ⟨e.getM h.by1 h.ne, h.ne, h.el.ext e, h.pos, h.top⟩
abbrev drwV (Bat Bby : Nat) : Value := .func (.func 74) #[] #[ptr Bat 0, ptr Bby 0]
end Go.MatM
namespace Go.Proofs.YtemmhdgaagaglaaDoor
open Go Go.Sy Go.MatM
theorem c74 (Bat Bby : Nat) (sy : Option Addr) (ny cy at0 : Nat) (u : World) (hD : DrwAt u Bat Bby sy ny cy) (hb : u.heap[Bat]? = some (.cells #[.int .i64 (at0 : Nat)] 3 (0, 0))) (ha : at0 ≤ 100000) (n : Int) (hn : 1 ≤ n ∧ n ≤ 1000000) : Calls Tryd.prog 74 #[.int .i64 n, ptr Bat 0, ptr Bby 0] u (Ret fun v w' => ∃ z, v = .int .i64 z ∧ 0 ≤ z ∧ z < n ∧ Hp u [Bat] [(Bat, .cells #[.int .i64 ((at0 + 1 : Nat) : Int)] 3)] w') := by
  refine calls_of Tryd.func74 rfl rfl (fun a hf => ?_)
  have hh := Hp.init1 hb
  have hby := hD.by1
  have hne := hD.ne
  have hpos := hD.pos
  have htop := hD.top
  have hml : (at0 + 1) % ny < ny := Nat.mod_lt _ (by omega)
  obtain ⟨blk, off, c, T, fr, z, rfl, hbn, hbk, hcz, hz0, hz1⟩ := hD.el _ hml
  have hq0 := Int.emod_nonneg (z + 7 * ((at0 + 1 : Nat) : Int)) (show n ≠ 0 by omega)
  have hq1 := Int.emod_lt_of_pos (z + 7 * ((at0 + 1 : Nat) : Int)) (show 0 < n by omega)
  refine sy_sq ?_
  refine o_v hf hh (yv_assign rfl) ?_; clear hf a; intro a hf
  refine o_end ?_
  refine sy_sq ?_
  refine o_v hf hh (y_ld Tryd.sc_3 rfl) ?_; clear hf a; intro a hf
  refine ops_v hf hh (yv_cast (yv_add rfl rfl (by omega) (by omega)) (intv (b := ((at0 + 1 : Nat) : Int)) (by omega))) (.inl rfl) rfl rfl rfl ?_; clear hf a; intro a hf
  refine o_store hf hh Tryd.sz_3 fun w hh => ?_
  refine o_end ?_
  refine sy_seq ?_
  refine sy_quiet (C := Hp _ _ _) Tryd.follows (by kernel_rfl) (hh.drawn _) ?_
  refine oq_v hf (y_ld Tryd.sc_62 rfl) ?_; clear hf a; intro a hf
  refine oq_v hf (y_ld Tryd.sc_3 rfl) ?_; clear hf a; intro a hf
  refine oq_v hf (y_ld Tryd.sc_62 rfl) ?_; clear hf a; intro a hf
  refine oq_v hf (yv_len Tryd.se_62 rfl) ?_; clear hf a; intro a hf
  refine q_v hf (yv_cast (yv_rem rfl rfl (by omega) (by omega)) (intv (b := (((at0 + 1) % ny : Nat) : Int)) rfl)) (.inl rfl) rfl rfl ?_; clear hf a; intro a hf
  refine oq_v hf (y_ix Tryd.se_62 rfl rfl) ?_; clear hf a; intro a hf
  refine oq_v hf (y_ld Tryd.sc_108 rfl) ?_; clear hf a; intro a hf
  first | refine oq_v hf (yv_convx (.inl rfl) (by kernel_rfl) Tryd.un_3 rfl (by omega) (by simp only [IntKind.top]; omega)) ?_; clear hf a; intro a hf | refine oq_v hf (yv_conv (by kernel_rfl) Tryd.un_3 rfl) ?_; clear hf a; intro a hf
  refine oq_v hf (y_ld Tryd.sc_3 rfl) ?_; clear hf a; intro a hf
  refine oq_v hf (y_mul rfl rfl) ?_; clear hf a; intro a hf
  refine oq_v hf (y_add rfl rfl) ?_; clear hf a; intro a hf
  refine oq_v hf (yv_move rfl) ?_; clear hf a; intro a hf
  refine oq_v hf (yv_rem rfl rfl (by omega) (by omega)) ?_; clear hf a; intro a hf
  refine oq_v hf (yv_assign rfl) ?_; clear hf a; intro a hf
  refine q_end fun w hh => ?_
  refine then_n ?_
  refine sy_ret ?_
  refine ret_r hf rfl rfl ?_
  exact ⟨_, rfl, hq0, hq1, hh⟩
theorem c39 (sy : Option Addr) (m : List Int) (cy : Nat) (u : World) (hY : FlatAt u .u16 sy 1 (m.map fun z => [z])) (hm : ∀ z ∈ m, 0 ≤ z ∧ z ≤ 65535) (hp : 1 ≤ m.length) (ht : m.length ≤ 9223372036854775807) : Calls Tryd.prog 39 #[.slice sy m.length cy] u (Ret fun v w' => ∃ Bat Bby, v = drwV Bat Bby ∧ w'.heap[Bat]? = some (.cells #[.int .i64 ((0 : Nat) : Int)] 3 (0, 0)) ∧ DrwAt w' Bat Bby sy m.length cy ∧ u.heap.size ≤ Bat ∧ Ext [] u w') := by
  refine calls_of Tryd.func39 rfl rfl (fun a hf => ?_)
  have hh := Hp.init u []
  refine sy_sq ?_
  refine o_box hf hh ?_; clear hf hh a; intro B1 a w hf hh
  refine o_v hf hh (yv_assign rfl) ?_; clear hf a; intro a hf
  refine o_end ?_
  refine sy_sq ?_
  refine o_alloc hf hh Tryd.ze_3 ?_; clear hf hh a; intro B3 a w hf hh
  refine o_store hf hh Tryd.sz_3 fun w hh => ?_
  refine o_end ?_
  refine sy_sq ?_
  refine o_v hf hh (yv_makeFunc rfl rfl) ?_; clear hf a; intro a hf
  refine o_v hf hh (yv_assign rfl) ?_; clear hf a; intro a hf
  refine o_end ?_
  refine sy_ret ?_
  refine ret_r hf rfl rfl ?_
  have hnd := hh.nodup
  have hmn := hh.mine (B3, _) (.head _)
  simp only [List.not_mem_nil, or_false] at hmn
  refine ⟨B3, B1, rfl, hh.at (i := 0) rfl, ⟨hh.at (i := 1) rfl, fun h => ?_, (ByAt.of hY hm (N := [B3]) (fun x hx => by rw [List.mem_singleton] at hx; subst hx; exact hmn)).ext (hh.ext.mono (by simp)), hp, ht⟩, hmn, hh.ext⟩
  rw [List.mem_singleton] at h
  subst h
  simp at hnd
theorem c73 (Bat Bby : Nat) (sy : Option Addr) (ny cy at0 : Nat) (u : World) (hD : DrwAt u Bat Bby sy ny cy) (hb : u.heap[Bat]? = some (.cells #[.int .i64 (at0 : Nat)] 3 (0, 0))) (ha : at0 ≤ 99000) (B1 : Nat) (hB1 : u.heap[B1]? = some (.cells #[drwV Bat Bby] 49 (0, 0))) (hB1n : B1 ∉ [Bat]) (n wide most : Int) (hn : 0 ≤ n ∧ n ≤ most) (hm : most ≤ 1000000) (hw : 1 ≤ wide ∧ wide ≤ 1000) : Calls Tryd.prog 73 #[.int .i64 n, .int .i64 wide, .int .i64 most, ptr B1 0] u (Ret fun v w' => ∃ lo hi, v = .agg #[.int .i64 lo, .int .i64 hi] ∧ 0 ≤ lo ∧ lo ≤ n ∧ n ≤ hi ∧ hi ≤ most ∧ Hp u [Bat] [(Bat, .cells #[.int .i64 ((at0 + 2 : Nat) : Int)] 3)] w') := by
  refine calls_of Tryd.func73 rfl rfl (fun a hf => ?_)
  have hh := Hp.init1 hb
  refine sy_sq ?_
  refine o_alloc hf hh Tryd.ze_24 ?_; clear hf hh a; intro B7 a w hf hh
  refine o_end ?_
  refine sy_seq ?_
  refine sy_treeC (.p 0 (.q 0 1 (.p 2 (.p 6 (.p 7 (.q 0 8 (.p 9 (.e1 3 (.p 4 (.p 5 (.e1 10 (.p 11 (.p 12 (.e1 13 (.e1 14 (.fin)))))))))))))))) [[]] [(AtE u [Bat] [], [])] Tryd.follows (by kernel_rfl) rfl hh (fun w hh => ?_)
  refine mc_p rfl   hf (yv_move rfl) (.inl rfl) rfl rfl ?_; clear hf a; intro a hf
  refine mc_q rfl rfl (AtE.of hh (List.nil_subset _)) hf (y_ld Tryd.sc_49 rfl) (.inl rfl) rfl rfl ?_; clear hf a; intro a hf
  refine mc_p rfl   hf (yv_move rfl) (.inl rfl) rfl rfl ?_; clear hf a; intro a hf
  refine mc_p rfl   hf (yv_move rfl) (.inl rfl) rfl rfl ?_; clear hf a; intro a hf
  refine mc_p rfl   hf (yv_move rfl) (.inl rfl) rfl rfl ?_; clear hf a; intro a hf
  refine mc_q rfl rfl (AtE.of hh (List.nil_subset _)) hf (y_ld Tryd.sc_49 rfl) (.inl rfl) rfl rfl ?_; clear hf a; intro a hf
  refine mc_p rfl   hf (yv_move rfl) (.inl rfl) rfl rfl ?_; clear hf a; intro a hf
  refine mc_e rfl fun Q1 => ?_
  refine o_call hf Tryd.en_74 rfl rfl rfl (c74 Bat Bby sy ny cy (at0) _ (hD.ext hh.ext) (hh.get (Bat, .cells #[.int .i64 ((at0 : Nat) : Int)] 3) (by simp)) (by omega) wide (by omega)) ?_; clear hf a; intro v a w hR hf
  obtain ⟨z1, rfl, hz1a, hz1b, hx⟩ := hR; replace hh := hh.swap' (X := [(Bat, .cells #[.int .i64 ((at0 : Nat) : Int)] 3)]) (Z := [(B7, .cells #[.int .i64 0, .int .i64 0] 24)]) (by exact .swap _ _ _) hx; clear hx
  refine ops_end ?_
  refine then_n ⟨⟨fun _ _ => (AtE.of hh (List.nil_subset _)), trivial⟩, ?_⟩
  refine mc_p rfl   hf (y_sub rfl rfl) (.inl rfl) rfl rfl ?_; clear hf a; intro a hf
  refine mc_p rfl   hf (yv_max rfl rfl) (.inl rfl) rfl rfl ?_; clear hf a; intro a hf
  refine mc_e rfl fun Q1 => ?_
  refine o_call hf Tryd.en_74 rfl rfl rfl (c74 Bat Bby sy ny cy (at0 + 1) _ (hD.ext hh.ext) (hh.get (Bat, .cells #[.int .i64 ((at0 + 1 : Nat) : Int)] 3) (by simp)) (by omega) wide (by omega)) ?_; clear hf a; intro v a w hR hf
  obtain ⟨z2, rfl, hz2a, hz2b, hx⟩ := hR; replace hh := hh.swap' (X := [(Bat, .cells #[.int .i64 ((at0 + 1 : Nat) : Int)] 3)]) (Z := [(B7, .cells #[.int .i64 0, .int .i64 0] 24)]) (by exact .refl _) hx; clear hx
  refine ops_end ?_
  refine then_n ⟨⟨fun _ _ => (AtE.of hh (List.nil_subset _)), trivial⟩, ?_⟩
  refine mc_p rfl   hf (y_add rfl rfl) (.inl rfl) rfl rfl ?_; clear hf a; intro a hf
  refine mc_p rfl   hf (yv_min rfl rfl) (.inl rfl) rfl rfl ?_; clear hf a; intro a hf
  refine mc_e rfl fun Q1 => ?_
  refine o_call hf Tryd.en_29 rfl rfl rfl (c29 _ _ _) ?_; clear hf a; intro v a w hR hf
  obtain ⟨rfl, hx⟩ := hR; replace hh := hh.more hx; clear hx
  refine ops_end ?_
  refine then_n ⟨⟨fun _ _ => (AtE.of hh (List.nil_subset _)), trivial⟩, ?_⟩
  refine mc_e rfl fun Q1 => ?_
  refine o_store hf hh Tryd.sz_24 fun w hh => ?_
  refine ops_end ?_
  refine then_n ⟨⟨fun _ _ => (AtE.of hh (List.nil_subset _)), trivial⟩, ?_⟩
  refine mc_end ?_
  refine then_n ?_
  refine sy_ret ?_
  refine ret_c (vs := [.agg #[.int .i64 (max 0 (n - z1)), .int .i64 (min most (n + z2))]]) hf ?_ ?_
  · exact ⟨⟨B7, 0, _, 24, (0, 0), rfl, hh.at (i := 1) rfl, .inr ⟨2, _, Tryd.ag_24, rfl, rfl⟩⟩, trivial⟩
  exact ⟨_, _, rfl, by omega, by omega, by omega, by omega, hh.less (.cons_cons _ (.cons _ (.refl _)))⟩
end Go.Proofs.YtemmhdgaagaglaaDoor
namespace Go.MatM
open Go Go.Sy Go.Proofs Go.RowKit
section
variable {α : Type} {F A B C D : List α}
theorem pull1 : (F ++ (A ++ B)).Perm (A ++ (F ++ B)) := by
  rw [← List.append_assoc, ← List.append_assoc]
  exact List.Perm.append_right _ List.perm_append_comm
theorem pull2 : (F ++ (A ++ (B ++ C))).Perm (B ++ (F ++ (A ++ C))) := (List.Perm.append_left F pull1).trans pull1
theorem pull3 : (F ++ (A ++ (B ++ (C ++ D)))).Perm (C ++ (F ++ (A ++ (B ++ D)))) := (List.Perm.append_left F pull2).trans pull1
theorem pull4 : (F ++ (A ++ (B ++ (C ++ D)))).Perm (D ++ (F ++ (A ++ (B ++ C)))) := (List.Perm.append_left F (List.Perm.append_left A (List.Perm.append_left B List.perm_append_comm))).trans pull3
end
theorem ext_new {a b c : World} {B : Nat} (h : Ext [] a b) (k : Ext [B] b c) (hB : a.heap.size ≤ B) : Ext [] a c :=
  ⟨k.os.trans h.os, k.tape.trans h.tape, k.output.trans h.output, Nat.le_trans h.size k.size, fun i hi _ => by
    rw [k.block i (Nat.lt_of_lt_of_le hi h.size) (by rw [List.mem_singleton]; omega)]
    exact h.block i hi (by simp)⟩
theorem rows_cells {d : RowsD} {oa ob : Option Addr} {ca cb n m : Nat} {lo hi hid : Int} (hn : n = d.l.length) (hm : m = d.r.length) (h1 : lo = d.lo) (h2 : hi = d.hi) (h3 : hid = d.hid) :
    #[Value.slice oa n ca, .slice ob m cb, .int .i64 lo, .int .i64 hi, .int .i64 hid] = (rowsV d oa ob ca cb).cells := by subst hn; subst hm; subst h1; subst h2; subst h3; rfl
theorem spans_ok {lo hi : Int} {d : RowsD} {ps : List Pr} {sh : List Int} (h : Made d ps sh) (hl : d.l.length ≤ 10) (hr : d.r.length ≤ 10) (h1 : d.lo = lo) (h2 : d.hi = hi) (h3 : 0 ≤ lo) (h4 : lo ≤ hi) (h5 : hi ≤ 65536) (h6 : 0 ≤ d.hid) (h7 : d.hid ≤ 20) : Valid d :=
  ⟨hl, hr, h.ml, h.mr, by omega, by omega, by omega, h6, h7⟩
end Go.MatM
namespace Go.MatM
open Go Go.Sy Go.Proofs Go.RowKit
theorem AtE.mk3 {u w : World} {M : List Nat} {p q r : Nat × Obj} (e : Ext M u w) (h1 : w.heap[p.1]? = some p.2) (h2 : w.heap[q.1]? = some q.2) (h3 : w.heap[r.1]? = some r.2) : AtE u M [p, q, r] w := ⟨e, fun x hx => by
  simp only [List.mem_cons, List.not_mem_nil, or_false] at hx
  rcases hx with rfl | rfl | rfl
  · exact h1
  · exact h2
  · exact h3⟩
/-- What is known while rows are made. -/
def MkSt (u : World) (Bat Bby B1 B2 at0 : Nat) (low hig z3 : Int) (i : Nat) (tt : Int) (vp vs : Value) (w : World) : Prop :=
  ∃ (ac : Nat) (d : RowsD) (oa ob : Option Addr) (ca cb : Nat) (ps : List Pr) (sh : List Int) (X1 X2 X3 X4 : List (Nat × Obj)), (i : Int) ≤ z3 ∧ ac ≤ at0 + 3 + 12 * i ∧ 1000 ≤ tt ∧ tt ≤ 1000 + 150 * (i : Int) ∧ Made d ps sh ∧ d.lo = low ∧ d.hi = hig ∧
    d.hid = ((d.l.length : Nat) : Int) + ((d.r.length : Nat) : Int) - 2 * ((ps.length : Nat) : Int) ∧ d.l.length ≤ i ∧ d.r.length ≤ i ∧ d.hid ≤ i ∧
    OwnSl 53 4 (.slice oa d.l.length ca) d.l.length (encM d.l) X1 ∧ OwnSl 53 4 (.slice ob d.r.length cb) d.r.length (encM d.r) X2 ∧ OwnSl 45 2 vp ps.length (encP ps) X3 ∧ OwnSl 3 1 vs sh.length (ivs sh) X4 ∧
    Hp u [Bat] ((Bat, .cells #[.int .i64 ((ac : Nat) : Int)] 3) :: (B2, .cells (rowsV d oa ob ca cb).cells 26) :: (B1, .cells #[drwV Bat Bby] 49) :: (X1 ++ (X2 ++ (X3 ++ X4)))) w
theorem made_hid {d : RowsD} {ps : List Pr} {sh : List Int} (h : Made d ps sh) : ps.length ≤ d.l.length ∧ ps.length ≤ d.r.length := by
  have h1 := le_mos h.ch
  have h2 := mos_le (fitD d) d.l.length d.r.length 0 0
  omega
end Go.MatM
namespace Go.Proofs.YtemmhdgaagaglaaDoor
open Go Go.Sy Go.MatM
set_option maxRecDepth 100000 in
set_option maxHeartbeats 4000000 in
theorem c38 (Bat Bby : Nat) (sy : Option Addr) (ny cy at0 : Nat) (u : World) (hD : DrwAt u Bat Bby sy ny cy) (hb : u.heap[Bat]? = some (.cells #[.int .i64 (at0 : Nat)] 3 (0, 0))) (ha : at0 ≤ 1000) : Calls Tryd.prog 38 #[drwV Bat Bby] u (Ret fun v w' => ∃ d oa ob ca cb ps sh op cp os cs, v = .tuple #[rowsV d oa ob ca cb, .slice op ps.length cp, .slice os sh.length cs] ∧ Made d ps sh ∧ Valid d ∧ ps ∈ wys d ∧ MkAt w' oa d.l ∧ MkAt w' ob d.r ∧ ValsAt w' op (encP ps) ∧ ValsAt w' os (ivs sh) ∧ Ext [Bat] u w') := by
  refine calls_of Tryd.func38 rfl rfl (fun a hf => ?_)
  have hh := Hp.init1 hb
  refine sy_sq ?_
  refine o_box hf hh ?_; clear hf hh a; intro B1 a w hf hh
  refine o_alloc hf hh Tryd.ze_26 ?_; clear hf hh a; intro B2 a w hf hh
  refine o_v hf hh (yv_assign rfl) ?_; clear hf a; intro a hf
  refine o_v hf hh (yv_assign rfl) ?_; clear hf a; intro a hf
  refine o_end ?_
  refine sy_seq ?_
  replace hh := hh.perm (List.perm_append_comm (l₁ := [_, _]) (l₂ := [_]))
  have hb1n : B1 ∉ [Bat] := by
    have h := hh.nodup
    rw [List.mem_singleton]
    intro e
    subst e
    simp at h
  refine sy_ops ?_
  refine o_v hf hh (y_ld Tryd.sc_49 rfl) ?_; clear hf a; intro a hf
  refine o_call hf Tryd.en_74 rfl rfl rfl (c74 Bat Bby sy ny cy (at0) _ (hD.ext hh.ext) (hh.get (Bat, .cells #[.int .i64 ((at0 : Nat) : Int)] 3) (by simp)) (by omega) 30 (by omega)) ?_; clear hf a; intro v a w hR hf
  obtain ⟨z1, rfl, hz1a, hz1b, hx⟩ := hR; replace hh := hh.swap' (X := [(Bat, .cells #[.int .i64 ((at0 : Nat) : Int)] 3)]) (Z := _) (.refl _) hx; clear hx
  refine o_v hf hh (yv_assign rfl) ?_; clear hf a; intro a hf
  refine o_end ?_
  refine sy_sq ?_
  refine o_v hf hh (yv_move rfl) ?_; clear hf a; intro a hf
  refine o_v hf hh (yv_move rfl) ?_; clear hf a; intro a hf
  refine o_v hf hh (y_ld Tryd.sc_49 rfl) ?_; clear hf a; intro a hf
  refine o_call hf Tryd.en_74 rfl rfl rfl (c74 Bat Bby sy ny cy (at0 + 1) _ (hD.ext hh.ext) (hh.get (Bat, .cells #[.int .i64 ((at0 + 1 : Nat) : Int)] 3) (by simp)) (by omega) 40 (by omega)) ?_; clear hf a; intro v a w hR hf
  obtain ⟨z2, rfl, hz2a, hz2b, hx⟩ := hR; replace hh := hh.swap' (X := [(Bat, .cells #[.int .i64 ((at0 + 1 : Nat) : Int)] 3)]) (Z := _) (.refl _) hx; clear hx
  refine o_v hf hh (y_add rfl rfl) ?_; clear hf a; intro a hf
  refine o_call hf Tryd.en_29 rfl rfl rfl (c29 _ _ _) ?_; clear hf a; intro v a w hR hf
  obtain ⟨rfl, hx⟩ := hR; replace hh := hh.more hx; clear hx
  refine o_v hf hh (yv_fieldAddr Tryd.fo_26_2 rfl) ?_; clear hf a; intro a hf
  refine o_store hf hh Tryd.sz_24 fun w hh => ?_
  refine o_end ?_
  refine sy_sq ?_
  refine o_v hf hh (yv_assign rfl) ?_; clear hf a; intro a hf
  refine o_end ?_
  refine sy_sq ?_
  refine o_v hf hh (yv_makeFunc rfl rfl) ?_; clear hf a; intro a hf
  refine o_v hf hh (yv_assign rfl) ?_; clear hf a; intro a hf
  refine o_end ?_
  refine sy_seq ?_
  refine sy_sq ?_
  refine o_v hf hh (y_ld Tryd.sc_49 rfl) ?_; clear hf a; intro a hf
  refine o_call hf Tryd.en_74 rfl rfl rfl (c74 Bat Bby sy ny cy (at0 + 1 + 1) _ (hD.ext hh.ext) (hh.get (Bat, .cells #[.int .i64 ((at0 + 1 + 1 : Nat) : Int)] 3) (by simp)) (by omega) 11 (by omega)) ?_; clear hf a; intro v a w hR hf
  obtain ⟨z3, rfl, hz3a, hz3b, hx⟩ := hR; replace hh := hh.swap' (X := [(Bat, .cells #[.int .i64 ((at0 + 1 + 1 : Nat) : Int)] 3)]) (Z := _) (.refl _) hx; clear hx
  refine o_v hf hh (yv_move rfl) ?_; clear hf a; intro a hf
  refine o_end ?_
  refine sy_block ?_
  refine sy_loopH (σ := Nat × Int × Value × Value) [3, 4, 6, 8, 9, 10, 11, 24, 25, 26, 27, 28, 29, 30, 31, 32, 33, 34, 35, 36, 37, 38, 39, 40, 41, 42, 43, 44, 45, 46, 47, 48, 49, 50, 51, 52, 53, 54, 55, 56, 57, 58, 59, 60, 61, 62, 63, 64, 65, 66, 67, 68, 69, 70, 71, 72, 73, 74, 75, 76, 77, 78, 79, 80, 81, 82, 83, 84, 85, 86, 87, 88, 89, 90, 91, 92, 93, 94, 95, 96, 97, 98, 99, 100, 101, 102, 103, 104, 105, 106, 107, 108, 109, 110, 111, 112, 113, 114, 115, 116] (fun q => [(24, .int .i64 (q.1 : Nat)), (6, .int .i64 q.2.1), (3, q.2.2.1), (4, q.2.2.2)]) (fun q => fun w' => MkSt u Bat Bby B1 B2 at0 z1 (z1 + z2) z3 q.1 q.2.1 q.2.2.1 q.2.2.2 w') (fun q => z3.toNat - q.1) ((0, 1000, .slice none 0 0, .slice none 0 0)) hf ?_ ?_ ?_
  · repeat' (first | exact True.intro | refine And.intro rfl ?_)
  · exact ⟨at0 + 1 + 1 + 1, ⟨[], [], z1, z1 + z2, 0⟩, none, none, 0, 0, [], [], [], [], [], [], hz3a, by simp only; omega, by simp only; omega, by simp only; omega, Made.nil _ _ _, rfl, rfl, rfl, Nat.le_refl _, Nat.le_refl _, Int.le_refl _, OwnSl.nil _ _, OwnSl.nil _ _, OwnSl.nil _ _, OwnSl.nil _ _, hh⟩
  ·rintro q a w hq hf
   obtain ⟨i, tt, vp, vs⟩ := q
   simp only at hq hf ⊢
   obtain ⟨ac, d, oa, ob, ca, cb, ps, sh, X1, X2, X3, X4, hi3, hac, ht1, ht2, hMd, hlo, hhi, hhid, hll, hlr, hhm, hO1, hO2, hO3, hO4, hh⟩ := hq
   have hpsl := made_hid hMd; have hshl := hMd.len
   refine sy_sq ?_
   refine o_v hf hh (yv_bin rfl rfl rfl) ?_; clear hf a; intro a hf
   refine o_end ?_
   refine sy_seq ?_
   refine sy_cond hf rfl (fun hg6 => ?_) (fun hg6 => ?_)
   ·have hG6 := hg6; try simp only [gS] at hG6
    refine sy_skip ?_
    refine then_n ?_
    refine sy_cut (σ := Int × Value × Value) [3, 4, 6, 8, 9, 10, 11, 26, 27, 28, 29, 30, 31, 32, 33, 34, 35, 36, 37, 38, 39, 40, 41, 42, 43, 44, 45, 46, 47, 48, 49, 50, 51, 52, 53, 54, 55, 56, 57, 58, 59, 60, 61, 62, 63, 64, 65, 66, 67, 68, 69, 70, 71, 72, 73, 74, 75, 76, 77, 78, 79, 80, 81, 82, 83, 84, 85, 86, 87, 88, 89, 90, 91, 92, 93, 94, 95, 96, 97, 98, 99, 100, 101, 102, 103, 104, 105, 106, 107, 108, 109, 110, 111, 112, 113, 114, 115] (fun q => [(6, .int .i64 q.1), (3, q.2.1), (4, q.2.2)]) (fun q => fun w' => MkSt u Bat Bby B1 B2 at0 z1 (z1 + z2) z3 (i + 1) q.1 q.2.1 q.2.2 w' ∧ Hp u [Bat] [] w') hf ?_ ?_
    ·refine sy_block ?_
     refine sy_sq ?_
     refine o_v hf hh (yv_move rfl) ?_; clear hf a; intro a hf
     refine o_v hf hh (y_ld Tryd.sc_49 rfl) ?_; clear hf a; intro a hf
     refine o_call hf Tryd.en_74 rfl rfl rfl (c74 Bat Bby sy ny cy (ac) _ (hD.ext hh.ext) (hh.get (Bat, .cells #[.int .i64 ((ac : Nat) : Int)] 3) (by simp)) (by omega) 50 (by omega)) ?_; clear hf a; intro v a w hR hf
     obtain ⟨z4, rfl, hz4a, hz4b, hx⟩ := hR; replace hh := hh.swap' (X := [(Bat, .cells #[.int .i64 ((ac : Nat) : Int)] 3)]) (Z := _) (.refl _) hx; clear hx
     refine o_v hf hh (y_add rfl rfl) ?_; clear hf a; intro a hf
     refine o_v hf hh (y_add rfl rfl) ?_; clear hf a; intro a hf
     refine o_v hf hh (yv_assign rfl) ?_; clear hf a; intro a hf
     refine o_end ?_
     refine sy_seq ?_
     obtain ⟨tn, htn⟩ : ∃ z, z = tt + (100 + z4) := ⟨_, rfl⟩
     rw [← htn] at hf
     refine sy_treeC (.p 0 (.p 1 (.q 0 2 (.q 0 3 (.p 4 (.p 5 (.q 0 6 (.p 7 (.p 8 (.q 0 9 (.p 10 (.p 11 (.q 0 14 (.e1 12 (.p 13 (.e1 15 (.p 16 (.p 17 (.p 18 (.fin)))))))))))))))))))) [[]] [(AtE u [Bat] [(B2, .cells (rowsV d oa ob ca cb).cells 26), (B1, .cells #[drwV Bat Bby] 49)], [])] Tryd.follows (by kernel_rfl) rfl hh (fun w hh => ?_)
     refine mc_p rfl   hf (yv_fieldAddr Tryd.fo_26_2 rfl) (.inl rfl) rfl rfl ?_; clear hf a; intro a hf
     refine mc_p rfl   hf (yv_fieldAddr Tryd.fo_24_0 rfl) (.inl rfl) rfl rfl ?_; clear hf a; intro a hf
     refine mc_q rfl rfl (AtE.mk2 hh.ext (hh.at (i := 1) rfl) (hh.at (i := 2) rfl)) hf (y_ld Tryd.sc_3 rfl) (.inl rfl) rfl rfl ?_; clear hf a; intro a hf
     refine mc_q rfl rfl (AtE.mk2 hh.ext (hh.at (i := 1) rfl) (hh.at (i := 2) rfl)) hf (y_ld Tryd.sc_49 rfl) (.inl rfl) rfl rfl ?_; clear hf a; intro a hf
     refine mc_p rfl   hf (yv_fieldAddr Tryd.fo_26_2 rfl) (.inl rfl) rfl rfl ?_; clear hf a; intro a hf
     refine mc_p rfl   hf (yv_fieldAddr Tryd.fo_24_1 rfl) (.inl rfl) rfl rfl ?_; clear hf a; intro a hf
     refine mc_q rfl rfl (AtE.mk2 hh.ext (hh.at (i := 1) rfl) (hh.at (i := 2) rfl)) hf (y_ld Tryd.sc_3 rfl) (.inl rfl) rfl rfl ?_; clear hf a; intro a hf
     refine mc_p rfl   hf (yv_fieldAddr Tryd.fo_26_2 rfl) (.inl rfl) rfl rfl ?_; clear hf a; intro a hf
     refine mc_p rfl   hf (yv_fieldAddr Tryd.fo_24_0 rfl) (.inl rfl) rfl rfl ?_; clear hf a; intro a hf
     refine mc_q rfl rfl (AtE.mk2 hh.ext (hh.at (i := 1) rfl) (hh.at (i := 2) rfl)) hf (y_ld Tryd.sc_3 rfl) (.inl rfl) rfl rfl ?_; clear hf a; intro a hf
     refine mc_p rfl   hf (y_sub rfl rfl) (.inl rfl) rfl rfl ?_; clear hf a; intro a hf
     refine mc_p rfl   hf (y_add rfl rfl) (.inl rfl) rfl rfl ?_; clear hf a; intro a hf
     refine mc_q rfl rfl (AtE.mk2 hh.ext (hh.at (i := 1) rfl) (hh.at (i := 2) rfl)) hf (y_ld Tryd.sc_49 rfl) (.inl rfl) rfl rfl ?_; clear hf a; intro a hf
     refine mc_e rfl fun Q1 => ?_
     refine o_call hf Tryd.en_74 rfl rfl rfl (c74 Bat Bby sy ny cy (ac + 1) _ (hD.ext hh.ext) (hh.get (Bat, .cells #[.int .i64 ((ac + 1 : Nat) : Int)] 3) (by simp)) (by omega) (d.hi - d.lo + 1) (by omega)) ?_; clear hf a; intro v a w hR hf
     obtain ⟨z5, rfl, hz5a, hz5b, hx⟩ := hR; replace hh := hh.swap' (X := [(Bat, .cells #[.int .i64 ((ac + 1 : Nat) : Int)] 3)]) (Z := _) (.refl _) hx; clear hx
     refine ops_end ?_
     refine then_n ⟨⟨fun _ _ => (AtE.mk2 hh.ext (hh.at (i := 1) rfl) (hh.at (i := 2) rfl)), trivial⟩, ?_⟩
     refine mc_p rfl   hf (y_add rfl rfl) (.inl rfl) rfl rfl ?_; clear hf a; intro a hf
     refine mc_e rfl fun Q1 => ?_
     refine o_call hf Tryd.en_74 rfl rfl rfl (c74 Bat Bby sy ny cy (ac + 1 + 1) _ (hD.ext hh.ext) (hh.get (Bat, .cells #[.int .i64 ((ac + 1 + 1 : Nat) : Int)] 3) (by simp)) (by omega) 3 (by omega)) ?_; clear hf a; intro v a w hR hf
     obtain ⟨z6, rfl, hz6a, hz6b, hx⟩ := hR; replace hh := hh.swap' (X := [(Bat, .cells #[.int .i64 ((ac + 1 + 1 : Nat) : Int)] 3)]) (Z := _) (.refl _) hx; clear hx
     refine ops_end ?_
     refine then_n ⟨⟨fun _ _ => (AtE.mk2 hh.ext (hh.at (i := 1) rfl) (hh.at (i := 2) rfl)), trivial⟩, ?_⟩
     refine mc_p rfl   hf (y_mul rfl rfl) (.inl rfl) rfl rfl ?_; clear hf a; intro a hf
     refine mc_p rfl   hf (yv_assign rfl) (.inl rfl) rfl rfl ?_; clear hf a; intro a hf
     refine mc_p rfl   hf (yv_assign rfl) (.inl rfl) rfl rfl ?_; clear hf a; intro a hf
     refine mc_end ?_
     refine then_n ?_
     refine sy_seq ?_
     obtain ⟨sf, hsf⟩ : ∃ z, z = d.lo + z5 := ⟨_, rfl⟩
     obtain ⟨tv, htv⟩ : ∃ z, z = z6 * 40 := ⟨_, rfl⟩
     rw [← hsf, ← htv] at hf
     refine sy_ops ?_
     refine o_v hf hh (yv_move rfl) ?_; clear hf a; intro a hf
     refine o_v hf hh (yv_move rfl) ?_; clear hf a; intro a hf
     refine o_call hf Tryd.en_73 rfl rfl rfl (c73 Bat Bby sy ny cy (ac + 1 + 1 + 1) _ (hD.ext hh.ext) (hh.get (Bat, .cells #[.int .i64 ((ac + 1 + 1 + 1 : Nat) : Int)] 3) (by simp)) (by omega) B1 (hh.get (B1, .cells #[drwV Bat Bby] 49) (by simp)) hb1n tn 6 65536 (by omega) (by omega) (by omega)) ?_; clear hf a; intro v a w hR hf
     obtain ⟨l1, h1, rfl, g1a, g1b, g1c, g1d, hx⟩ := hR; replace hh := hh.swap' (X := [(Bat, .cells #[.int .i64 ((ac + 1 + 1 + 1 : Nat) : Int)] 3)]) (Z := _) (.refl _) hx; clear hx
     refine o_v hf hh (yv_move rfl) ?_; clear hf a; intro a hf
     refine o_v hf hh (yv_move rfl) ?_; clear hf a; intro a hf
     refine o_call hf Tryd.en_73 rfl rfl rfl (c73 Bat Bby sy ny cy (ac + 1 + 1 + 1 + 2) _ (hD.ext hh.ext) (hh.get (Bat, .cells #[.int .i64 ((ac + 1 + 1 + 1 + 2 : Nat) : Int)] 3) (by simp)) (by omega) B1 (hh.get (B1, .cells #[drwV Bat Bby] 49) (by simp)) hb1n tv 9 1000 (by omega) (by omega) (by omega)) ?_; clear hf a; intro v a w hR hf
     obtain ⟨l2, h2, rfl, g2a, g2b, g2c, g2d, hx⟩ := hR; replace hh := hh.swap' (X := [(Bat, .cells #[.int .i64 ((ac + 1 + 1 + 1 + 2 : Nat) : Int)] 3)]) (Z := _) (.refl _) hx; clear hx
     refine o_v hf hh (yv_buildS Tryd.bs_53 rfl rfl) ?_; clear hf a; intro a hf
     refine o_v hf hh (yv_move rfl) ?_; clear hf a; intro a hf
     refine o_v hf hh (yv_move rfl) ?_; clear hf a; intro a hf
     refine o_v hf hh (yv_move rfl) ?_; clear hf a; intro a hf
     refine o_v hf hh (y_sub rfl rfl) ?_; clear hf a; intro a hf
     refine o_call hf Tryd.en_73 rfl rfl rfl (c73 Bat Bby sy ny cy (ac + 1 + 1 + 1 + 2 + 2) _ (hD.ext hh.ext) (hh.get (Bat, .cells #[.int .i64 ((ac + 1 + 1 + 1 + 2 + 2 : Nat) : Int)] 3) (by simp)) (by omega) B1 (hh.get (B1, .cells #[drwV Bat Bby] 49) (by simp)) hb1n (tn - sf) 6 65536 (by omega) (by omega) (by omega)) ?_; clear hf a; intro v a w hR hf
     obtain ⟨l3, h3, rfl, g3a, g3b, g3c, g3d, hx⟩ := hR; replace hh := hh.swap' (X := [(Bat, .cells #[.int .i64 ((ac + 1 + 1 + 1 + 2 + 2 : Nat) : Int)] 3)]) (Z := _) (.refl _) hx; clear hx
     refine o_v hf hh (yv_move rfl) ?_; clear hf a; intro a hf
     refine o_v hf hh (yv_move rfl) ?_; clear hf a; intro a hf
     refine o_call hf Tryd.en_73 rfl rfl rfl (c73 Bat Bby sy ny cy (ac + 1 + 1 + 1 + 2 + 2 + 2) _ (hD.ext hh.ext) (hh.get (Bat, .cells #[.int .i64 ((ac + 1 + 1 + 1 + 2 + 2 + 2 : Nat) : Int)] 3) (by simp)) (by omega) B1 (hh.get (B1, .cells #[drwV Bat Bby] 49) (by simp)) hb1n tv 9 1000 (by omega) (by omega) (by omega)) ?_; clear hf a; intro v a w hR hf
     obtain ⟨l4, h4, rfl, g4a, g4b, g4c, g4d, hx⟩ := hR; replace hh := hh.swap' (X := [(Bat, .cells #[.int .i64 ((ac + 1 + 1 + 1 + 2 + 2 + 2 : Nat) : Int)] 3)]) (Z := _) (.refl _) hx; clear hx
     refine o_v hf hh (yv_buildS Tryd.bs_53 rfl rfl) ?_; clear hf a; intro a hf
     refine o_alloc hf hh Tryd.ze_53 ?_; clear hf hh a; intro B10 a w hf hh
     refine o_alloc hf hh Tryd.ze_53 ?_; clear hf hh a; intro B11 a w hf hh
     refine o_store hf hh Tryd.sz_53 fun w hh => ?_
     refine o_store hf hh Tryd.sz_53 fun w hh => ?_
     refine o_end ?_
     refine sy_seq ?_
     replace hh : Hp u [Bat] ((B11, .cells (mkV (Mk.mk l3 h3 l4 h4)).cells 53) :: (B10, .cells (mkV (Mk.mk l1 h1 l2 h2)).cells 53) :: (Bat, .cells #[.int .i64 ((ac + 1 + 1 + 1 + 2 + 2 + 2 + 2 : Nat) : Int)] 3) :: (B2, .cells (rowsV d oa ob ca cb).cells 26) :: (B1, .cells #[drwV Bat Bby] 49) :: (X1 ++ (X2 ++ (X3 ++ X4)))) w := hh
     replace hh := hh.perm (List.perm_middle (l₁ := [_, _]))
     refine sy_ops ?_
     refine o_v hf hh (y_ld Tryd.sc_49 rfl) ?_; clear hf a; intro a hf
     refine o_call hf Tryd.en_74 rfl rfl rfl (c74 Bat Bby sy ny cy (ac + 1 + 1 + 1 + 2 + 2 + 2 + 2) _ (hD.ext hh.ext) (hh.get (Bat, .cells #[.int .i64 ((ac + 1 + 1 + 1 + 2 + 2 + 2 + 2 : Nat) : Int)] 3) (by simp)) (by omega) 5 (by omega)) ?_; clear hf a; intro v a w hR hf
     obtain ⟨z7, rfl, hz7a, hz7b, hx⟩ := hR; replace hh := hh.swap' (X := [(Bat, .cells #[.int .i64 ((ac + 1 + 1 + 1 + 2 + 2 + 2 + 2 : Nat) : Int)] 3)]) (Z := _) (.refl _) hx; clear hx
     refine o_end ?_
     refine sy_block ?_
     refine sy_seq ?_
     have hma : okM (Mk.mk l1 h1 l2 h2) = true := okM_iff.2 ⟨by simp only; omega, by simp only; omega, by simp only; omega, by simp only; omega, by simp only; omega, by simp only; omega⟩
     have hmb : okM (Mk.mk l3 h3 l4 h4) = true := okM_iff.2 ⟨by simp only; omega, by simp only; omega, by simp only; omega, by simp only; omega, by simp only; omega, by simp only; omega⟩
     replace hh : Hp u [Bat] ([(Bat, .cells #[.int .i64 ((ac + 1 + 1 + 1 + 2 + 2 + 2 + 2 + 1 : Nat) : Int)] 3), (B11, .cells (mkV (Mk.mk l3 h3 l4 h4)).cells 53), (B10, .cells (mkV (Mk.mk l1 h1 l2 h2)).cells 53), (B2, .cells (rowsV d oa ob ca cb).cells 26), (B1, .cells #[drwV Bat Bby] 49)] ++ (X1 ++ (X2 ++ (X3 ++ X4)))) w := hh
     refine sy_ops ?_
     refine o_v hf hh (yv_bin rfl rfl rfl) ?_; clear hf a; intro a hf
     refine o_v hf hh (yv_assign rfl) ?_; clear hf a; intro a hf
     refine o_end ?_
     refine sy_cond hf rfl (fun hg16 => ?_) (fun hg16 => ?_)
     ·have hG16 := hg16; try simp only [gS] at hG16
      refine sy_sq ?_
      refine o_v hf hh (yv_fieldAddr Tryd.fo_26_0 rfl) ?_; clear hf a; intro a hf
      refine o_v hf hh (y_ld Tryd.sc_22 rfl) ?_; clear hf a; intro a hf
      refine o_v hf hh (y_lds Tryd.ag_53 rfl) ?_; clear hf a; intro a hf
      refine ops_buildSl hf hh Tryd.bl_22_1 rfl rfl (.inl rfl) rfl ?_; clear hf hh; clear a; intro B97 a w hf hh
      refine ops_append (e := 53) (size := 4) (xs := encM d.l) (X := X1) (Z := _) (m := d.l.length) (q := 1) hf (hh.perm (.cons _ (pull1 (F := [_, _, _, _, _])))) Tryd.eb_22 rfl rfl hO1 rfl rfl rfl (by simp only [maxLen]; omega) (by omega) (.inl rfl) rfl ?_
      clear hf hh a; intro v1 X1n a w hO1n hf hh
      replace hh := hh.perm (pull1 (F := [_, _, _, _, _])).symm
      obtain ⟨oan, can, rfl⟩ := OwnSl_val hO1n
      refine o_v hf hh (yv_fieldAddr Tryd.fo_26_0 rfl) ?_; clear hf a; intro a hf
      refine o_store hf hh Tryd.sz_22 fun w hh => ?_
      refine o_end ?_
      refine sy_ops ?_
      refine o_v hf hh (yv_fieldAddr Tryd.fo_26_3 rfl) ?_; clear hf a; intro a hf
      refine o_v hf hh (y_ld Tryd.sc_3 rfl) ?_; clear hf a; intro a hf
      refine o_v hf hh (y_add rfl rfl) ?_; clear hf a; intro a hf
      refine o_v hf hh (yv_fieldAddr Tryd.fo_26_3 rfl) ?_; clear hf a; intro a hf
      refine o_store hf hh Tryd.sz_3 fun w hh => ?_
      refine ops_end ?_
      refine blk_n ?_
      refine blk_n ?_
      refine then_n ?_
      first
        | (have hmn := hMd.pair (d' := { d with l := d.l ++ [(Mk.mk l1 h1 l2 h2)], r := d.r ++ [(Mk.mk l3 h3 l4 h4)] }) (s := sf) rfl rfl rfl rfl hma hmb (by simp only; omega) (by simp only; omega) (by simp only; omega) (by simp only; omega) (by omega) (by omega)
           refine ⟨(tn, vpn, vsn), ⟨⟨ac + 1 + 1 + 1 + 2 + 2 + 2 + 2 + 1, { d with l := d.l ++ [(Mk.mk l1 h1 l2 h2)], r := d.r ++ [(Mk.mk l3 h3 l4 h4)] }, oan, obn, can, cbn, _, _, X1n, X2n, X3n, X4n, by omega, by omega, by omega, by omega, hmn, hlo, hhi, ?_, ?_, ?_, ?_, ?_, ?_, ?_, ?_, ?_⟩, hh.less (List.nil_sublist _)⟩, hf.head ⟨rfl, rfl, rfl, True.intro⟩ (Keep.cons rfl (Keep.cons rfl (Keep.cons rfl (Keep.cons rfl (Keep.cons rfl (Keep.cons rfl (Keep.cons rfl (Keep.cons rfl (Keep.cons rfl (Keep.cons rfl (Keep.cons rfl (Keep.cons rfl (Keep.cons rfl (Keep.cons rfl (Keep.cons rfl (Keep.cons rfl (Keep.cons rfl (Keep.cons rfl (Keep.cons rfl (Keep.cons rfl (Keep.cons rfl (Keep.cons rfl (Keep.cons rfl (Keep.cons rfl (Keep.cons rfl (Keep.cons rfl (Keep.cons rfl (Keep.cons rfl (Keep.cons rfl (Keep.cons rfl (Keep.cons rfl (Keep.cons rfl (Keep.cons rfl (Keep.cons rfl (Keep.cons rfl (Keep.cons rfl (Keep.cons rfl (Keep.cons rfl (Keep.cons rfl (Keep.cons rfl (Keep.cons rfl (Keep.cons rfl (Keep.cons rfl (Keep.cons rfl (Keep.cons rfl (Keep.cons rfl (Keep.cons rfl (Keep.cons rfl (Keep.cons rfl (Keep.cons rfl (Keep.cons rfl (Keep.cons rfl (Keep.cons rfl (Keep.cons rfl (Keep.cons rfl (Keep.cons rfl (Keep.cons rfl (Keep.base))))))))))))))))))))))))))))))))))))))))))))))))))))))))))⟩
           · simp only [List.length_append, List.length_singleton]; omega
           · simp only [List.length_append, List.length_singleton]; omega
           · simp only [List.length_append, List.length_singleton]; omega
           · simp only; omega
           · show OwnSl 53 4 (.slice oan (d.l ++ [(Mk.mk l1 h1 l2 h2)]).length can) (d.l ++ [(Mk.mk l1 h1 l2 h2)]).length (encM (d.l ++ [(Mk.mk l1 h1 l2 h2)])) X1n; rw [List.length_append, encM_app]; exact hO1n
           · show OwnSl 53 4 (.slice obn (d.r ++ [(Mk.mk l3 h3 l4 h4)]).length cbn) (d.r ++ [(Mk.mk l3 h3 l4 h4)]).length (encM (d.r ++ [(Mk.mk l3 h3 l4 h4)])) X2n; rw [List.length_append, encM_app]; exact hO2n
           · rw [List.length_append, encP_snoc]; exact hO3n
           · rw [List.length_append]; unfold ivs; rw [List.map_append]; exact hO4n
           · rw [← rows_cells (d := { d with l := d.l ++ [(Mk.mk l1 h1 l2 h2)], r := d.r ++ [(Mk.mk l3 h3 l4 h4)] }) (oa := oan) (ob := obn) (ca := can) (cb := cbn) (n := d.l.length + 1) (m := d.r.length + 1) (lo := d.lo) (hi := d.hi) (hid := d.hid) (by simp) (by simp) rfl rfl rfl]; exact hh.less (.cons_cons _ (.cons _ (.cons _ (.refl _)))))
        | (refine ⟨(tn, vp, vs), ⟨⟨ac + 1 + 1 + 1 + 2 + 2 + 2 + 2 + 1, { d with l := d.l ++ [(Mk.mk l1 h1 l2 h2)], hid := d.hid + 1 }, oan, ob, can, cb, ps, sh, X1n, X2, X3, X4, by omega, by omega, by omega, by omega, hMd.app rfl (List.append_nil _).symm rfl rfl (by simpa using hma) (by simp), hlo, hhi, ?_, ?_, ?_, ?_, ?_, ?_, ?_, ?_, ?_⟩, hh.less (List.nil_sublist _)⟩, hf.head ⟨rfl, rfl, rfl, True.intro⟩ (Keep.cons rfl (Keep.cons rfl (Keep.cons rfl (Keep.cons rfl (Keep.cons rfl (Keep.cons rfl (Keep.cons rfl (Keep.cons rfl (Keep.cons rfl (Keep.cons rfl (Keep.cons rfl (Keep.cons rfl (Keep.cons rfl (Keep.cons rfl (Keep.cons rfl (Keep.cons rfl (Keep.cons rfl (Keep.cons rfl (Keep.cons rfl (Keep.cons rfl (Keep.cons rfl (Keep.cons rfl (Keep.cons rfl (Keep.cons rfl (Keep.cons rfl (Keep.cons rfl (Keep.cons rfl (Keep.cons rfl (Keep.cons rfl (Keep.cons rfl (Keep.cons rfl (Keep.cons rfl (Keep.cons rfl (Keep.cons rfl (Keep.cons rfl (Keep.cons rfl (Keep.cons rfl (Keep.cons rfl (Keep.cons rfl (Keep.cons rfl (Keep.cons rfl (Keep.cons rfl (Keep.cons rfl (Keep.cons rfl (Keep.cons rfl (Keep.cons rfl (Keep.cons rfl (Keep.cons rfl (Keep.cons rfl (Keep.cons rfl (Keep.cons rfl (Keep.cons rfl (Keep.cons rfl (Keep.cons rfl (Keep.cons rfl (Keep.cons rfl (Keep.cons rfl (Keep.base))))))))))))))))))))))))))))))))))))))))))))))))))))))))))⟩
           · simp only [List.length_append, List.length_singleton]; omega
           · simp only [List.length_append, List.length_singleton]; omega
           · simp only [List.length_append, List.length_singleton]; omega
           · simp only; omega
           · show OwnSl 53 4 (.slice oan (d.l ++ [(Mk.mk l1 h1 l2 h2)]).length can) (d.l ++ [(Mk.mk l1 h1 l2 h2)]).length (encM (d.l ++ [(Mk.mk l1 h1 l2 h2)])) X1n; rw [List.length_append, encM_app]; exact hO1n
           · exact hO2
           · exact hO3
           · exact hO4
           · rw [← rows_cells (d := { d with l := d.l ++ [(Mk.mk l1 h1 l2 h2)], hid := d.hid + 1 }) (oa := oan) (ob := ob) (ca := can) (cb := cb) (n := d.l.length + 1) (m := d.r.length) (lo := d.lo) (hi := d.hi) (hid := d.hid + 1) (by simp) (by simp) rfl rfl rfl]; exact hh.less (.cons_cons _ (.cons _ (.cons _ (.refl _)))))
        | (refine ⟨(tn, vp, vs), ⟨⟨ac + 1 + 1 + 1 + 2 + 2 + 2 + 2 + 1, { d with r := d.r ++ [(Mk.mk l3 h3 l4 h4)], hid := d.hid + 1 }, oa, obn, ca, cbn, ps, sh, X1, X2n, X3, X4, by omega, by omega, by omega, by omega, hMd.app (List.append_nil _).symm rfl rfl rfl (by simp) (by simpa using hmb), hlo, hhi, ?_, ?_, ?_, ?_, ?_, ?_, ?_, ?_, ?_⟩, hh.less (List.nil_sublist _)⟩, hf.head ⟨rfl, rfl, rfl, True.intro⟩ (Keep.cons rfl (Keep.cons rfl (Keep.cons rfl (Keep.cons rfl (Keep.cons rfl (Keep.cons rfl (Keep.cons rfl (Keep.cons rfl (Keep.cons rfl (Keep.cons rfl (Keep.cons rfl (Keep.cons rfl (Keep.cons rfl (Keep.cons rfl (Keep.cons rfl (Keep.cons rfl (Keep.cons rfl (Keep.cons rfl (Keep.cons rfl (Keep.cons rfl (Keep.cons rfl (Keep.cons rfl (Keep.cons rfl (Keep.cons rfl (Keep.cons rfl (Keep.cons rfl (Keep.cons rfl (Keep.cons rfl (Keep.cons rfl (Keep.cons rfl (Keep.cons rfl (Keep.cons rfl (Keep.cons rfl (Keep.cons rfl (Keep.cons rfl (Keep.cons rfl (Keep.cons rfl (Keep.cons rfl (Keep.cons rfl (Keep.cons rfl (Keep.cons rfl (Keep.cons rfl (Keep.cons rfl (Keep.cons rfl (Keep.cons rfl (Keep.cons rfl (Keep.cons rfl (Keep.cons rfl (Keep.cons rfl (Keep.cons rfl (Keep.cons rfl (Keep.cons rfl (Keep.cons rfl (Keep.cons rfl (Keep.cons rfl (Keep.cons rfl (Keep.cons rfl (Keep.base))))))))))))))))))))))))))))))))))))))))))))))))))))))))))⟩
           · simp only [List.length_append, List.length_singleton]; omega
           · simp only [List.length_append, List.length_singleton]; omega
           · simp only [List.length_append, List.length_singleton]; omega
           · simp only; omega
           · exact hO1
           · show OwnSl 53 4 (.slice obn (d.r ++ [(Mk.mk l3 h3 l4 h4)]).length cbn) (d.r ++ [(Mk.mk l3 h3 l4 h4)]).length (encM (d.r ++ [(Mk.mk l3 h3 l4 h4)])) X2n; rw [List.length_append, encM_app]; exact hO2n
           · exact hO3
           · exact hO4
           · rw [← rows_cells (d := { d with r := d.r ++ [(Mk.mk l3 h3 l4 h4)], hid := d.hid + 1 }) (oa := oa) (ob := obn) (ca := ca) (cb := cbn) (n := d.l.length) (m := d.r.length + 1) (lo := d.lo) (hi := d.hi) (hid := d.hid + 1) (by simp) (by simp) rfl rfl rfl]; exact hh.less (.cons_cons _ (.cons _ (.cons _ (.refl _)))))
     ·have hG16 := hg16; try simp only [gS] at hG16
      refine sy_sq ?_
      refine o_v hf hh (yv_bin rfl rfl rfl) ?_; clear hf a; intro a hf
      refine o_v hf hh (yv_assign rfl) ?_; clear hf a; intro a hf
      refine o_end ?_
      refine sy_cond hf rfl (fun hg19 => ?_) (fun hg19 => ?_)
      ·have hG19 := hg19; try simp only [gS] at hG19
       refine sy_sq ?_
       refine o_v hf hh (yv_fieldAddr Tryd.fo_26_1 rfl) ?_; clear hf a; intro a hf
       refine o_v hf hh (y_ld Tryd.sc_22 rfl) ?_; clear hf a; intro a hf
       refine o_v hf hh (y_lds Tryd.ag_53 rfl) ?_; clear hf a; intro a hf
       refine ops_buildSl hf hh Tryd.bl_22_1 rfl rfl (.inl rfl) rfl ?_; clear hf hh; clear a; intro B109 a w hf hh
       refine ops_append (e := 53) (size := 4) (xs := encM d.r) (X := X2) (Z := _) (m := d.r.length) (q := 1) hf (hh.perm (.cons _ (pull2 (F := [_, _, _, _, _])))) Tryd.eb_22 rfl rfl hO2 rfl rfl rfl (by simp only [maxLen]; omega) (by omega) (.inl rfl) rfl ?_
       clear hf hh a; intro v2 X2n a w hO2n hf hh
       replace hh := hh.perm (pull2 (F := [_, _, _, _, _])).symm
       obtain ⟨obn, cbn, rfl⟩ := OwnSl_val hO2n
       refine o_v hf hh (yv_fieldAddr Tryd.fo_26_1 rfl) ?_; clear hf a; intro a hf
       refine o_store hf hh Tryd.sz_22 fun w hh => ?_
       refine o_end ?_
       refine sy_ops ?_
       refine o_v hf hh (yv_fieldAddr Tryd.fo_26_3 rfl) ?_; clear hf a; intro a hf
       refine o_v hf hh (y_ld Tryd.sc_3 rfl) ?_; clear hf a; intro a hf
       refine o_v hf hh (y_add rfl rfl) ?_; clear hf a; intro a hf
       refine o_v hf hh (yv_fieldAddr Tryd.fo_26_3 rfl) ?_; clear hf a; intro a hf
       refine o_store hf hh Tryd.sz_3 fun w hh => ?_
       refine ops_end ?_
       refine blk_n ?_
       refine blk_n ?_
       refine then_n ?_
       first
         | (have hmn := hMd.pair (d' := { d with l := d.l ++ [(Mk.mk l1 h1 l2 h2)], r := d.r ++ [(Mk.mk l3 h3 l4 h4)] }) (s := sf) rfl rfl rfl rfl hma hmb (by simp only; omega) (by simp only; omega) (by simp only; omega) (by simp only; omega) (by omega) (by omega)
            refine ⟨(tn, vpn, vsn), ⟨⟨ac + 1 + 1 + 1 + 2 + 2 + 2 + 2 + 1, { d with l := d.l ++ [(Mk.mk l1 h1 l2 h2)], r := d.r ++ [(Mk.mk l3 h3 l4 h4)] }, oan, obn, can, cbn, _, _, X1n, X2n, X3n, X4n, by omega, by omega, by omega, by omega, hmn, hlo, hhi, ?_, ?_, ?_, ?_, ?_, ?_, ?_, ?_, ?_⟩, hh.less (List.nil_sublist _)⟩, hf.head ⟨rfl, rfl, rfl, True.intro⟩ (Keep.cons rfl (Keep.cons rfl (Keep.cons rfl (Keep.cons rfl (Keep.cons rfl (Keep.cons rfl (Keep.cons rfl (Keep.cons rfl (Keep.cons rfl (Keep.cons rfl (Keep.cons rfl (Keep.cons rfl (Keep.cons rfl (Keep.cons rfl (Keep.cons rfl (Keep.cons rfl (Keep.cons rfl (Keep.cons rfl (Keep.cons rfl (Keep.cons rfl (Keep.cons rfl (Keep.cons rfl (Keep.cons rfl (Keep.cons rfl (Keep.cons rfl (Keep.cons rfl (Keep.cons rfl (Keep.cons rfl (Keep.cons rfl (Keep.cons rfl (Keep.cons rfl (Keep.cons rfl (Keep.cons rfl (Keep.cons rfl (Keep.cons rfl (Keep.cons rfl (Keep.cons rfl (Keep.cons rfl (Keep.cons rfl (Keep.cons rfl (Keep.cons rfl (Keep.cons rfl (Keep.cons rfl (Keep.cons rfl (Keep.cons rfl (Keep.cons rfl (Keep.cons rfl (Keep.cons rfl (Keep.cons rfl (Keep.cons rfl (Keep.cons rfl (Keep.cons rfl (Keep.cons rfl (Keep.cons rfl (Keep.cons rfl (Keep.cons rfl (Keep.cons rfl (Keep.cons rfl (Keep.cons rfl (Keep.base))))))))))))))))))))))))))))))))))))))))))))))))))))))))))))⟩
            · simp only [List.length_append, List.length_singleton]; omega
            · simp only [List.length_append, List.length_singleton]; omega
            · simp only [List.length_append, List.length_singleton]; omega
            · simp only; omega
            · show OwnSl 53 4 (.slice oan (d.l ++ [(Mk.mk l1 h1 l2 h2)]).length can) (d.l ++ [(Mk.mk l1 h1 l2 h2)]).length (encM (d.l ++ [(Mk.mk l1 h1 l2 h2)])) X1n; rw [List.length_append, encM_app]; exact hO1n
            · show OwnSl 53 4 (.slice obn (d.r ++ [(Mk.mk l3 h3 l4 h4)]).length cbn) (d.r ++ [(Mk.mk l3 h3 l4 h4)]).length (encM (d.r ++ [(Mk.mk l3 h3 l4 h4)])) X2n; rw [List.length_append, encM_app]; exact hO2n
            · rw [List.length_append, encP_snoc]; exact hO3n
            · rw [List.length_append]; unfold ivs; rw [List.map_append]; exact hO4n
            · rw [← rows_cells (d := { d with l := d.l ++ [(Mk.mk l1 h1 l2 h2)], r := d.r ++ [(Mk.mk l3 h3 l4 h4)] }) (oa := oan) (ob := obn) (ca := can) (cb := cbn) (n := d.l.length + 1) (m := d.r.length + 1) (lo := d.lo) (hi := d.hi) (hid := d.hid) (by simp) (by simp) rfl rfl rfl]; exact hh.less (.cons_cons _ (.cons _ (.cons _ (.refl _)))))
         | (refine ⟨(tn, vp, vs), ⟨⟨ac + 1 + 1 + 1 + 2 + 2 + 2 + 2 + 1, { d with l := d.l ++ [(Mk.mk l1 h1 l2 h2)], hid := d.hid + 1 }, oan, ob, can, cb, ps, sh, X1n, X2, X3, X4, by omega, by omega, by omega, by omega, hMd.app rfl (List.append_nil _).symm rfl rfl (by simpa using hma) (by simp), hlo, hhi, ?_, ?_, ?_, ?_, ?_, ?_, ?_, ?_, ?_⟩, hh.less (List.nil_sublist _)⟩, hf.head ⟨rfl, rfl, rfl, True.intro⟩ (Keep.cons rfl (Keep.cons rfl (Keep.cons rfl (Keep.cons rfl (Keep.cons rfl (Keep.cons rfl (Keep.cons rfl (Keep.cons rfl (Keep.cons rfl (Keep.cons rfl (Keep.cons rfl (Keep.cons rfl (Keep.cons rfl (Keep.cons rfl (Keep.cons rfl (Keep.cons rfl (Keep.cons rfl (Keep.cons rfl (Keep.cons rfl (Keep.cons rfl (Keep.cons rfl (Keep.cons rfl (Keep.cons rfl (Keep.cons rfl (Keep.cons rfl (Keep.cons rfl (Keep.cons rfl (Keep.cons rfl (Keep.cons rfl (Keep.cons rfl (Keep.cons rfl (Keep.cons rfl (Keep.cons rfl (Keep.cons rfl (Keep.cons rfl (Keep.cons rfl (Keep.cons rfl (Keep.cons rfl (Keep.cons rfl (Keep.cons rfl (Keep.cons rfl (Keep.cons rfl (Keep.cons rfl (Keep.cons rfl (Keep.cons rfl (Keep.cons rfl (Keep.cons rfl (Keep.cons rfl (Keep.cons rfl (Keep.cons rfl (Keep.cons rfl (Keep.cons rfl (Keep.cons rfl (Keep.cons rfl (Keep.cons rfl (Keep.cons rfl (Keep.cons rfl (Keep.cons rfl (Keep.cons rfl (Keep.base))))))))))))))))))))))))))))))))))))))))))))))))))))))))))))⟩
            · simp only [List.length_append, List.length_singleton]; omega
            · simp only [List.length_append, List.length_singleton]; omega
            · simp only [List.length_append, List.length_singleton]; omega
            · simp only; omega
            · show OwnSl 53 4 (.slice oan (d.l ++ [(Mk.mk l1 h1 l2 h2)]).length can) (d.l ++ [(Mk.mk l1 h1 l2 h2)]).length (encM (d.l ++ [(Mk.mk l1 h1 l2 h2)])) X1n; rw [List.length_append, encM_app]; exact hO1n
            · exact hO2
            · exact hO3
            · exact hO4
            · rw [← rows_cells (d := { d with l := d.l ++ [(Mk.mk l1 h1 l2 h2)], hid := d.hid + 1 }) (oa := oan) (ob := ob) (ca := can) (cb := cb) (n := d.l.length + 1) (m := d.r.length) (lo := d.lo) (hi := d.hi) (hid := d.hid + 1) (by simp) (by simp) rfl rfl rfl]; exact hh.less (.cons_cons _ (.cons _ (.cons _ (.refl _)))))
         | (refine ⟨(tn, vp, vs), ⟨⟨ac + 1 + 1 + 1 + 2 + 2 + 2 + 2 + 1, { d with r := d.r ++ [(Mk.mk l3 h3 l4 h4)], hid := d.hid + 1 }, oa, obn, ca, cbn, ps, sh, X1, X2n, X3, X4, by omega, by omega, by omega, by omega, hMd.app (List.append_nil _).symm rfl rfl rfl (by simp) (by simpa using hmb), hlo, hhi, ?_, ?_, ?_, ?_, ?_, ?_, ?_, ?_, ?_⟩, hh.less (List.nil_sublist _)⟩, hf.head ⟨rfl, rfl, rfl, True.intro⟩ (Keep.cons rfl (Keep.cons rfl (Keep.cons rfl (Keep.cons rfl (Keep.cons rfl (Keep.cons rfl (Keep.cons rfl (Keep.cons rfl (Keep.cons rfl (Keep.cons rfl (Keep.cons rfl (Keep.cons rfl (Keep.cons rfl (Keep.cons rfl (Keep.cons rfl (Keep.cons rfl (Keep.cons rfl (Keep.cons rfl (Keep.cons rfl (Keep.cons rfl (Keep.cons rfl (Keep.cons rfl (Keep.cons rfl (Keep.cons rfl (Keep.cons rfl (Keep.cons rfl (Keep.cons rfl (Keep.cons rfl (Keep.cons rfl (Keep.cons rfl (Keep.cons rfl (Keep.cons rfl (Keep.cons rfl (Keep.cons rfl (Keep.cons rfl (Keep.cons rfl (Keep.cons rfl (Keep.cons rfl (Keep.cons rfl (Keep.cons rfl (Keep.cons rfl (Keep.cons rfl (Keep.cons rfl (Keep.cons rfl (Keep.cons rfl (Keep.cons rfl (Keep.cons rfl (Keep.cons rfl (Keep.cons rfl (Keep.cons rfl (Keep.cons rfl (Keep.cons rfl (Keep.cons rfl (Keep.cons rfl (Keep.cons rfl (Keep.cons rfl (Keep.cons rfl (Keep.cons rfl (Keep.cons rfl (Keep.base))))))))))))))))))))))))))))))))))))))))))))))))))))))))))))⟩
            · simp only [List.length_append, List.length_singleton]; omega
            · simp only [List.length_append, List.length_singleton]; omega
            · simp only [List.length_append, List.length_singleton]; omega
            · simp only; omega
            · exact hO1
            · show OwnSl 53 4 (.slice obn (d.r ++ [(Mk.mk l3 h3 l4 h4)]).length cbn) (d.r ++ [(Mk.mk l3 h3 l4 h4)]).length (encM (d.r ++ [(Mk.mk l3 h3 l4 h4)])) X2n; rw [List.length_append, encM_app]; exact hO2n
            · exact hO3
            · exact hO4
            · rw [← rows_cells (d := { d with r := d.r ++ [(Mk.mk l3 h3 l4 h4)], hid := d.hid + 1 }) (oa := oa) (ob := obn) (ca := ca) (cb := cbn) (n := d.l.length) (m := d.r.length + 1) (lo := d.lo) (hi := d.hi) (hid := d.hid + 1) (by simp) (by simp) rfl rfl rfl]; exact hh.less (.cons_cons _ (.cons _ (.cons _ (.refl _)))))
      ·have hG19 := hg19; try simp only [gS] at hG19
       refine sy_sq ?_
       refine o_v hf hh (yv_move rfl) ?_; clear hf a; intro a hf
       refine o_v hf hh (yv_fieldAddr Tryd.fo_26_0 rfl) ?_; clear hf a; intro a hf
       refine o_v hf hh (y_ld Tryd.sc_22 rfl) ?_; clear hf a; intro a hf
       refine o_v hf hh (yv_len Tryd.se_22 rfl) ?_; clear hf a; intro a hf
       refine o_v hf hh (yv_fieldAddr Tryd.fo_26_1 rfl) ?_; clear hf a; intro a hf
       refine o_v hf hh (y_ld Tryd.sc_22 rfl) ?_; clear hf a; intro a hf
       refine o_v hf hh (yv_len Tryd.se_22 rfl) ?_; clear hf a; intro a hf
       refine o_v hf hh (yv_buildA Tryd.ba_45 rfl rfl) ?_; clear hf a; intro a hf
       refine ops_buildSl hf hh Tryd.bl_34_1 rfl rfl (.inl rfl) rfl ?_; clear hf hh; clear a; intro B74 a w hf hh
       refine ops_append (e := 45) (size := 2) (xs := encP ps) (X := X3) (Z := _) (m := ps.length) (q := 1) hf (hh.perm (.cons _ (pull3 (F := [_, _, _, _, _])))) Tryd.eb_34 rfl rfl hO3 rfl rfl rfl (by simp only [maxLen]; omega) (by omega) (.inl rfl) rfl ?_
       clear hf hh a; intro vpn X3n a w hO3n hf hh
       replace hh := hh.perm (pull3 (F := [_, _, _, _, _])).symm
       refine o_v hf hh (yv_move rfl) ?_; clear hf a; intro a hf
       refine o_v hf hh (yv_move rfl) ?_; clear hf a; intro a hf
       refine ops_buildSl hf hh Tryd.bl_55_1 rfl rfl (.inl rfl) rfl ?_; clear hf hh; clear a; intro B78 a w hf hh
       refine ops_append (e := 3) (size := 1) (xs := ivs sh) (X := X4) (Z := _) (m := sh.length) (q := 1) hf (hh.perm (.cons _ (pull4 (F := [_, _, _, _, _])))) Tryd.eb_55 rfl rfl hO4 rfl rfl rfl (by simp only [maxLen]; omega) (by omega) (.inl rfl) rfl ?_
       clear hf hh a; intro vsn X4n a w hO4n hf hh
       replace hh := hh.perm (pull4 (F := [_, _, _, _, _])).symm
       refine o_v hf hh (yv_assign rfl) ?_; clear hf a; intro a hf
       refine o_v hf hh (yv_assign rfl) ?_; clear hf a; intro a hf
       refine o_end ?_
       refine sy_treeC (.p 0 (.q 0 1 (.q 0 2 (.p 5 (.q 0 6 (.q 0 7 (.e2 3 (.e2 4 (.p 10 (.e1 8 (.e1 9 (.e1 11 (.p 12 (.e1 13 (.fin))))))) 8 (.e1 4 (.p 10 (.e1 9 (.e1 11 (.p 12 (.e1 13 (.fin)))))))) 8 (.e1 3 (.e1 4 (.p 10 (.e1 9 (.e1 11 (.p 12 (.e1 13 (.fin))))))))))))))) [[11, 13]] [(AtE u [Bat] [(B2, .cells (rowsV d oa ob ca cb).cells 26), (B10, .cells (mkV (Mk.mk l1 h1 l2 h2)).cells 53), (B11, .cells (mkV (Mk.mk l3 h3 l4 h4)).cells 53)], [11, 13])] Tryd.follows (by kernel_rfl) rfl hh (fun w hh => ?_)
       refine mc_p rfl   hf (yv_fieldAddr Tryd.fo_26_0 rfl) (.inl rfl) rfl rfl ?_; clear hf a; intro a hf
       refine mc_q rfl rfl (AtE.mk3 hh.ext (hh.get (B2, .cells (rowsV d oa ob ca cb).cells 26) (by simp)) (hh.get (B10, .cells (mkV (Mk.mk l1 h1 l2 h2)).cells 53) (by simp)) (hh.get (B11, .cells (mkV (Mk.mk l3 h3 l4 h4)).cells 53) (by simp))) hf (y_ld Tryd.sc_22 rfl) (.inl rfl) rfl rfl ?_; clear hf a; intro a hf
       refine mc_q rfl rfl (AtE.mk3 hh.ext (hh.get (B2, .cells (rowsV d oa ob ca cb).cells 26) (by simp)) (hh.get (B10, .cells (mkV (Mk.mk l1 h1 l2 h2)).cells 53) (by simp)) (hh.get (B11, .cells (mkV (Mk.mk l3 h3 l4 h4)).cells 53) (by simp))) hf (y_lds Tryd.ag_53 rfl) (.inl rfl) rfl rfl ?_; clear hf a; intro a hf
       refine mc_p rfl   hf (yv_fieldAddr Tryd.fo_26_1 rfl) (.inl rfl) rfl rfl ?_; clear hf a; intro a hf
       refine mc_q rfl rfl (AtE.mk3 hh.ext (hh.get (B2, .cells (rowsV d oa ob ca cb).cells 26) (by simp)) (hh.get (B10, .cells (mkV (Mk.mk l1 h1 l2 h2)).cells 53) (by simp)) (hh.get (B11, .cells (mkV (Mk.mk l3 h3 l4 h4)).cells 53) (by simp))) hf (y_ld Tryd.sc_22 rfl) (.inl rfl) rfl rfl ?_; clear hf a; intro a hf
       refine mc_q rfl rfl (AtE.mk3 hh.ext (hh.get (B2, .cells (rowsV d oa ob ca cb).cells 26) (by simp)) (hh.get (B10, .cells (mkV (Mk.mk l1 h1 l2 h2)).cells 53) (by simp)) (hh.get (B11, .cells (mkV (Mk.mk l3 h3 l4 h4)).cells 53) (by simp))) hf (y_lds Tryd.ag_53 rfl) (.inl rfl) rfl rfl ?_; clear hf a; intro a hf
       refine ⟨?_, ?_⟩
       ·refine mc_e rfl fun Q1 => ?_
        refine ops_buildSl hf hh Tryd.bl_22_1 rfl rfl (.inl rfl) rfl ?_; clear hf hh; clear a; intro B83 a w hf hh
        refine ops_end ?_
        refine then_n ⟨⟨fun _ _ => (AtE.mk3 hh.ext (hh.get (B2, .cells (rowsV d oa ob ca cb).cells 26) (by simp)) (hh.get (B10, .cells (mkV (Mk.mk l1 h1 l2 h2)).cells 53) (by simp)) (hh.get (B11, .cells (mkV (Mk.mk l3 h3 l4 h4)).cells 53) (by simp))), trivial⟩, ?_⟩
        refine ⟨?_, ?_⟩
        ·refine mc_e rfl fun Q1 => ?_
         first
           | (refine ops_append (e := 53) (size := 4) (xs := encM d.l) (X := X1) (Z := _) (m := d.l.length) (q := 1) hf (hh.perm (.cons _ (pull1 (F := [_, _, _, _, _])))) Tryd.eb_22 rfl rfl hO1 rfl rfl rfl (by simp only [maxLen]; omega) (by omega) (.inl rfl) rfl ?_)
           | (refine ops_append (e := 53) (size := 4) (xs := encM d.l) (X := X1) (Z := _) (m := d.l.length) (q := 1) hf ((hh.perm (.swap _ _ _)).perm (.cons _ (pull1 (F := [_, _, _, _, _, _])))) Tryd.eb_22 rfl rfl hO1 rfl rfl rfl (by simp only [maxLen]; omega) (by omega) (.inl rfl) rfl ?_)
           | (refine ops_append (e := 53) (size := 4) (xs := encM d.l) (X := X1) (Z := _) (m := d.l.length) (q := 1) hf (hh.perm (.cons _ (pull1 (F := [_, _, _, _, _, _])))) Tryd.eb_22 rfl rfl hO1 rfl rfl rfl (by simp only [maxLen]; omega) (by omega) (.inl rfl) rfl ?_)
         clear hf hh a; intro v1 X1n a w hO1n hf hh
         first
           | replace hh := hh.perm (pull1 (F := [_, _, _, _, _, _])).symm
           | replace hh := hh.perm (pull1 (F := [_, _, _, _, _])).symm
         obtain ⟨oan, can, rfl⟩ := OwnSl_val hO1n
         refine ops_end ?_
         refine then_n ⟨⟨fun _ _ => (AtE.mk3 hh.ext (hh.get (B2, .cells (rowsV d oa ob ca cb).cells 26) (by simp)) (hh.get (B10, .cells (mkV (Mk.mk l1 h1 l2 h2)).cells 53) (by simp)) (hh.get (B11, .cells (mkV (Mk.mk l3 h3 l4 h4)).cells 53) (by simp))), trivial⟩, ?_⟩
         refine mc_p rfl   hf (yv_fieldAddr Tryd.fo_26_0 rfl) (.inl rfl) rfl rfl ?_; clear hf a; intro a hf
         refine mc_e rfl fun Q1 => ?_
         refine ops_buildSl hf hh Tryd.bl_22_1 rfl rfl (.inl rfl) rfl ?_; clear hf hh; clear a; intro B88 a w hf hh
         refine ops_end ?_
         refine then_n ⟨⟨fun _ _ => (AtE.mk3 hh.ext (hh.get (B2, .cells (rowsV d oa ob ca cb).cells 26) (by simp)) (hh.get (B10, .cells (mkV (Mk.mk l1 h1 l2 h2)).cells 53) (by simp)) (hh.get (B11, .cells (mkV (Mk.mk l3 h3 l4 h4)).cells 53) (by simp))), trivial⟩, ?_⟩
         refine mc_e rfl fun Q1 => ?_
         refine ops_append (e := 53) (size := 4) (xs := encM d.r) (X := X2) (Z := _) (m := d.r.length) (q := 1) hf (hh.perm (.cons _ (pull2 (F := [_, _, _, _, _])))) Tryd.eb_22 rfl rfl hO2 rfl rfl rfl (by simp only [maxLen]; omega) (by omega) (.inl rfl) rfl ?_
         clear hf hh a; intro v2 X2n a w hO2n hf hh
         replace hh := hh.perm (pull2 (F := [_, _, _, _, _])).symm
         obtain ⟨obn, cbn, rfl⟩ := OwnSl_val hO2n
         refine ops_end ?_
         refine then_n ⟨⟨fun _ _ => (AtE.mk3 hh.ext (hh.get (B2, .cells (rowsV d oa ob ca cb).cells 26) (by simp)) (hh.get (B10, .cells (mkV (Mk.mk l1 h1 l2 h2)).cells 53) (by simp)) (hh.get (B11, .cells (mkV (Mk.mk l3 h3 l4 h4)).cells 53) (by simp))), trivial⟩, ?_⟩
         refine mc_e rfl fun Q1 => ?_
         refine o_store hf hh Tryd.sz_22 fun w hh => ?_
         refine ops_end ?_
         refine then_n ⟨⟨fun h => Bool.noConfusion (show true = false from h), trivial⟩, ?_⟩
         refine mc_p rfl   hf (yv_fieldAddr Tryd.fo_26_1 rfl) (.inl rfl) rfl rfl ?_; clear hf a; intro a hf
         refine mc_e rfl fun Q1 => ?_
         refine o_store hf hh Tryd.sz_22 fun w hh => ?_
         refine ops_end ?_
         refine then_n ⟨⟨fun h => Bool.noConfusion (show true = false from h), trivial⟩, ?_⟩
         refine mc_end ?_
         refine blk_n ?_
         refine blk_n ?_
         refine then_n ?_
         first
           | (have hmn := hMd.pair (d' := { d with l := d.l ++ [(Mk.mk l1 h1 l2 h2)], r := d.r ++ [(Mk.mk l3 h3 l4 h4)] }) (s := sf) rfl rfl rfl rfl hma hmb (by simp only; omega) (by simp only; omega) (by simp only; omega) (by simp only; omega) (by omega) (by omega)
              refine ⟨(tn, vpn, vsn), ⟨⟨ac + 1 + 1 + 1 + 2 + 2 + 2 + 2 + 1, { d with l := d.l ++ [(Mk.mk l1 h1 l2 h2)], r := d.r ++ [(Mk.mk l3 h3 l4 h4)] }, oan, obn, can, cbn, _, _, X1n, X2n, X3n, X4n, by omega, by omega, by omega, by omega, hmn, hlo, hhi, ?_, ?_, ?_, ?_, ?_, ?_, ?_, ?_, ?_⟩, hh.less (List.nil_sublist _)⟩, hf.head ⟨rfl, rfl, rfl, True.intro⟩ (Keep.cons rfl (Keep.cons rfl (Keep.cons rfl (Keep.cons rfl (Keep.cons rfl (Keep.cons rfl (Keep.cons rfl (Keep.cons rfl (Keep.cons rfl (Keep.cons rfl (Keep.cons rfl (Keep.cons rfl (Keep.cons rfl (Keep.cons rfl (Keep.cons rfl (Keep.cons rfl (Keep.cons rfl (Keep.cons rfl (Keep.cons rfl (Keep.cons rfl (Keep.cons rfl (Keep.cons rfl (Keep.cons rfl (Keep.cons rfl (Keep.cons rfl (Keep.cons rfl (Keep.cons rfl (Keep.cons rfl (Keep.cons rfl (Keep.cons rfl (Keep.cons rfl (Keep.cons rfl (Keep.cons rfl (Keep.cons rfl (Keep.cons rfl (Keep.cons rfl (Keep.cons rfl (Keep.cons rfl (Keep.cons rfl (Keep.cons rfl (Keep.cons rfl (Keep.cons rfl (Keep.cons rfl (Keep.cons rfl (Keep.cons rfl (Keep.cons rfl (Keep.cons rfl (Keep.cons rfl (Keep.cons rfl (Keep.cons rfl (Keep.cons rfl (Keep.cons rfl (Keep.cons rfl (Keep.cons rfl (Keep.cons rfl (Keep.cons rfl (Keep.cons rfl (Keep.cons rfl (Keep.cons rfl (Keep.cons rfl (Keep.cons rfl (Keep.cons rfl (Keep.cons rfl (Keep.cons rfl (Keep.cons rfl (Keep.cons rfl (Keep.cons rfl (Keep.cons rfl (Keep.cons rfl (Keep.cons rfl (Keep.cons rfl (Keep.cons rfl (Keep.cons rfl (Keep.cons rfl (Keep.cons rfl (Keep.cons rfl (Keep.cons rfl (Keep.base))))))))))))))))))))))))))))))))))))))))))))))))))))))))))))))))))))))))))))))⟩
              · simp only [List.length_append, List.length_singleton]; omega
              · simp only [List.length_append, List.length_singleton]; omega
              · simp only [List.length_append, List.length_singleton]; omega
              · simp only; omega
              · show OwnSl 53 4 (.slice oan (d.l ++ [(Mk.mk l1 h1 l2 h2)]).length can) (d.l ++ [(Mk.mk l1 h1 l2 h2)]).length (encM (d.l ++ [(Mk.mk l1 h1 l2 h2)])) X1n; rw [List.length_append, encM_app]; exact hO1n
              · show OwnSl 53 4 (.slice obn (d.r ++ [(Mk.mk l3 h3 l4 h4)]).length cbn) (d.r ++ [(Mk.mk l3 h3 l4 h4)]).length (encM (d.r ++ [(Mk.mk l3 h3 l4 h4)])) X2n; rw [List.length_append, encM_app]; exact hO2n
              · rw [List.length_append, encP_snoc]; exact hO3n
              · rw [List.length_append]; unfold ivs; rw [List.map_append]; exact hO4n
              · rw [← rows_cells (d := { d with l := d.l ++ [(Mk.mk l1 h1 l2 h2)], r := d.r ++ [(Mk.mk l3 h3 l4 h4)] }) (oa := oan) (ob := obn) (ca := can) (cb := cbn) (n := d.l.length + 1) (m := d.r.length + 1) (lo := d.lo) (hi := d.hi) (hid := d.hid) (by simp) (by simp) rfl rfl rfl]; exact hh.less (.cons_cons _ (.cons _ (.cons _ (.refl _)))))
           | (refine ⟨(tn, vp, vs), ⟨⟨ac + 1 + 1 + 1 + 2 + 2 + 2 + 2 + 1, { d with l := d.l ++ [(Mk.mk l1 h1 l2 h2)], hid := d.hid + 1 }, oan, ob, can, cb, ps, sh, X1n, X2, X3, X4, by omega, by omega, by omega, by omega, hMd.app rfl (List.append_nil _).symm rfl rfl (by simpa using hma) (by simp), hlo, hhi, ?_, ?_, ?_, ?_, ?_, ?_, ?_, ?_, ?_⟩, hh.less (List.nil_sublist _)⟩, hf.head ⟨rfl, rfl, rfl, True.intro⟩ (Keep.cons rfl (Keep.cons rfl (Keep.cons rfl (Keep.cons rfl (Keep.cons rfl (Keep.cons rfl (Keep.cons rfl (Keep.cons rfl (Keep.cons rfl (Keep.cons rfl (Keep.cons rfl (Keep.cons rfl (Keep.cons rfl (Keep.cons rfl (Keep.cons rfl (Keep.cons rfl (Keep.cons rfl (Keep.cons rfl (Keep.cons rfl (Keep.cons rfl (Keep.cons rfl (Keep.cons rfl (Keep.cons rfl (Keep.cons rfl (Keep.cons rfl (Keep.cons rfl (Keep.cons rfl (Keep.cons rfl (Keep.cons rfl (Keep.cons rfl (Keep.cons rfl (Keep.cons rfl (Keep.cons rfl (Keep.cons rfl (Keep.cons rfl (Keep.cons rfl (Keep.cons rfl (Keep.cons rfl (Keep.cons rfl (Keep.cons rfl (Keep.cons rfl (Keep.cons rfl (Keep.cons rfl (Keep.cons rfl (Keep.cons rfl (Keep.cons rfl (Keep.cons rfl (Keep.cons rfl (Keep.cons rfl (Keep.cons rfl (Keep.cons rfl (Keep.cons rfl (Keep.cons rfl (Keep.cons rfl (Keep.cons rfl (Keep.cons rfl (Keep.cons rfl (Keep.cons rfl (Keep.cons rfl (Keep.cons rfl (Keep.cons rfl (Keep.cons rfl (Keep.cons rfl (Keep.cons rfl (Keep.cons rfl (Keep.cons rfl (Keep.cons rfl (Keep.cons rfl (Keep.cons rfl (Keep.cons rfl (Keep.cons rfl (Keep.cons rfl (Keep.cons rfl (Keep.cons rfl (Keep.cons rfl (Keep.cons rfl (Keep.cons rfl (Keep.base))))))))))))))))))))))))))))))))))))))))))))))))))))))))))))))))))))))))))))))⟩
              · simp only [List.length_append, List.length_singleton]; omega
              · simp only [List.length_append, List.length_singleton]; omega
              · simp only [List.length_append, List.length_singleton]; omega
              · simp only; omega
              · show OwnSl 53 4 (.slice oan (d.l ++ [(Mk.mk l1 h1 l2 h2)]).length can) (d.l ++ [(Mk.mk l1 h1 l2 h2)]).length (encM (d.l ++ [(Mk.mk l1 h1 l2 h2)])) X1n; rw [List.length_append, encM_app]; exact hO1n
              · exact hO2
              · exact hO3
              · exact hO4
              · rw [← rows_cells (d := { d with l := d.l ++ [(Mk.mk l1 h1 l2 h2)], hid := d.hid + 1 }) (oa := oan) (ob := ob) (ca := can) (cb := cb) (n := d.l.length + 1) (m := d.r.length) (lo := d.lo) (hi := d.hi) (hid := d.hid + 1) (by simp) (by simp) rfl rfl rfl]; exact hh.less (.cons_cons _ (.cons _ (.cons _ (.refl _)))))
           | (refine ⟨(tn, vp, vs), ⟨⟨ac + 1 + 1 + 1 + 2 + 2 + 2 + 2 + 1, { d with r := d.r ++ [(Mk.mk l3 h3 l4 h4)], hid := d.hid + 1 }, oa, obn, ca, cbn, ps, sh, X1, X2n, X3, X4, by omega, by omega, by omega, by omega, hMd.app (List.append_nil _).symm rfl rfl rfl (by simp) (by simpa using hmb), hlo, hhi, ?_, ?_, ?_, ?_, ?_, ?_, ?_, ?_, ?_⟩, hh.less (List.nil_sublist _)⟩, hf.head ⟨rfl, rfl, rfl, True.intro⟩ (Keep.cons rfl (Keep.cons rfl (Keep.cons rfl (Keep.cons rfl (Keep.cons rfl (Keep.cons rfl (Keep.cons rfl (Keep.cons rfl (Keep.cons rfl (Keep.cons rfl (Keep.cons rfl (Keep.cons rfl (Keep.cons rfl (Keep.cons rfl (Keep.cons rfl (Keep.cons rfl (Keep.cons rfl (Keep.cons rfl (Keep.cons rfl (Keep.cons rfl (Keep.cons rfl (Keep.cons rfl (Keep.cons rfl (Keep.cons rfl (Keep.cons rfl (Keep.cons rfl (Keep.cons rfl (Keep.cons rfl (Keep.cons rfl (Keep.cons rfl (Keep.cons rfl (Keep.cons rfl (Keep.cons rfl (Keep.cons rfl (Keep.cons rfl (Keep.cons rfl (Keep.cons rfl (Keep.cons rfl (Keep.cons rfl (Keep.cons rfl (Keep.cons rfl (Keep.cons rfl (Keep.cons rfl (Keep.cons rfl (Keep.cons rfl (Keep.cons rfl (Keep.cons rfl (Keep.cons rfl (Keep.cons rfl (Keep.cons rfl (Keep.cons rfl (Keep.cons rfl (Keep.cons rfl (Keep.cons rfl (Keep.cons rfl (Keep.cons rfl (Keep.cons rfl (Keep.cons rfl (Keep.cons rfl (Keep.cons rfl (Keep.cons rfl (Keep.cons rfl (Keep.cons rfl (Keep.cons rfl (Keep.cons rfl (Keep.cons rfl (Keep.cons rfl (Keep.cons rfl (Keep.cons rfl (Keep.cons rfl (Keep.cons rfl (Keep.cons rfl (Keep.cons rfl (Keep.cons rfl (Keep.cons rfl (Keep.cons rfl (Keep.cons rfl (Keep.base))))))))))))))))))))))))))))))))))))))))))))))))))))))))))))))))))))))))))))))⟩
              · simp only [List.length_append, List.length_singleton]; omega
              · simp only [List.length_append, List.length_singleton]; omega
              · simp only [List.length_append, List.length_singleton]; omega
              · simp only; omega
              · exact hO1
              · show OwnSl 53 4 (.slice obn (d.r ++ [(Mk.mk l3 h3 l4 h4)]).length cbn) (d.r ++ [(Mk.mk l3 h3 l4 h4)]).length (encM (d.r ++ [(Mk.mk l3 h3 l4 h4)])) X2n; rw [List.length_append, encM_app]; exact hO2n
              · exact hO3
              · exact hO4
              · rw [← rows_cells (d := { d with r := d.r ++ [(Mk.mk l3 h3 l4 h4)], hid := d.hid + 1 }) (oa := oa) (ob := obn) (ca := ca) (cb := cbn) (n := d.l.length) (m := d.r.length + 1) (lo := d.lo) (hi := d.hi) (hid := d.hid + 1) (by simp) (by simp) rfl rfl rfl]; exact hh.less (.cons_cons _ (.cons _ (.cons _ (.refl _)))))
        ·refine mc_e rfl fun Q1 => ?_
         refine ops_buildSl hf hh Tryd.bl_22_1 rfl rfl (.inl rfl) rfl ?_; clear hf hh; clear a; intro B88 a w hf hh
         refine ops_end ?_
         refine then_n ⟨⟨fun _ _ => (AtE.mk3 hh.ext (hh.get (B2, .cells (rowsV d oa ob ca cb).cells 26) (by simp)) (hh.get (B10, .cells (mkV (Mk.mk l1 h1 l2 h2)).cells 53) (by simp)) (hh.get (B11, .cells (mkV (Mk.mk l3 h3 l4 h4)).cells 53) (by simp))), trivial⟩, ?_⟩
         refine mc_e rfl fun Q1 => ?_
         first
           | (refine ops_append (e := 53) (size := 4) (xs := encM d.l) (X := X1) (Z := _) (m := d.l.length) (q := 1) hf (hh.perm (.cons _ (pull1 (F := [_, _, _, _, _])))) Tryd.eb_22 rfl rfl hO1 rfl rfl rfl (by simp only [maxLen]; omega) (by omega) (.inl rfl) rfl ?_)
           | (refine ops_append (e := 53) (size := 4) (xs := encM d.l) (X := X1) (Z := _) (m := d.l.length) (q := 1) hf ((hh.perm (.swap _ _ _)).perm (.cons _ (pull1 (F := [_, _, _, _, _, _])))) Tryd.eb_22 rfl rfl hO1 rfl rfl rfl (by simp only [maxLen]; omega) (by omega) (.inl rfl) rfl ?_)
           | (refine ops_append (e := 53) (size := 4) (xs := encM d.l) (X := X1) (Z := _) (m := d.l.length) (q := 1) hf (hh.perm (.cons _ (pull1 (F := [_, _, _, _, _, _])))) Tryd.eb_22 rfl rfl hO1 rfl rfl rfl (by simp only [maxLen]; omega) (by omega) (.inl rfl) rfl ?_)
         clear hf hh a; intro v1 X1n a w hO1n hf hh
         first
           | replace hh := hh.perm (pull1 (F := [_, _, _, _, _, _])).symm
           | replace hh := hh.perm (pull1 (F := [_, _, _, _, _])).symm
         obtain ⟨oan, can, rfl⟩ := OwnSl_val hO1n
         refine ops_end ?_
         refine then_n ⟨⟨fun _ _ => (AtE.mk3 hh.ext (hh.get (B2, .cells (rowsV d oa ob ca cb).cells 26) (by simp)) (hh.get (B10, .cells (mkV (Mk.mk l1 h1 l2 h2)).cells 53) (by simp)) (hh.get (B11, .cells (mkV (Mk.mk l3 h3 l4 h4)).cells 53) (by simp))), trivial⟩, ?_⟩
         refine mc_p rfl   hf (yv_fieldAddr Tryd.fo_26_0 rfl) (.inl rfl) rfl rfl ?_; clear hf a; intro a hf
         refine mc_e rfl fun Q1 => ?_
         refine ops_append (e := 53) (size := 4) (xs := encM d.r) (X := X2) (Z := _) (m := d.r.length) (q := 1) hf (hh.perm (.cons _ (pull2 (F := [_, _, _, _, _])))) Tryd.eb_22 rfl rfl hO2 rfl rfl rfl (by simp only [maxLen]; omega) (by omega) (.inl rfl) rfl ?_
         clear hf hh a; intro v2 X2n a w hO2n hf hh
         replace hh := hh.perm (pull2 (F := [_, _, _, _, _])).symm
         obtain ⟨obn, cbn, rfl⟩ := OwnSl_val hO2n
         refine ops_end ?_
         refine then_n ⟨⟨fun _ _ => (AtE.mk3 hh.ext (hh.get (B2, .cells (rowsV d oa ob ca cb).cells 26) (by simp)) (hh.get (B10, .cells (mkV (Mk.mk l1 h1 l2 h2)).cells 53) (by simp)) (hh.get (B11, .cells (mkV (Mk.mk l3 h3 l4 h4)).cells 53) (by simp))), trivial⟩, ?_⟩
         refine mc_e rfl fun Q1 => ?_
         refine o_store hf hh Tryd.sz_22 fun w hh => ?_
         refine ops_end ?_
         refine then_n ⟨⟨fun h => Bool.noConfusion (show true = false from h), trivial⟩, ?_⟩
         refine mc_p rfl   hf (yv_fieldAddr Tryd.fo_26_1 rfl) (.inl rfl) rfl rfl ?_; clear hf a; intro a hf
         refine mc_e rfl fun Q1 => ?_
         refine o_store hf hh Tryd.sz_22 fun w hh => ?_
         refine ops_end ?_
         refine then_n ⟨⟨fun h => Bool.noConfusion (show true = false from h), trivial⟩, ?_⟩
         refine mc_end ?_
         refine blk_n ?_
         refine blk_n ?_
         refine then_n ?_
         first
           | (have hmn := hMd.pair (d' := { d with l := d.l ++ [(Mk.mk l1 h1 l2 h2)], r := d.r ++ [(Mk.mk l3 h3 l4 h4)] }) (s := sf) rfl rfl rfl rfl hma hmb (by simp only; omega) (by simp only; omega) (by simp only; omega) (by simp only; omega) (by omega) (by omega)
              refine ⟨(tn, vpn, vsn), ⟨⟨ac + 1 + 1 + 1 + 2 + 2 + 2 + 2 + 1, { d with l := d.l ++ [(Mk.mk l1 h1 l2 h2)], r := d.r ++ [(Mk.mk l3 h3 l4 h4)] }, oan, obn, can, cbn, _, _, X1n, X2n, X3n, X4n, by omega, by omega, by omega, by omega, hmn, hlo, hhi, ?_, ?_, ?_, ?_, ?_, ?_, ?_, ?_, ?_⟩, hh.less (List.nil_sublist _)⟩, hf.head ⟨rfl, rfl, rfl, True.intro⟩ (Keep.cons rfl (Keep.cons rfl (Keep.cons rfl (Keep.cons rfl (Keep.cons rfl (Keep.cons rfl (Keep.cons rfl (Keep.cons rfl (Keep.cons rfl (Keep.cons rfl (Keep.cons rfl (Keep.cons rfl (Keep.cons rfl (Keep.cons rfl (Keep.cons rfl (Keep.cons rfl (Keep.cons rfl (Keep.cons rfl (Keep.cons rfl (Keep.cons rfl (Keep.cons rfl (Keep.cons rfl (Keep.cons rfl (Keep.cons rfl (Keep.cons rfl (Keep.cons rfl (Keep.cons rfl (Keep.cons rfl (Keep.cons rfl (Keep.cons rfl (Keep.cons rfl (Keep.cons rfl (Keep.cons rfl (Keep.cons rfl (Keep.cons rfl (Keep.cons rfl (Keep.cons rfl (Keep.cons rfl (Keep.cons rfl (Keep.cons rfl (Keep.cons rfl (Keep.cons rfl (Keep.cons rfl (Keep.cons rfl (Keep.cons rfl (Keep.cons rfl (Keep.cons rfl (Keep.cons rfl (Keep.cons rfl (Keep.cons rfl (Keep.cons rfl (Keep.cons rfl (Keep.cons rfl (Keep.cons rfl (Keep.cons rfl (Keep.cons rfl (Keep.cons rfl (Keep.cons rfl (Keep.cons rfl (Keep.cons rfl (Keep.cons rfl (Keep.cons rfl (Keep.cons rfl (Keep.cons rfl (Keep.cons rfl (Keep.cons rfl (Keep.cons rfl (Keep.cons rfl (Keep.cons rfl (Keep.cons rfl (Keep.cons rfl (Keep.cons rfl (Keep.cons rfl (Keep.cons rfl (Keep.cons rfl (Keep.cons rfl (Keep.cons rfl (Keep.base))))))))))))))))))))))))))))))))))))))))))))))))))))))))))))))))))))))))))))))⟩
              · simp only [List.length_append, List.length_singleton]; omega
              · simp only [List.length_append, List.length_singleton]; omega
              · simp only [List.length_append, List.length_singleton]; omega
              · simp only; omega
              · show OwnSl 53 4 (.slice oan (d.l ++ [(Mk.mk l1 h1 l2 h2)]).length can) (d.l ++ [(Mk.mk l1 h1 l2 h2)]).length (encM (d.l ++ [(Mk.mk l1 h1 l2 h2)])) X1n; rw [List.length_append, encM_app]; exact hO1n
              · show OwnSl 53 4 (.slice obn (d.r ++ [(Mk.mk l3 h3 l4 h4)]).length cbn) (d.r ++ [(Mk.mk l3 h3 l4 h4)]).length (encM (d.r ++ [(Mk.mk l3 h3 l4 h4)])) X2n; rw [List.length_append, encM_app]; exact hO2n
              · rw [List.length_append, encP_snoc]; exact hO3n
              · rw [List.length_append]; unfold ivs; rw [List.map_append]; exact hO4n
              · rw [← rows_cells (d := { d with l := d.l ++ [(Mk.mk l1 h1 l2 h2)], r := d.r ++ [(Mk.mk l3 h3 l4 h4)] }) (oa := oan) (ob := obn) (ca := can) (cb := cbn) (n := d.l.length + 1) (m := d.r.length + 1) (lo := d.lo) (hi := d.hi) (hid := d.hid) (by simp) (by simp) rfl rfl rfl]; exact hh.less (.cons_cons _ (.cons _ (.cons _ (.refl _)))))
           | (refine ⟨(tn, vp, vs), ⟨⟨ac + 1 + 1 + 1 + 2 + 2 + 2 + 2 + 1, { d with l := d.l ++ [(Mk.mk l1 h1 l2 h2)], hid := d.hid + 1 }, oan, ob, can, cb, ps, sh, X1n, X2, X3, X4, by omega, by omega, by omega, by omega, hMd.app rfl (List.append_nil _).symm rfl rfl (by simpa using hma) (by simp), hlo, hhi, ?_, ?_, ?_, ?_, ?_, ?_, ?_, ?_, ?_⟩, hh.less (List.nil_sublist _)⟩, hf.head ⟨rfl, rfl, rfl, True.intro⟩ (Keep.cons rfl (Keep.cons rfl (Keep.cons rfl (Keep.cons rfl (Keep.cons rfl (Keep.cons rfl (Keep.cons rfl (Keep.cons rfl (Keep.cons rfl (Keep.cons rfl (Keep.cons rfl (Keep.cons rfl (Keep.cons rfl (Keep.cons rfl (Keep.cons rfl (Keep.cons rfl (Keep.cons rfl (Keep.cons rfl (Keep.cons rfl (Keep.cons rfl (Keep.cons rfl (Keep.cons rfl (Keep.cons rfl (Keep.cons rfl (Keep.cons rfl (Keep.cons rfl (Keep.cons rfl (Keep.cons rfl (Keep.cons rfl (Keep.cons rfl (Keep.cons rfl (Keep.cons rfl (Keep.cons rfl (Keep.cons rfl (Keep.cons rfl (Keep.cons rfl (Keep.cons rfl (Keep.cons rfl (Keep.cons rfl (Keep.cons rfl (Keep.cons rfl (Keep.cons rfl (Keep.cons rfl (Keep.cons rfl (Keep.cons rfl (Keep.cons rfl (Keep.cons rfl (Keep.cons rfl (Keep.cons rfl (Keep.cons rfl (Keep.cons rfl (Keep.cons rfl (Keep.cons rfl (Keep.cons rfl (Keep.cons rfl (Keep.cons rfl (Keep.cons rfl (Keep.cons rfl (Keep.cons rfl (Keep.cons rfl (Keep.cons rfl (Keep.cons rfl (Keep.cons rfl (Keep.cons rfl (Keep.cons rfl (Keep.cons rfl (Keep.cons rfl (Keep.cons rfl (Keep.cons rfl (Keep.cons rfl (Keep.cons rfl (Keep.cons rfl (Keep.cons rfl (Keep.cons rfl (Keep.cons rfl (Keep.cons rfl (Keep.cons rfl (Keep.base))))))))))))))))))))))))))))))))))))))))))))))))))))))))))))))))))))))))))))))⟩
              · simp only [List.length_append, List.length_singleton]; omega
              · simp only [List.length_append, List.length_singleton]; omega
              · simp only [List.length_append, List.length_singleton]; omega
              · simp only; omega
              · show OwnSl 53 4 (.slice oan (d.l ++ [(Mk.mk l1 h1 l2 h2)]).length can) (d.l ++ [(Mk.mk l1 h1 l2 h2)]).length (encM (d.l ++ [(Mk.mk l1 h1 l2 h2)])) X1n; rw [List.length_append, encM_app]; exact hO1n
              · exact hO2
              · exact hO3
              · exact hO4
              · rw [← rows_cells (d := { d with l := d.l ++ [(Mk.mk l1 h1 l2 h2)], hid := d.hid + 1 }) (oa := oan) (ob := ob) (ca := can) (cb := cb) (n := d.l.length + 1) (m := d.r.length) (lo := d.lo) (hi := d.hi) (hid := d.hid + 1) (by simp) (by simp) rfl rfl rfl]; exact hh.less (.cons_cons _ (.cons _ (.cons _ (.refl _)))))
           | (refine ⟨(tn, vp, vs), ⟨⟨ac + 1 + 1 + 1 + 2 + 2 + 2 + 2 + 1, { d with r := d.r ++ [(Mk.mk l3 h3 l4 h4)], hid := d.hid + 1 }, oa, obn, ca, cbn, ps, sh, X1, X2n, X3, X4, by omega, by omega, by omega, by omega, hMd.app (List.append_nil _).symm rfl rfl rfl (by simp) (by simpa using hmb), hlo, hhi, ?_, ?_, ?_, ?_, ?_, ?_, ?_, ?_, ?_⟩, hh.less (List.nil_sublist _)⟩, hf.head ⟨rfl, rfl, rfl, True.intro⟩ (Keep.cons rfl (Keep.cons rfl (Keep.cons rfl (Keep.cons rfl (Keep.cons rfl (Keep.cons rfl (Keep.cons rfl (Keep.cons rfl (Keep.cons rfl (Keep.cons rfl (Keep.cons rfl (Keep.cons rfl (Keep.cons rfl (Keep.cons rfl (Keep.cons rfl (Keep.cons rfl (Keep.cons rfl (Keep.cons rfl (Keep.cons rfl (Keep.cons rfl (Keep.cons rfl (Keep.cons rfl (Keep.cons rfl (Keep.cons rfl (Keep.cons rfl (Keep.cons rfl (Keep.cons rfl (Keep.cons rfl (Keep.cons rfl (Keep.cons rfl (Keep.cons rfl (Keep.cons rfl (Keep.cons rfl (Keep.cons rfl (Keep.cons rfl (Keep.cons rfl (Keep.cons rfl (Keep.cons rfl (Keep.cons rfl (Keep.cons rfl (Keep.cons rfl (Keep.cons rfl (Keep.cons rfl (Keep.cons rfl (Keep.cons rfl (Keep.cons rfl (Keep.cons rfl (Keep.cons rfl (Keep.cons rfl (Keep.cons rfl (Keep.cons rfl (Keep.cons rfl (Keep.cons rfl (Keep.cons rfl (Keep.cons rfl (Keep.cons rfl (Keep.cons rfl (Keep.cons rfl (Keep.cons rfl (Keep.cons rfl (Keep.cons rfl (Keep.cons rfl (Keep.cons rfl (Keep.cons rfl (Keep.cons rfl (Keep.cons rfl (Keep.cons rfl (Keep.cons rfl (Keep.cons rfl (Keep.cons rfl (Keep.cons rfl (Keep.cons rfl (Keep.cons rfl (Keep.cons rfl (Keep.cons rfl (Keep.cons rfl (Keep.cons rfl (Keep.base))))))))))))))))))))))))))))))))))))))))))))))))))))))))))))))))))))))))))))))⟩
              · simp only [List.length_append, List.length_singleton]; omega
              · simp only [List.length_append, List.length_singleton]; omega
              · simp only [List.length_append, List.length_singleton]; omega
              · simp only; omega
              · exact hO1
              · show OwnSl 53 4 (.slice obn (d.r ++ [(Mk.mk l3 h3 l4 h4)]).length cbn) (d.r ++ [(Mk.mk l3 h3 l4 h4)]).length (encM (d.r ++ [(Mk.mk l3 h3 l4 h4)])) X2n; rw [List.length_append, encM_app]; exact hO2n
              · exact hO3
              · exact hO4
              · rw [← rows_cells (d := { d with r := d.r ++ [(Mk.mk l3 h3 l4 h4)], hid := d.hid + 1 }) (oa := oa) (ob := obn) (ca := ca) (cb := cbn) (n := d.l.length) (m := d.r.length + 1) (lo := d.lo) (hi := d.hi) (hid := d.hid + 1) (by simp) (by simp) rfl rfl rfl]; exact hh.less (.cons_cons _ (.cons _ (.cons _ (.refl _)))))
       ·refine mc_e rfl fun Q1 => ?_
        refine ops_buildSl hf hh Tryd.bl_22_1 rfl rfl (.inl rfl) rfl ?_; clear hf hh; clear a; intro B88 a w hf hh
        refine ops_end ?_
        refine then_n ⟨⟨fun _ _ => (AtE.mk3 hh.ext (hh.get (B2, .cells (rowsV d oa ob ca cb).cells 26) (by simp)) (hh.get (B10, .cells (mkV (Mk.mk l1 h1 l2 h2)).cells 53) (by simp)) (hh.get (B11, .cells (mkV (Mk.mk l3 h3 l4 h4)).cells 53) (by simp))), trivial⟩, ?_⟩
        refine mc_e rfl fun Q1 => ?_
        refine ops_buildSl hf hh Tryd.bl_22_1 rfl rfl (.inl rfl) rfl ?_; clear hf hh; clear a; intro B83 a w hf hh
        refine ops_end ?_
        refine then_n ⟨⟨fun _ _ => (AtE.mk3 hh.ext (hh.get (B2, .cells (rowsV d oa ob ca cb).cells 26) (by simp)) (hh.get (B10, .cells (mkV (Mk.mk l1 h1 l2 h2)).cells 53) (by simp)) (hh.get (B11, .cells (mkV (Mk.mk l3 h3 l4 h4)).cells 53) (by simp))), trivial⟩, ?_⟩
        refine mc_e rfl fun Q1 => ?_
        first
          | (refine ops_append (e := 53) (size := 4) (xs := encM d.l) (X := X1) (Z := _) (m := d.l.length) (q := 1) hf (hh.perm (.cons _ (pull1 (F := [_, _, _, _, _])))) Tryd.eb_22 rfl rfl hO1 rfl rfl rfl (by simp only [maxLen]; omega) (by omega) (.inl rfl) rfl ?_)
          | (refine ops_append (e := 53) (size := 4) (xs := encM d.l) (X := X1) (Z := _) (m := d.l.length) (q := 1) hf ((hh.perm (.swap _ _ _)).perm (.cons _ (pull1 (F := [_, _, _, _, _, _])))) Tryd.eb_22 rfl rfl hO1 rfl rfl rfl (by simp only [maxLen]; omega) (by omega) (.inl rfl) rfl ?_)
          | (refine ops_append (e := 53) (size := 4) (xs := encM d.l) (X := X1) (Z := _) (m := d.l.length) (q := 1) hf (hh.perm (.cons _ (pull1 (F := [_, _, _, _, _, _])))) Tryd.eb_22 rfl rfl hO1 rfl rfl rfl (by simp only [maxLen]; omega) (by omega) (.inl rfl) rfl ?_)
        clear hf hh a; intro v1 X1n a w hO1n hf hh
        first
          | replace hh := hh.perm (pull1 (F := [_, _, _, _, _, _])).symm
          | replace hh := hh.perm (pull1 (F := [_, _, _, _, _])).symm
        obtain ⟨oan, can, rfl⟩ := OwnSl_val hO1n
        refine ops_end ?_
        refine then_n ⟨⟨fun _ _ => (AtE.mk3 hh.ext (hh.get (B2, .cells (rowsV d oa ob ca cb).cells 26) (by simp)) (hh.get (B10, .cells (mkV (Mk.mk l1 h1 l2 h2)).cells 53) (by simp)) (hh.get (B11, .cells (mkV (Mk.mk l3 h3 l4 h4)).cells 53) (by simp))), trivial⟩, ?_⟩
        refine mc_p rfl   hf (yv_fieldAddr Tryd.fo_26_0 rfl) (.inl rfl) rfl rfl ?_; clear hf a; intro a hf
        refine mc_e rfl fun Q1 => ?_
        refine ops_append (e := 53) (size := 4) (xs := encM d.r) (X := X2) (Z := _) (m := d.r.length) (q := 1) hf (hh.perm (.cons _ (pull2 (F := [_, _, _, _, _])))) Tryd.eb_22 rfl rfl hO2 rfl rfl rfl (by simp only [maxLen]; omega) (by omega) (.inl rfl) rfl ?_
        clear hf hh a; intro v2 X2n a w hO2n hf hh
        replace hh := hh.perm (pull2 (F := [_, _, _, _, _])).symm
        obtain ⟨obn, cbn, rfl⟩ := OwnSl_val hO2n
        refine ops_end ?_
        refine then_n ⟨⟨fun _ _ => (AtE.mk3 hh.ext (hh.get (B2, .cells (rowsV d oa ob ca cb).cells 26) (by simp)) (hh.get (B10, .cells (mkV (Mk.mk l1 h1 l2 h2)).cells 53) (by simp)) (hh.get (B11, .cells (mkV (Mk.mk l3 h3 l4 h4)).cells 53) (by simp))), trivial⟩, ?_⟩
        refine mc_e rfl fun Q1 => ?_
        refine o_store hf hh Tryd.sz_22 fun w hh => ?_
        refine ops_end ?_
        refine then_n ⟨⟨fun h => Bool.noConfusion (show true = false from h), trivial⟩, ?_⟩
        refine mc_p rfl   hf (yv_fieldAddr Tryd.fo_26_1 rfl) (.inl rfl) rfl rfl ?_; clear hf a; intro a hf
        refine mc_e rfl fun Q1 => ?_
        refine o_store hf hh Tryd.sz_22 fun w hh => ?_
        refine ops_end ?_
        refine then_n ⟨⟨fun h => Bool.noConfusion (show true = false from h), trivial⟩, ?_⟩
        refine mc_end ?_
        refine blk_n ?_
        refine blk_n ?_
        refine then_n ?_
        first
          | (have hmn := hMd.pair (d' := { d with l := d.l ++ [(Mk.mk l1 h1 l2 h2)], r := d.r ++ [(Mk.mk l3 h3 l4 h4)] }) (s := sf) rfl rfl rfl rfl hma hmb (by simp only; omega) (by simp only; omega) (by simp only; omega) (by simp only; omega) (by omega) (by omega)
             refine ⟨(tn, vpn, vsn), ⟨⟨ac + 1 + 1 + 1 + 2 + 2 + 2 + 2 + 1, { d with l := d.l ++ [(Mk.mk l1 h1 l2 h2)], r := d.r ++ [(Mk.mk l3 h3 l4 h4)] }, oan, obn, can, cbn, _, _, X1n, X2n, X3n, X4n, by omega, by omega, by omega, by omega, hmn, hlo, hhi, ?_, ?_, ?_, ?_, ?_, ?_, ?_, ?_, ?_⟩, hh.less (List.nil_sublist _)⟩, hf.head ⟨rfl, rfl, rfl, True.intro⟩ (Keep.cons rfl (Keep.cons rfl (Keep.cons rfl (Keep.cons rfl (Keep.cons rfl (Keep.cons rfl (Keep.cons rfl (Keep.cons rfl (Keep.cons rfl (Keep.cons rfl (Keep.cons rfl (Keep.cons rfl (Keep.cons rfl (Keep.cons rfl (Keep.cons rfl (Keep.cons rfl (Keep.cons rfl (Keep.cons rfl (Keep.cons rfl (Keep.cons rfl (Keep.cons rfl (Keep.cons rfl (Keep.cons rfl (Keep.cons rfl (Keep.cons rfl (Keep.cons rfl (Keep.cons rfl (Keep.cons rfl (Keep.cons rfl (Keep.cons rfl (Keep.cons rfl (Keep.cons rfl (Keep.cons rfl (Keep.cons rfl (Keep.cons rfl (Keep.cons rfl (Keep.cons rfl (Keep.cons rfl (Keep.cons rfl (Keep.cons rfl (Keep.cons rfl (Keep.cons rfl (Keep.cons rfl (Keep.cons rfl (Keep.cons rfl (Keep.cons rfl (Keep.cons rfl (Keep.cons rfl (Keep.cons rfl (Keep.cons rfl (Keep.cons rfl (Keep.cons rfl (Keep.cons rfl (Keep.cons rfl (Keep.cons rfl (Keep.cons rfl (Keep.cons rfl (Keep.cons rfl (Keep.cons rfl (Keep.cons rfl (Keep.cons rfl (Keep.cons rfl (Keep.cons rfl (Keep.cons rfl (Keep.cons rfl (Keep.cons rfl (Keep.cons rfl (Keep.cons rfl (Keep.cons rfl (Keep.cons rfl (Keep.cons rfl (Keep.cons rfl (Keep.cons rfl (Keep.cons rfl (Keep.cons rfl (Keep.cons rfl (Keep.cons rfl (Keep.base))))))))))))))))))))))))))))))))))))))))))))))))))))))))))))))))))))))))))))))⟩
             · simp only [List.length_append, List.length_singleton]; omega
             · simp only [List.length_append, List.length_singleton]; omega
             · simp only [List.length_append, List.length_singleton]; omega
             · simp only; omega
             · show OwnSl 53 4 (.slice oan (d.l ++ [(Mk.mk l1 h1 l2 h2)]).length can) (d.l ++ [(Mk.mk l1 h1 l2 h2)]).length (encM (d.l ++ [(Mk.mk l1 h1 l2 h2)])) X1n; rw [List.length_append, encM_app]; exact hO1n
             · show OwnSl 53 4 (.slice obn (d.r ++ [(Mk.mk l3 h3 l4 h4)]).length cbn) (d.r ++ [(Mk.mk l3 h3 l4 h4)]).length (encM (d.r ++ [(Mk.mk l3 h3 l4 h4)])) X2n; rw [List.length_append, encM_app]; exact hO2n
             · rw [List.length_append, encP_snoc]; exact hO3n
             · rw [List.length_append]; unfold ivs; rw [List.map_append]; exact hO4n
             · rw [← rows_cells (d := { d with l := d.l ++ [(Mk.mk l1 h1 l2 h2)], r := d.r ++ [(Mk.mk l3 h3 l4 h4)] }) (oa := oan) (ob := obn) (ca := can) (cb := cbn) (n := d.l.length + 1) (m := d.r.length + 1) (lo := d.lo) (hi := d.hi) (hid := d.hid) (by simp) (by simp) rfl rfl rfl]; exact hh.less (.cons_cons _ (.cons _ (.cons _ (.refl _)))))
          | (refine ⟨(tn, vp, vs), ⟨⟨ac + 1 + 1 + 1 + 2 + 2 + 2 + 2 + 1, { d with l := d.l ++ [(Mk.mk l1 h1 l2 h2)], hid := d.hid + 1 }, oan, ob, can, cb, ps, sh, X1n, X2, X3, X4, by omega, by omega, by omega, by omega, hMd.app rfl (List.append_nil _).symm rfl rfl (by simpa using hma) (by simp), hlo, hhi, ?_, ?_, ?_, ?_, ?_, ?_, ?_, ?_, ?_⟩, hh.less (List.nil_sublist _)⟩, hf.head ⟨rfl, rfl, rfl, True.intro⟩ (Keep.cons rfl (Keep.cons rfl (Keep.cons rfl (Keep.cons rfl (Keep.cons rfl (Keep.cons rfl (Keep.cons rfl (Keep.cons rfl (Keep.cons rfl (Keep.cons rfl (Keep.cons rfl (Keep.cons rfl (Keep.cons rfl (Keep.cons rfl (Keep.cons rfl (Keep.cons rfl (Keep.cons rfl (Keep.cons rfl (Keep.cons rfl (Keep.cons rfl (Keep.cons rfl (Keep.cons rfl (Keep.cons rfl (Keep.cons rfl (Keep.cons rfl (Keep.cons rfl (Keep.cons rfl (Keep.cons rfl (Keep.cons rfl (Keep.cons rfl (Keep.cons rfl (Keep.cons rfl (Keep.cons rfl (Keep.cons rfl (Keep.cons rfl (Keep.cons rfl (Keep.cons rfl (Keep.cons rfl (Keep.cons rfl (Keep.cons rfl (Keep.cons rfl (Keep.cons rfl (Keep.cons rfl (Keep.cons rfl (Keep.cons rfl (Keep.cons rfl (Keep.cons rfl (Keep.cons rfl (Keep.cons rfl (Keep.cons rfl (Keep.cons rfl (Keep.cons rfl (Keep.cons rfl (Keep.cons rfl (Keep.cons rfl (Keep.cons rfl (Keep.cons rfl (Keep.cons rfl (Keep.cons rfl (Keep.cons rfl (Keep.cons rfl (Keep.cons rfl (Keep.cons rfl (Keep.cons rfl (Keep.cons rfl (Keep.cons rfl (Keep.cons rfl (Keep.cons rfl (Keep.cons rfl (Keep.cons rfl (Keep.cons rfl (Keep.cons rfl (Keep.cons rfl (Keep.cons rfl (Keep.cons rfl (Keep.cons rfl (Keep.cons rfl (Keep.base))))))))))))))))))))))))))))))))))))))))))))))))))))))))))))))))))))))))))))))⟩
             · simp only [List.length_append, List.length_singleton]; omega
             · simp only [List.length_append, List.length_singleton]; omega
             · simp only [List.length_append, List.length_singleton]; omega
             · simp only; omega
             · show OwnSl 53 4 (.slice oan (d.l ++ [(Mk.mk l1 h1 l2 h2)]).length can) (d.l ++ [(Mk.mk l1 h1 l2 h2)]).length (encM (d.l ++ [(Mk.mk l1 h1 l2 h2)])) X1n; rw [List.length_append, encM_app]; exact hO1n
             · exact hO2
             · exact hO3
             · exact hO4
             · rw [← rows_cells (d := { d with l := d.l ++ [(Mk.mk l1 h1 l2 h2)], hid := d.hid + 1 }) (oa := oan) (ob := ob) (ca := can) (cb := cb) (n := d.l.length + 1) (m := d.r.length) (lo := d.lo) (hi := d.hi) (hid := d.hid + 1) (by simp) (by simp) rfl rfl rfl]; exact hh.less (.cons_cons _ (.cons _ (.cons _ (.refl _)))))
          | (refine ⟨(tn, vp, vs), ⟨⟨ac + 1 + 1 + 1 + 2 + 2 + 2 + 2 + 1, { d with r := d.r ++ [(Mk.mk l3 h3 l4 h4)], hid := d.hid + 1 }, oa, obn, ca, cbn, ps, sh, X1, X2n, X3, X4, by omega, by omega, by omega, by omega, hMd.app (List.append_nil _).symm rfl rfl rfl (by simp) (by simpa using hmb), hlo, hhi, ?_, ?_, ?_, ?_, ?_, ?_, ?_, ?_, ?_⟩, hh.less (List.nil_sublist _)⟩, hf.head ⟨rfl, rfl, rfl, True.intro⟩ (Keep.cons rfl (Keep.cons rfl (Keep.cons rfl (Keep.cons rfl (Keep.cons rfl (Keep.cons rfl (Keep.cons rfl (Keep.cons rfl (Keep.cons rfl (Keep.cons rfl (Keep.cons rfl (Keep.cons rfl (Keep.cons rfl (Keep.cons rfl (Keep.cons rfl (Keep.cons rfl (Keep.cons rfl (Keep.cons rfl (Keep.cons rfl (Keep.cons rfl (Keep.cons rfl (Keep.cons rfl (Keep.cons rfl (Keep.cons rfl (Keep.cons rfl (Keep.cons rfl (Keep.cons rfl (Keep.cons rfl (Keep.cons rfl (Keep.cons rfl (Keep.cons rfl (Keep.cons rfl (Keep.cons rfl (Keep.cons rfl (Keep.cons rfl (Keep.cons rfl (Keep.cons rfl (Keep.cons rfl (Keep.cons rfl (Keep.cons rfl (Keep.cons rfl (Keep.cons rfl (Keep.cons rfl (Keep.cons rfl (Keep.cons rfl (Keep.cons rfl (Keep.cons rfl (Keep.cons rfl (Keep.cons rfl (Keep.cons rfl (Keep.cons rfl (Keep.cons rfl (Keep.cons rfl (Keep.cons rfl (Keep.cons rfl (Keep.cons rfl (Keep.cons rfl (Keep.cons rfl (Keep.cons rfl (Keep.cons rfl (Keep.cons rfl (Keep.cons rfl (Keep.cons rfl (Keep.cons rfl (Keep.cons rfl (Keep.cons rfl (Keep.cons rfl (Keep.cons rfl (Keep.cons rfl (Keep.cons rfl (Keep.cons rfl (Keep.cons rfl (Keep.cons rfl (Keep.cons rfl (Keep.cons rfl (Keep.cons rfl (Keep.cons rfl (Keep.base))))))))))))))))))))))))))))))))))))))))))))))))))))))))))))))))))))))))))))))⟩
             · simp only [List.length_append, List.length_singleton]; omega
             · simp only [List.length_append, List.length_singleton]; omega
             · simp only [List.length_append, List.length_singleton]; omega
             · simp only; omega
             · exact hO1
             · show OwnSl 53 4 (.slice obn (d.r ++ [(Mk.mk l3 h3 l4 h4)]).length cbn) (d.r ++ [(Mk.mk l3 h3 l4 h4)]).length (encM (d.r ++ [(Mk.mk l3 h3 l4 h4)])) X2n; rw [List.length_append, encM_app]; exact hO2n
             · exact hO3
             · exact hO4
             · rw [← rows_cells (d := { d with r := d.r ++ [(Mk.mk l3 h3 l4 h4)], hid := d.hid + 1 }) (oa := oa) (ob := obn) (ca := ca) (cb := cbn) (n := d.l.length) (m := d.r.length + 1) (lo := d.lo) (hi := d.hi) (hid := d.hid + 1) (by simp) (by simp) rfl rfl rfl]; exact hh.less (.cons_cons _ (.cons _ (.cons _ (.refl _)))))
    ·rintro q a w ⟨hq, hh⟩ hf
     obtain ⟨tn, vp, vs⟩ := q
     simp only at hq hf
     refine sy_ops ?_
     refine o_v hf hh (y_add rfl rfl) ?_; clear hf a; intro a hf
     refine o_v hf hh (yv_move rfl) ?_; clear hf a; intro a hf
     refine ops_end ?_
     refine then_n ?_
     exact ⟨(i + 1, tn, vp, vs), ⟨hq, hf.head ⟨rfl, rfl, rfl, rfl, True.intro⟩ (Keep.cons rfl (Keep.cons rfl (Keep.app rfl (Keep.rm rfl (Keep.cons rfl (Keep.app rfl (Keep.rm rfl Keep.base)))))))⟩, by simp only; omega⟩
   ·have hG6 := hg6; try simp only [gS] at hG6
    refine sy_exit ?_
    refine then_e ?_
    refine then_e ?_
    refine blk_e ?_
    refine then_n ?_
    refine sy_seq ?_
    obtain ⟨opn, cpn, rfl⟩ := OwnSl_val hO3
    obtain ⟨osn, csn, rfl⟩ := OwnSl_val hO4
    refine sy_treeC (.p 0 (.q 0 1 (.q 0 2 (.e1 3 (.p 4 (.p 5 (.p 6 (.e1 7 (.fin))))))))) [[7]] [(AtE u [Bat] [(B2, .cells (rowsV d oa ob ca cb).cells 26), (B1, .cells #[drwV Bat Bby] 49)], [7])] Tryd.follows (by kernel_rfl) rfl hh (fun w hh => ?_)
    refine mc_p rfl   hf (yv_fieldAddr Tryd.fo_26_3 rfl) (.inl rfl) rfl rfl ?_; clear hf a; intro a hf
    refine mc_q rfl rfl (AtE.mk2 hh.ext (hh.at (i := 1) rfl) (hh.at (i := 2) rfl)) hf (y_ld Tryd.sc_3 rfl) (.inl rfl) rfl rfl ?_; clear hf a; intro a hf
    refine mc_q rfl rfl (AtE.mk2 hh.ext (hh.at (i := 1) rfl) (hh.at (i := 2) rfl)) hf (y_ld Tryd.sc_49 rfl) (.inl rfl) rfl rfl ?_; clear hf a; intro a hf
    refine mc_e rfl fun Q1 => ?_
    refine o_call hf Tryd.en_74 rfl rfl rfl (c74 Bat Bby sy ny cy (ac) _ (hD.ext hh.ext) (hh.get (Bat, .cells #[.int .i64 ((ac : Nat) : Int)] 3) (by simp)) (by omega) 3 (by omega)) ?_; clear hf a; intro v a w hR hf
    obtain ⟨z8, rfl, hz8a, hz8b, hx⟩ := hR; replace hh := hh.swap' (X := [(Bat, .cells #[.int .i64 ((ac : Nat) : Int)] 3)]) (Z := _) (.refl _) hx; clear hx
    refine ops_end ?_
    refine then_n ⟨⟨fun _ _ => (AtE.mk2 hh.ext (hh.at (i := 1) rfl) (hh.at (i := 2) rfl)), trivial⟩, ?_⟩
    refine mc_p rfl   hf (y_add rfl rfl) (.inl rfl) rfl rfl ?_; clear hf a; intro a hf
    refine mc_p rfl   hf (yv_min rfl rfl) (.inl rfl) rfl rfl ?_; clear hf a; intro a hf
    refine mc_p rfl   hf (yv_fieldAddr Tryd.fo_26_3 rfl) (.inl rfl) rfl rfl ?_; clear hf a; intro a hf
    refine mc_e rfl fun Q1 => ?_
    refine o_store hf hh Tryd.sz_3 fun w hh => ?_
    refine ops_end ?_
    refine then_n ⟨⟨fun h => Bool.noConfusion (show true = false from h), trivial⟩, ?_⟩
    refine mc_end ?_
    refine then_n ?_
    refine sy_sq ?_
    refine o_v hf hh (y_lds Tryd.ag_26 rfl) ?_; clear hf a; intro a hf
    refine o_v hf hh (yv_move rfl) ?_; clear hf a; intro a hf
    refine o_v hf hh (yv_move rfl) ?_; clear hf a; intro a hf
    refine o_store hf hh Tryd.sz_26 fun w hh => ?_
    refine o_v hf hh (yv_assign rfl) ?_; clear hf a; intro a hf
    refine o_v hf hh (yv_assign rfl) ?_; clear hf a; intro a hf
    refine o_end ?_
    refine sy_ret ?_
    refine ret_c (vs := [rowsV (setH d (min 20 (d.hid + z8))) oa ob ca cb, .slice opn ps.length cpn, .slice osn sh.length csn]) hf ?_ ?_
    · exact ⟨⟨B2, 0, _, 26, (0, 0), rfl, hh.at (i := 1) rfl, .inr ⟨5, _, Tryd.ag_26, rfl, rfl⟩⟩, rfl, rfl, trivial⟩
    have hV : Valid (setH d (min 20 (d.hid + z8))) := spans_ok (hMd.setH _) (by show d.l.length ≤ 10; omega) (by show d.r.length ≤ 10; omega) hlo hhi hz1a (by omega) (by omega) (by show 0 ≤ min 20 (d.hid + z8); omega) (by show min 20 (d.hid + z8) ≤ 20; omega)
    exact ⟨setH d (min 20 (d.hid + z8)), oa, ob, ca, cb, ps, sh, opn, cpn, osn, csn, rfl, hMd.setH _, hV, made_way (hMd.setH _) hV (by show _ ≤ min 20 (d.hid + z8); show ((d.l.length + d.r.length : Nat) : Int) - _ ≤ _; omega), mkAt_of hO1 fun x hx => hh.get x (by simp [hx]), mkAt_of hO2 fun x hx => hh.get x (by simp [hx]), valsAt_own hO3 fun x hx => hh.get x (by simp [hx]), valsAt_own hO4 fun x hx => hh.get x (by simp [hx]), hh.ext⟩
end Go.Proofs.YtemmhdgaagaglaaDoor
namespace Go.Proofs.YtemmhdgaagaglaaDoor
open Go Go.Sy Go.MatM
theorem ints_at {w : World} {oa : Option Addr} {l : List Int} (h : ValsAt w oa (ivs l)) {i : Nat} {z : Int} (hz : l[i]? = some z) : ∃ blk off c T fr, oa = some ⟨blk, off, none⟩ ∧ w.heap[blk]? = some (.cells c T fr) ∧ c[off + ((i : Nat) : Int).toNat * 1]? = some (.int .i64 z) := by
  rcases h with h | ⟨blk, off, c, T, fr, h1, h2, h3⟩
  · have := congrArg List.length h
    rw [List.length_map] at this
    have h2 := len_of hz
    have h3 : l.length = 0 := this
    omega
  · refine ⟨blk, off, c, T, fr, h1, h2, ?_⟩
    have := h3 i (.int .i64 z) (by simp [hz])
    simpa using this
set_option maxRecDepth 100000 in
set_option maxHeartbeats 4000000 in
theorem c11 (d : RowsD) (sa sb : Option Addr) (ca cb : Nat) (u : World) (hA : MkAt u sa d.l) (hB : MkAt u sb d.r) (hT : GTab u) : Calls Tryd.prog 11 #[rowsV d sa sb ca cb] u (Ret fun v w' => v = .bool true ∧ Ext [] u w') := by
  refine calls_of Tryd.func11 rfl rfl (fun a hf => ?_)
  have hh := Hp.init u []
  refine sy_sq ?_
  refine o_box hf hh ?_; clear hf hh a; intro B1 a w hf hh
  refine o_v hf hh (yv_assign rfl) ?_; clear hf a; intro a hf
  refine o_end ?_
  refine sy_seq ?_
  refine sy_sq ?_
  refine o_v hf hh (y_lds Tryd.ag_26 rfl) ?_; clear hf a; intro a hf
  refine o_call hf Tryd.en_13 rfl rfl rfl (c13 d sa sb ca cb _ (hA.ext hh.ext) (hB.ext hh.ext) 10) ?_; clear hf a; intro v a w hR hf
  obtain ⟨rfl, hx⟩ := hR; replace hh := hh.more hx; clear hx
  refine o_end ?_
  refine sy_cond hf rfl (fun hg2 => ?_) (fun hg2 => ?_)
  ·have hG2 := hg2; try simp only [gS] at hG2
   refine sy_sq ?_
   refine o_call hf Tryd.en_14 rfl rfl rfl (c14 _ (hT.ext hh.ext (by simp))) ?_; clear hf a; intro v a w hR hf
   obtain ⟨rfl, hx⟩ := hR; replace hh := hh.more hx; clear hx
   refine o_v hf hh (yv_assign rfl) ?_; clear hf a; intro a hf
   refine o_end ?_
   refine sy_ret ?_
   refine then_r ?_
   refine ret_r hf rfl rfl ?_
   first
     | exact ⟨rfl, hh.ext⟩
     | exact ⟨rfl, he2.trans hh.ext⟩
  ·have hG2 := hg2; try simp only [gS] at hG2
   refine sy_skip ?_
   refine then_n ?_
   refine sy_sq ?_
   refine o_v hf hh (y_lds Tryd.ag_26 rfl) ?_; clear hf a; intro a hf
   refine o_call hf Tryd.en_30 rfl rfl rfl (c30 d sa sb ca cb _ (hA.ext hh.ext) (hB.ext hh.ext)) ?_; clear hf a; intro v a w hR hf
   obtain ⟨sv1, X1, rfl, hown1, hx⟩ := hR; replace hh := hh.join hx; clear hx
   obtain ⟨oa1, cap1, rfl⟩ := OwnSl_val hown1
   have he1 := hh.ext
   have hb1 := hh.get (B1, .cells (rowsV d sa sb ca cb).cells 26) (by simp)
   have hA1 := hA.ext hh.ext
   have hB1 := hB.ext hh.ext
   have hT1 := hT.ext hh.ext (by simp)
   have hv1 := valsAt_own hown1 fun x hx => hh.get x (by simp [hx])
   obtain ⟨u1, rfl⟩ : ∃ z, z = w := ⟨_, rfl⟩
   replace hh := Hp.init u1 []
   
   refine o_v hf hh (yv_move rfl) ?_; clear hf a; intro a hf
   refine o_v hf hh (yv_extract rfl rfl) ?_; clear hf a; intro a hf
   refine o_v hf hh (yv_extract rfl rfl) ?_; clear hf a; intro a hf
   refine o_v hf hh (yv_assign rfl) ?_; clear hf a; intro a hf
   refine o_v hf hh (yv_assign rfl) ?_; clear hf a; intro a hf
   refine o_end ?_
   refine sy_sq ?_
   refine o_v hf hh (y_lds Tryd.ag_26 rfl) ?_; clear hf a; intro a hf
   refine o_call hf Tryd.en_32 rfl rfl rfl (c32 d sa sb ca cb _ (hA1.ext hh.ext) (hB1.ext hh.ext) (hT1.ext hh.ext (by simp))) ?_; clear hf a; intro v a w hR hf
   obtain ⟨sv2, X2, rfl, hown2, hx⟩ := hR; replace hh := hh.join hx; clear hx
   obtain ⟨oa2, cap2, rfl⟩ := OwnSl_val hown2
   have he2 := he1.trans hh.ext
   have hb2 := hh.ext.get hb1
   have hA2 := hA1.ext hh.ext
   have hB2 := hB1.ext hh.ext
   have hT2 := hT1.ext hh.ext (by simp)
   have hv12 := hv1.ext hh.ext
   have hv2 := valsAt_own hown2 fun x hx => hh.get x (by simp [hx])
   obtain ⟨u2, rfl⟩ : ∃ z, z = w := ⟨_, rfl⟩
   replace hh := Hp.init u2 []
   
   refine o_v hf hh (yv_move rfl) ?_; clear hf a; intro a hf
   refine o_v hf hh (yv_extract rfl rfl) ?_; clear hf a; intro a hf
   refine o_v hf hh (yv_extract rfl rfl) ?_; clear hf a; intro a hf
   refine o_v hf hh (yv_assign rfl) ?_; clear hf a; intro a hf
   refine o_v hf hh (yv_assign rfl) ?_; clear hf a; intro a hf
   refine o_end ?_
   refine sy_sq ?_
   refine o_v hf hh (y_lds Tryd.ag_26 rfl) ?_; clear hf a; intro a hf
   refine o_call hf Tryd.en_34 rfl rfl rfl (c34 d sa sb ca cb _ (hA2.ext hh.ext) (hB2.ext hh.ext)) ?_; clear hf a; intro v a w hR hf
   obtain ⟨rfl, hx⟩ := hR; replace hh := hh.more hx; clear hx
   refine o_v hf hh (yv_move rfl) ?_; clear hf a; intro a hf
   refine o_v hf hh (yv_extract rfl rfl) ?_; clear hf a; intro a hf
   refine o_v hf hh (yv_extract rfl rfl) ?_; clear hf a; intro a hf
   refine o_v hf hh (yv_extract rfl rfl) ?_; clear hf a; intro a hf
   refine o_v hf hh (yv_assign rfl) ?_; clear hf a; intro a hf
   refine o_v hf hh (yv_assign rfl) ?_; clear hf a; intro a hf
   refine o_v hf hh (yv_assign rfl) ?_; clear hf a; intro a hf
   refine o_end ?_
   refine sy_seq ?_
   refine sy_sq ?_
   refine o_v hf hh (yv_move rfl) ?_; clear hf a; intro a hf
   refine o_v hf hh (yv_move rfl) ?_; clear hf a; intro a hf
   refine o_v hf hh (yv_bin rfl rfl rfl) ?_; clear hf a; intro a hf
   refine o_v hf hh (yv_move rfl) ?_; clear hf a; intro a hf
   refine o_v hf hh (yv_move rfl) ?_; clear hf a; intro a hf
   refine o_v hf hh (yv_move rfl) ?_; clear hf a; intro a hf
   refine o_v hf hh (yv_bin rfl rfl rfl) ?_; clear hf a; intro a hf
   refine o_v hf hh (y_pf rfl rfl) ?_; clear hf a; intro a hf
   refine o_end ?_
   refine c_f hf ?_
   refine sy_skip ?_
   refine then_n ?_
   refine sy_seq ?_
   refine sy_sq ?_
   refine o_v hf hh (yv_move rfl) ?_; clear hf a; intro a hf
   refine o_v hf hh (yv_bin rfl rfl rfl) ?_; clear hf a; intro a hf
   refine o_end ?_
   refine sy_cond hf rfl (fun hg17 => ?_) (fun hg17 => ?_)
   ·have hG17 := hg17; try simp only [gS] at hG17
    refine sy_seq ?_
    have hne : opE d true ≠ 0 := by omega
    have hl1 : (if opE d true = 0 then canL d else []).length = 0 := by rw [if_neg hne]; rfl
    have hl2 : (if opE d true = 0 then sureL d else []).length = 0 := by rw [if_neg hne]; rfl
    have hi1 : (if opE d true = 0 then ((hideA d : Nat) : Int) else 0) = 0 := if_neg hne
    have hi2 : (if opE d true = 0 then ((hideB d : Nat) : Int) else 0) = 0 := if_neg hne
    have hEb : decide (decide (opE d true = 1) = !okRows d) = true := by
      cases hok : okRows d
      · rw [opE_bad hok true]; rfl
      · rw [(count_none hok hne).1]; rfl
    have hlen : d.l.length ≤ 24 ∧ d.r.length ≤ 24 := by first | (simp_all; done) | (simp_all; omega)
    refine sy_ops ?_
    refine o_v hf hh (yv_move rfl) ?_; clear hf a; intro a hf
    refine o_v hf hh (yv_len Tryd.se_55 rfl) ?_; clear hf a; intro a hf
    refine o_v hf hh (yv_bin rfl rfl rfl) ?_; clear hf a; intro a hf
    refine o_v hf hh (yv_move rfl) ?_; clear hf a; intro a hf
    refine o_v hf hh (yv_move rfl) ?_; clear hf a; intro a hf
    refine o_v hf hh (yv_len Tryd.se_55 rfl) ?_; clear hf a; intro a hf
    refine o_v hf hh (yv_bin rfl rfl rfl) ?_; clear hf a; intro a hf
    refine o_v hf hh (y_pt rfl rfl) ?_; clear hf a; intro a hf
    refine o_v hf hh (yv_move rfl) ?_; clear hf a; intro a hf
    refine o_v hf hh (yv_move rfl) ?_; clear hf a; intro a hf
    refine o_v hf hh (yv_bin rfl rfl rfl) ?_; clear hf a; intro a hf
    refine o_v hf hh (y_pt rfl rfl) ?_; clear hf a; intro a hf
    refine o_v hf hh (yv_move rfl) ?_; clear hf a; intro a hf
    refine o_v hf hh (yv_move rfl) ?_; clear hf a; intro a hf
    refine o_v hf hh (yv_bin rfl rfl rfl) ?_; clear hf a; intro a hf
    refine o_v hf hh (y_pt rfl rfl) ?_; clear hf a; intro a hf
    refine o_v hf hh (yv_move rfl) ?_; clear hf a; intro a hf
    refine o_v hf hh (yv_move rfl) ?_; clear hf a; intro a hf
    refine o_v hf hh (yv_bin rfl rfl rfl) ?_; clear hf a; intro a hf
    refine o_v hf hh (y_lds Tryd.ag_26 rfl) ?_; clear hf a; intro a hf
    refine o_call hf Tryd.en_26 rfl rfl rfl (c26 d sa sb ca cb _ (hA2.ext hh.ext) (hB2.ext hh.ext) (by omega) (by omega)) ?_; clear hf a; intro v a w hR hf
    obtain ⟨rfl, hx⟩ := hR; replace hh := hh.more hx; clear hx
    refine o_v hf hh (yv_not rfl) ?_; clear hf a; intro a hf
    refine o_v hf hh (yv_eqb Tryd.ub_4 rfl rfl) ?_; clear hf a; intro a hf
    refine o_v hf hh (y_pt rfl rfl) ?_; clear hf a; intro a hf
    refine o_v hf hh (yv_move rfl) ?_; clear hf a; intro a hf
    refine o_call hf Tryd.en_14 rfl rfl rfl (c14 _ (hT2.ext hh.ext (by simp))) ?_; clear hf a; intro v a w hR hf
    obtain ⟨rfl, hx⟩ := hR; replace hh := hh.more hx; clear hx
    refine o_v hf hh (y_pt rfl rfl) ?_; clear hf a; intro a hf
    refine o_v hf hh (yv_assign rfl) ?_; clear hf a; intro a hf
    refine o_end ?_
    refine sy_ret ?_
    refine then_r ?_
    refine ret_r hf rfl rfl ?_
    first
      | exact ⟨rfl, hh.ext⟩
      | exact ⟨rfl, he2.trans hh.ext⟩
   ·have hG17 := hg17; try simp only [gS] at hG17
    refine sy_skip ?_
    refine then_n ?_
    refine sy_seq ?_
    refine sy_seq ?_
    have hop : opE d true = 0 := by omega
    obtain ⟨hok, _, his⟩ := opE_zero.1 hop
    have hV := (okRows_iff d).1 hok
    have hnl := hV.nl; have hnr := hV.nr
    simp only [if_pos hop] at hf hv12 hv2
    have hcl : (canL d).length = d.l.length := by simp [canL]
    have hsl : (sureL d).length = d.l.length := by simp [sureL]
    have hlt := hide_lt d
    refine sy_ops ?_
    refine o_v hf hh (y_lds Tryd.ag_26 rfl) ?_; clear hf a; intro a hf
    refine o_call hf Tryd.en_26 rfl rfl rfl (c26 d sa sb ca cb _ (hA2.ext hh.ext) (hB2.ext hh.ext) (by omega) (by omega)) ?_; clear hf a; intro v a w hR hf
    obtain ⟨rfl, hx⟩ := hR; replace hh := hh.more hx; clear hx
    refine o_v hf hh (yv_not rfl) ?_; clear hf a; intro a hf
    refine o_v hf hh (yv_move rfl) ?_; clear hf a; intro a hf
    refine o_v hf hh (yv_move rfl) ?_; clear hf a; intro a hf
    refine o_v hf hh (yv_len Tryd.se_55 rfl) ?_; clear hf a; intro a hf
    refine o_v hf hh (yv_fieldAddr Tryd.fo_26_0 rfl) ?_; clear hf a; intro a hf
    refine o_v hf hh (y_ld Tryd.sc_22 rfl) ?_; clear hf a; intro a hf
    refine o_v hf hh (yv_len Tryd.se_22 rfl) ?_; clear hf a; intro a hf
    refine o_v hf hh (yv_bin rfl rfl rfl) ?_; clear hf a; intro a hf
    refine o_v hf hh (y_pf rfl rfl) ?_; clear hf a; intro a hf
    refine o_v hf hh (yv_move rfl) ?_; clear hf a; intro a hf
    refine o_v hf hh (yv_move rfl) ?_; clear hf a; intro a hf
    refine o_v hf hh (yv_len Tryd.se_55 rfl) ?_; clear hf a; intro a hf
    refine o_v hf hh (yv_fieldAddr Tryd.fo_26_0 rfl) ?_; clear hf a; intro a hf
    refine o_v hf hh (y_ld Tryd.sc_22 rfl) ?_; clear hf a; intro a hf
    refine o_v hf hh (yv_len Tryd.se_22 rfl) ?_; clear hf a; intro a hf
    refine o_v hf hh (yv_bin rfl rfl rfl) ?_; clear hf a; intro a hf
    refine o_v hf hh (y_pf rfl rfl) ?_; clear hf a; intro a hf
    refine o_v hf hh (yv_move rfl) ?_; clear hf a; intro a hf
    refine o_v hf hh (yv_move rfl) ?_; clear hf a; intro a hf
    refine o_v hf hh (yv_bin rfl rfl rfl) ?_; clear hf a; intro a hf
    refine o_v hf hh (y_pf rfl rfl) ?_; clear hf a; intro a hf
    refine o_v hf hh (yv_move rfl) ?_; clear hf a; intro a hf
    refine o_v hf hh (yv_move rfl) ?_; clear hf a; intro a hf
    refine o_v hf hh (yv_fieldAddr Tryd.fo_26_0 rfl) ?_; clear hf a; intro a hf
    refine o_v hf hh (y_ld Tryd.sc_22 rfl) ?_; clear hf a; intro a hf
    refine o_v hf hh (yv_len Tryd.se_22 rfl) ?_; clear hf a; intro a hf
    refine o_v hf hh (yv_cast (yv_shrN rfl rfl) (intv (b := 0) (by rw [shr_zero hlt.1]; rfl))) ?_; clear hf a; intro a hf
    refine o_v hf hh (yv_bin rfl rfl rfl) ?_; clear hf a; intro a hf
    refine o_v hf hh (y_pf rfl rfl) ?_; clear hf a; intro a hf
    refine o_v hf hh (yv_move rfl) ?_; clear hf a; intro a hf
    refine o_v hf hh (yv_move rfl) ?_; clear hf a; intro a hf
    refine o_v hf hh (yv_bin rfl rfl rfl) ?_; clear hf a; intro a hf
    refine o_v hf hh (y_pf rfl rfl) ?_; clear hf a; intro a hf
    refine o_v hf hh (yv_move rfl) ?_; clear hf a; intro a hf
    refine o_v hf hh (yv_move rfl) ?_; clear hf a; intro a hf
    refine o_v hf hh (yv_fieldAddr Tryd.fo_26_1 rfl) ?_; clear hf a; intro a hf
    refine o_v hf hh (y_ld Tryd.sc_22 rfl) ?_; clear hf a; intro a hf
    refine o_v hf hh (yv_len Tryd.se_22 rfl) ?_; clear hf a; intro a hf
    refine o_v hf hh (yv_cast (yv_shrN rfl rfl) (intv (b := 0) (by rw [shr_zero hlt.2]; rfl))) ?_; clear hf a; intro a hf
    refine o_v hf hh (yv_bin rfl rfl rfl) ?_; clear hf a; intro a hf
    refine o_v hf hh (y_pf rfl rfl) ?_; clear hf a; intro a hf
    refine o_end ?_
    refine c_f hf ?_
    refine sy_skip ?_
    refine then_n ?_
    refine sy_sq ?_
    refine o_v hf hh (yv_assign rfl) ?_; clear hf a; intro a hf
    refine o_end ?_
    refine sy_seq ?_
    refine sy_seq ?_
    have ha10 := hide_lt d
    have hpl : 2 ^ d.l.length ≤ 2 ^ 10 := Nat.pow_le_pow_right (by omega) hnl
    have hpr : 2 ^ d.r.length ≤ 2 ^ 10 := Nat.pow_le_pow_right (by omega) hnr
    refine sy_ops ?_
    refine o_v hf hh (yv_move rfl) ?_; clear hf a; intro a hf
    refine o_v hf hh (yv_len Tryd.se_55 rfl) ?_; clear hf a; intro a hf
    refine o_v hf hh (yv_move rfl) ?_; clear hf a; intro a hf
    refine o_end ?_
    refine sy_block ?_
    refine sy_loopH (σ := Nat) [2, 10, 11, 12, 13, 14, 15, 16, 17, 18, 19, 122, 123, 124, 125, 126, 127, 128, 129, 130, 131, 132, 133, 134, 135, 136, 137, 138, 139, 140, 141, 142, 143, 144, 145, 146, 147, 148, 149, 150, 151, 152, 153, 154, 155, 156, 157, 158, 159, 160, 161, 162, 163, 164, 165, 166, 167, 168, 169, 170, 171, 172, 173, 174, 175, 176, 177, 178, 179, 180, 181, 182, 183, 184, 185, 186, 187, 188, 189, 190, 191, 192, 193, 194, 195, 196, 197, 198, 199, 200, 201, 202, 203, 204, 205, 206, 207, 208, 209, 210, 211, 212, 213, 214, 215, 216, 217, 218, 219, 220, 221, 222, 223, 224, 225, 226, 227, 228, 229, 230, 231, 232, 233, 234, 235, 236, 237, 238, 239, 240, 241, 242, 243, 244, 245] (fun i => [(10, .int .i64 (allS d i : Nat)), (122, .int .i64 i)]) (fun i => fun w' => i ≤ d.l.length ∧ Hp u2 [] [] w') (fun i => d.l.length - i) (0) hf ?_ ?_ ?_
    · repeat' (first | exact True.intro | refine And.intro rfl ?_)
    · exact ⟨Nat.zero_le _, hh⟩
    ·rintro i a w ⟨hi, hh⟩ hf
     refine sy_sq ?_
     refine o_v hf hh (yv_bin rfl rfl rfl) ?_; clear hf a; intro a hf
     refine o_end ?_
     refine sy_seq ?_
     refine sy_cond hf rfl (fun hg36 => ?_) (fun hg36 => ?_)
     ·have hG36 := hg36; try simp only [gS] at hG36
      refine sy_skip ?_
      refine then_n ?_
      refine sy_seq ?_
      refine sy_block ?_
      refine sy_seq ?_
      have hc0 := canS_1024 hnr i
      have hal := allS_lt hnr i
      have hil : i < d.l.length := by omega
      obtain ⟨blk, off, c, Tc, fr, e1, hbx, hcx⟩ := ints_at hv12 (i := i) (z := ((canS d i : Nat) : Int)) (by simp [canL, hil])
      subst e1
      have hbit : (hideA d).testBit i = hidD d i (-1) := by rw [hideA_bit, decide_eq_true hil, Bool.true_and]
      have hcoh : canS d i = 0 → (!(hideA d).testBit i) = false := fun h => by rw [hbit, can_or_hid his h]; rfl
      refine sy_ops ?_
      refine o_v hf hh (yv_move rfl) ?_; clear hf a; intro a hf
      refine o_v hf hh (y_ix Tryd.se_55 rfl rfl) ?_; clear hf a; intro a hf
      refine o_v hf hh (y_ld Tryd.sc_3 rfl) ?_; clear hf a; intro a hf
      refine o_v hf hh (yv_assign rfl) ?_; clear hf a; intro a hf
      refine o_v hf hh (yv_assign rfl) ?_; clear hf a; intro a hf
      refine o_end ?_
      refine sy_sq ?_
      refine o_v hf hh (yv_move rfl) ?_; clear hf a; intro a hf
      refine o_v hf hh (yv_move rfl) ?_; clear hf a; intro a hf
      refine ops_v hf hh (yv_cast (yv_or (.inl rfl) rfl rfl (by omega) (by simp only [IntKind.top]; omega) (by omega) (by simp only [IntKind.top]; omega)) (intv (b := ((allS d (i + 1) : Nat) : Int)) (by rw [Int.toNat_natCast, Int.toNat_natCast]; rfl))) (.inl rfl) rfl rfl rfl ?_; clear hf a; intro a hf
      refine o_v hf hh (yv_assign rfl) ?_; clear hf a; intro a hf
      refine o_end ?_
      refine sy_cut (σ := Unit) [2, 130, 131, 132, 133, 134, 135, 136, 137, 138, 139, 140, 141, 142, 143, 144, 145, 146, 147, 148, 149, 150] (fun z => []) (fun z => fun w' => Hp u2 [] [] w') hf ?_ ?_
      ·refine sy_sq ?_
       refine o_v hf hh (yv_move rfl) ?_; clear hf a; intro a hf
       refine o_v hf hh (yv_bin rfl rfl rfl) ?_; clear hf a; intro a hf
       refine o_v hf hh (yv_move rfl) ?_; clear hf a; intro a hf
       refine o_v hf hh (yv_move rfl) ?_; clear hf a; intro a hf
       refine o_v hf hh (yv_fieldAddr Tryd.fo_26_1 rfl) ?_; clear hf a; intro a hf
       refine o_v hf hh (y_ld Tryd.sc_22 rfl) ?_; clear hf a; intro a hf
       refine o_v hf hh (yv_len Tryd.se_22 rfl) ?_; clear hf a; intro a hf
       refine o_v hf hh (yv_cast (yv_shrN rfl rfl) (intv (b := 0) (by rw [shr_zero (canS_lt d i)]; rfl))) ?_; clear hf a; intro a hf
       refine o_v hf hh (yv_bin rfl rfl rfl) ?_; clear hf a; intro a hf
       refine o_v hf hh (y_pf rfl rfl) ?_; clear hf a; intro a hf
       refine o_v hf hh (yv_move rfl) ?_; clear hf a; intro a hf
       refine o_v hf hh (yv_move rfl) ?_; clear hf a; intro a hf
       refine o_v hf hh (yv_bin rfl rfl rfl) ?_; clear hf a; intro a hf
       refine o_v hf hh (yv_move rfl) ?_; clear hf a; intro a hf
       refine guard_split hf (t := 143) rfl (fun hg42 => ?_) (fun hg42 => ?_)
       ·have hG42 := hg42; try simp only [gS] at hG42
        have hcb := hcoh (by omega)
        refine o_v hf hh (yv_move rfl) ?_; clear hf a; intro a hf
        refine o_v hf hh (yv_move rfl) ?_; clear hf a; intro a hf
        refine o_v hf hh (yv_shrN rfl rfl) ?_; clear hf a; intro a hf
        refine o_v hf hh (yv_and1 rfl rfl (by omega)) ?_; clear hf a; intro a hf
        refine o_v hf hh (yv_bit0 rfl rfl) ?_; clear hf a; intro a hf
        refine o_v hf hh (y_pt rfl rfl) ?_; clear hf a; intro a hf
        refine o_v hf hh (y_pf rfl rfl) ?_; clear hf a; intro a hf
        refine o_end ?_
        refine c_f hf ?_
        refine sy_skip ?_
        refine then_n ?_
        exact ⟨(), hh.less (List.nil_sublist _), hf.head True.intro (Keep.cons rfl (Keep.cons rfl (Keep.cons rfl (Keep.cons rfl (Keep.cons rfl (Keep.cons rfl (Keep.cons rfl (Keep.cons rfl (Keep.cons rfl (Keep.cons rfl (Keep.cons rfl (Keep.cons rfl (Keep.cons rfl (Keep.cons rfl (Keep.cons rfl (Keep.cons rfl (Keep.cons rfl (Keep.cons rfl (Keep.cons rfl (Keep.cons rfl (Keep.cons rfl (Keep.base))))))))))))))))))))))⟩
       ·have hG42 := hg42; try simp only [gS] at hG42
        refine o_off hf ?_; clear hf a; intro a hf
        refine o_off hf ?_; clear hf a; intro a hf
        refine o_off hf ?_; clear hf a; intro a hf
        refine o_off hf ?_; clear hf a; intro a hf
        refine o_off hf ?_; clear hf a; intro a hf
        refine o_v hf hh (y_pf rfl rfl) ?_; clear hf a; intro a hf
        refine o_v hf hh (y_pf rfl rfl) ?_; clear hf a; intro a hf
        refine o_end ?_
        refine c_f hf ?_
        refine sy_skip ?_
        refine then_n ?_
        exact ⟨(), hh.less (List.nil_sublist _), hf.head True.intro (Keep.cons rfl (Keep.cons rfl (Keep.cons rfl (Keep.cons rfl (Keep.cons rfl (Keep.cons rfl (Keep.cons rfl (Keep.cons rfl (Keep.cons rfl (Keep.cons rfl (Keep.cons rfl (Keep.cons rfl (Keep.cons rfl (Keep.cons rfl (Keep.cons rfl (Keep.cons rfl (Keep.cons rfl (Keep.cons rfl (Keep.cons rfl (Keep.cons rfl (Keep.cons rfl (Keep.base))))))))))))))))))))))⟩
      ·rintro z a w hh hf
       obtain ⟨q, hq⟩ : ∃ q, q = canS d i &&& (canS d i - 1) := ⟨_, rfl⟩
       have hsu := (sure_iff hnr i).1
       have hone : (!decide (sureN d i = -1)) = (!decide (canS d i = 0) && (decide (q = 0) && !hidD d i (-1))) := by
         rw [Bool.eq_iff_iff]
         simp only [Bool.and_eq_true, Bool.not_eq_true', decide_eq_false_iff_not, decide_eq_true_eq]
         rw [hq]; exact hsu
       refine sy_cut (σ := Unit) [13, 151, 152, 153, 154, 155, 156, 157, 158, 159, 160, 161, 162, 163, 164, 165, 166] (fun z => [(13, .bool (!decide (sureN d i = -1)))]) (fun z => fun w' => Hp u2 [] [] w') hf ?_ ?_
       ·refine sy_ops ?_
        refine o_v hf hh (yv_move rfl) ?_; clear hf a; intro a hf
        refine o_v hf hh (yv_bin rfl rfl rfl) ?_; clear hf a; intro a hf
        refine o_v hf hh (yv_move rfl) ?_; clear hf a; intro a hf
        refine guard_split hf (t := 153) rfl (fun hg47 => ?_) (fun hg47 => ?_)
        ·have hG47 := hg47; try simp only [gS] at hG47
         refine o_v hf hh (yv_move rfl) ?_; clear hf a; intro a hf
         refine o_v hf hh (yv_move rfl) ?_; clear hf a; intro a hf
         refine o_v hf hh (y_sub rfl rfl) ?_; clear hf a; intro a hf
         refine ops_v hf hh (yv_cast (yv_and (.inl rfl) rfl rfl (by omega) (by simp only [IntKind.top]; omega) (by omega) (by simp only [IntKind.top]; omega)) (intv (b := ((q : Nat) : Int)) (by rw [Int.toNat_natCast, show (((canS d i : Nat) : Int) - 1).toNat = canS d i - 1 by omega, hq]))) (gon rfl rfl rfl (by first | assumption | rfl | (simp; done) | (simp; omega))) rfl rfl rfl ?_; clear hf a; intro a hf
         refine o_v hf hh (yv_bin rfl rfl rfl) ?_; clear hf a; intro a hf
         refine o_v hf hh (y_pt rfl rfl) ?_; clear hf a; intro a hf
         refine o_v hf hh (yv_move rfl) ?_; clear hf a; intro a hf
         refine guard_split hf (t := 160) rfl (fun hg50 => ?_) (fun hg50 => ?_)
         ·have hG50 := hg50; try simp only [gS] at hG50
          refine o_v hf hh (yv_move rfl) ?_; clear hf a; intro a hf
          refine o_v hf hh (yv_move rfl) ?_; clear hf a; intro a hf
          refine o_v hf hh (yv_shrN rfl rfl) ?_; clear hf a; intro a hf
          refine o_v hf hh (yv_and1 rfl rfl (by omega)) ?_; clear hf a; intro a hf
          refine o_v hf hh (yv_bit0 rfl rfl) ?_; clear hf a; intro a hf
          refine o_v hf hh (y_pt rfl rfl) ?_; clear hf a; intro a hf
          refine o_v hf hh (yv_assign rfl) ?_; clear hf a; intro a hf
          refine ops_end ?_
          refine then_n ?_
          first
            | exact ⟨(), hh, hf.head ⟨congrArg (fun z => some (Value.bool z)) (show false = _ by rw [hone, decide_eq_true (p := canS d i = 0) (by omega)]; rfl), True.intro⟩ (Keep.cons rfl (Keep.cons rfl (Keep.cons rfl (Keep.cons rfl (Keep.cons rfl (Keep.cons rfl (Keep.cons rfl (Keep.cons rfl (Keep.cons rfl (Keep.cons rfl (Keep.cons rfl (Keep.cons rfl (Keep.cons rfl (Keep.cons rfl (Keep.cons rfl (Keep.cons rfl (Keep.cons rfl (Keep.base))))))))))))))))))⟩
            | exact ⟨(), hh, hf.head ⟨congrArg (fun z => some (Value.bool z)) (show false = _ by rw [hone, decide_eq_false (p := q = 0) (by omega), Bool.false_and, Bool.and_false]), True.intro⟩ (Keep.cons rfl (Keep.cons rfl (Keep.cons rfl (Keep.cons rfl (Keep.cons rfl (Keep.cons rfl (Keep.cons rfl (Keep.cons rfl (Keep.cons rfl (Keep.cons rfl (Keep.cons rfl (Keep.cons rfl (Keep.cons rfl (Keep.cons rfl (Keep.cons rfl (Keep.cons rfl (Keep.cons rfl (Keep.base))))))))))))))))))⟩
            | exact ⟨(), hh, hf.head ⟨congrArg (fun z => some (Value.bool z)) (show decide ((q : Int) = 0) = _ by rw [hone, decide_eq_false (p := q = 0) (by omega), Bool.false_and, Bool.and_false]; exact decide_eq_false (by omega)), True.intro⟩ (Keep.cons rfl (Keep.cons rfl (Keep.cons rfl (Keep.cons rfl (Keep.cons rfl (Keep.cons rfl (Keep.cons rfl (Keep.cons rfl (Keep.cons rfl (Keep.cons rfl (Keep.cons rfl (Keep.cons rfl (Keep.cons rfl (Keep.cons rfl (Keep.cons rfl (Keep.cons rfl (Keep.cons rfl (Keep.base))))))))))))))))))⟩
            | exact ⟨(), hh, hf.head ⟨congrArg (fun z => some (Value.bool z)) (show (!(hideA d).testBit i) = _ by rw [hone, decide_eq_false (p := canS d i = 0) (by omega), decide_eq_true (p := q = 0) (by omega), hbit]; rfl), True.intro⟩ (Keep.cons rfl (Keep.cons rfl (Keep.cons rfl (Keep.cons rfl (Keep.cons rfl (Keep.cons rfl (Keep.cons rfl (Keep.cons rfl (Keep.cons rfl (Keep.cons rfl (Keep.cons rfl (Keep.cons rfl (Keep.cons rfl (Keep.cons rfl (Keep.cons rfl (Keep.cons rfl (Keep.cons rfl (Keep.base))))))))))))))))))⟩
         ·have hG50 := hg50; try simp only [gS] at hG50
          refine o_off hf ?_; clear hf a; intro a hf
          refine o_off hf ?_; clear hf a; intro a hf
          refine o_off hf ?_; clear hf a; intro a hf
          refine o_off hf ?_; clear hf a; intro a hf
          refine o_off hf ?_; clear hf a; intro a hf
          refine o_v hf hh (y_pf rfl rfl) ?_; clear hf a; intro a hf
          refine o_v hf hh (yv_assign rfl) ?_; clear hf a; intro a hf
          refine ops_end ?_
          refine then_n ?_
          first
            | exact ⟨(), hh, hf.head ⟨congrArg (fun z => some (Value.bool z)) (show false = _ by rw [hone, decide_eq_true (p := canS d i = 0) (by omega)]; rfl), True.intro⟩ (Keep.cons rfl (Keep.cons rfl (Keep.cons rfl (Keep.cons rfl (Keep.cons rfl (Keep.cons rfl (Keep.cons rfl (Keep.cons rfl (Keep.cons rfl (Keep.cons rfl (Keep.cons rfl (Keep.cons rfl (Keep.cons rfl (Keep.cons rfl (Keep.cons rfl (Keep.cons rfl (Keep.cons rfl (Keep.base))))))))))))))))))⟩
            | exact ⟨(), hh, hf.head ⟨congrArg (fun z => some (Value.bool z)) (show false = _ by rw [hone, decide_eq_false (p := q = 0) (by omega), Bool.false_and, Bool.and_false]), True.intro⟩ (Keep.cons rfl (Keep.cons rfl (Keep.cons rfl (Keep.cons rfl (Keep.cons rfl (Keep.cons rfl (Keep.cons rfl (Keep.cons rfl (Keep.cons rfl (Keep.cons rfl (Keep.cons rfl (Keep.cons rfl (Keep.cons rfl (Keep.cons rfl (Keep.cons rfl (Keep.cons rfl (Keep.cons rfl (Keep.base))))))))))))))))))⟩
            | exact ⟨(), hh, hf.head ⟨congrArg (fun z => some (Value.bool z)) (show decide ((q : Int) = 0) = _ by rw [hone, decide_eq_false (p := q = 0) (by omega), Bool.false_and, Bool.and_false]; exact decide_eq_false (by omega)), True.intro⟩ (Keep.cons rfl (Keep.cons rfl (Keep.cons rfl (Keep.cons rfl (Keep.cons rfl (Keep.cons rfl (Keep.cons rfl (Keep.cons rfl (Keep.cons rfl (Keep.cons rfl (Keep.cons rfl (Keep.cons rfl (Keep.cons rfl (Keep.cons rfl (Keep.cons rfl (Keep.cons rfl (Keep.cons rfl (Keep.base))))))))))))))))))⟩
            | exact ⟨(), hh, hf.head ⟨congrArg (fun z => some (Value.bool z)) (show (!(hideA d).testBit i) = _ by rw [hone, decide_eq_false (p := canS d i = 0) (by omega), decide_eq_true (p := q = 0) (by omega), hbit]; rfl), True.intro⟩ (Keep.cons rfl (Keep.cons rfl (Keep.cons rfl (Keep.cons rfl (Keep.cons rfl (Keep.cons rfl (Keep.cons rfl (Keep.cons rfl (Keep.cons rfl (Keep.cons rfl (Keep.cons rfl (Keep.cons rfl (Keep.cons rfl (Keep.cons rfl (Keep.cons rfl (Keep.cons rfl (Keep.cons rfl (Keep.base))))))))))))))))))⟩
        ·have hG47 := hg47; try simp only [gS] at hG47
         refine o_off hf ?_; clear hf a; intro a hf
         refine o_off hf ?_; clear hf a; intro a hf
         refine o_off hf ?_; clear hf a; intro a hf
         refine o_off hf ?_; clear hf a; intro a hf
         refine o_off hf ?_; clear hf a; intro a hf
         refine o_v hf hh (y_pf rfl rfl) ?_; clear hf a; intro a hf
         refine o_v hf hh (yv_move rfl) ?_; clear hf a; intro a hf
         refine o_off hf ?_; clear hf a; intro a hf
         refine o_off hf ?_; clear hf a; intro a hf
         refine o_off hf ?_; clear hf a; intro a hf
         refine o_off hf ?_; clear hf a; intro a hf
         refine o_off hf ?_; clear hf a; intro a hf
         refine o_v hf hh (y_pf rfl rfl) ?_; clear hf a; intro a hf
         refine o_v hf hh (yv_assign rfl) ?_; clear hf a; intro a hf
         refine ops_end ?_
         refine then_n ?_
         first
           | exact ⟨(), hh, hf.head ⟨congrArg (fun z => some (Value.bool z)) (show false = _ by rw [hone, decide_eq_true (p := canS d i = 0) (by omega)]; rfl), True.intro⟩ (Keep.cons rfl (Keep.cons rfl (Keep.cons rfl (Keep.cons rfl (Keep.cons rfl (Keep.cons rfl (Keep.cons rfl (Keep.cons rfl (Keep.cons rfl (Keep.cons rfl (Keep.cons rfl (Keep.cons rfl (Keep.cons rfl (Keep.cons rfl (Keep.cons rfl (Keep.cons rfl (Keep.cons rfl (Keep.base))))))))))))))))))⟩
           | exact ⟨(), hh, hf.head ⟨congrArg (fun z => some (Value.bool z)) (show false = _ by rw [hone, decide_eq_false (p := q = 0) (by omega), Bool.false_and, Bool.and_false]), True.intro⟩ (Keep.cons rfl (Keep.cons rfl (Keep.cons rfl (Keep.cons rfl (Keep.cons rfl (Keep.cons rfl (Keep.cons rfl (Keep.cons rfl (Keep.cons rfl (Keep.cons rfl (Keep.cons rfl (Keep.cons rfl (Keep.cons rfl (Keep.cons rfl (Keep.cons rfl (Keep.cons rfl (Keep.cons rfl (Keep.base))))))))))))))))))⟩
           | exact ⟨(), hh, hf.head ⟨congrArg (fun z => some (Value.bool z)) (show decide ((q : Int) = 0) = _ by rw [hone, decide_eq_false (p := q = 0) (by omega), Bool.false_and, Bool.and_false]; exact decide_eq_false (by omega)), True.intro⟩ (Keep.cons rfl (Keep.cons rfl (Keep.cons rfl (Keep.cons rfl (Keep.cons rfl (Keep.cons rfl (Keep.cons rfl (Keep.cons rfl (Keep.cons rfl (Keep.cons rfl (Keep.cons rfl (Keep.cons rfl (Keep.cons rfl (Keep.cons rfl (Keep.cons rfl (Keep.cons rfl (Keep.cons rfl (Keep.base))))))))))))))))))⟩
           | exact ⟨(), hh, hf.head ⟨congrArg (fun z => some (Value.bool z)) (show (!(hideA d).testBit i) = _ by rw [hone, decide_eq_false (p := canS d i = 0) (by omega), decide_eq_true (p := q = 0) (by omega), hbit]; rfl), True.intro⟩ (Keep.cons rfl (Keep.cons rfl (Keep.cons rfl (Keep.cons rfl (Keep.cons rfl (Keep.cons rfl (Keep.cons rfl (Keep.cons rfl (Keep.cons rfl (Keep.cons rfl (Keep.cons rfl (Keep.cons rfl (Keep.cons rfl (Keep.cons rfl (Keep.cons rfl (Keep.cons rfl (Keep.cons rfl (Keep.base))))))))))))))))))⟩
       ·rintro z a w hh hf
        obtain ⟨blk2, off2, c2, Tc2, fr2, e2, hbx2, hcx2⟩ := ints_at hv2 (i := i) (z := sureN d i) (by simp [sureL, hil])
        subst e2
        have hsz := (sure_iff hnr i).2
        refine sy_cut (σ := Unit) [2, 167, 168, 169, 170, 171, 172, 173, 174, 175, 176, 177, 178, 179, 180, 181, 182, 183, 184, 185, 186] (fun z => []) (fun z => fun w' => Hp u2 [] [] w') hf ?_ ?_
        ·refine sy_sq ?_
         refine o_v hf hh (yv_move rfl) ?_; clear hf a; intro a hf
         refine o_v hf hh (yv_move rfl) ?_; clear hf a; intro a hf
         refine o_v hf hh (yv_move rfl) ?_; clear hf a; intro a hf
         refine o_v hf hh (y_ix Tryd.se_55 rfl rfl) ?_; clear hf a; intro a hf
         refine o_v hf hh (y_ld Tryd.sc_3 rfl) ?_; clear hf a; intro a hf
         refine o_v hf hh (yv_bin rfl rfl rfl) ?_; clear hf a; intro a hf
         refine o_v hf hh (yv_neb Tryd.ub_4 rfl rfl) ?_; clear hf a; intro a hf
         refine o_v hf hh (yv_move rfl) ?_; clear hf a; intro a hf
         refine o_v hf hh (yv_move rfl) ?_; clear hf a; intro a hf
         refine o_v hf hh (yv_move rfl) ?_; clear hf a; intro a hf
         refine guard_split hf (t := 176) rfl (fun hg57 => ?_) (fun hg57 => ?_)
         ·have hG57 := hg57; try simp only [gS] at hG57
          refine o_v hf hh (yv_move rfl) ?_; clear hf a; intro a hf
          refine o_v hf hh (yv_move rfl) ?_; clear hf a; intro a hf
          refine o_v hf hh (yv_move rfl) ?_; clear hf a; intro a hf
          refine o_v hf hh (y_ix Tryd.se_55 rfl rfl) ?_; clear hf a; intro a hf
          obtain ⟨hz1, hz2, hz3⟩ := hsz (by omega)
          refine o_v hf hh (y_ld Tryd.sc_3 rfl) ?_; clear hf a; intro a hf
          refine ops_v hf hh (yv_cast (yv_max rfl rfl) (intv (b := ((Lib.ctz 64 (canS d i) : Nat) : Int)) (by omega))) (gon rfl rfl rfl (by first | assumption | rfl | (simp; done) | (simp; omega))) rfl rfl rfl ?_; clear hf a; intro a hf
          refine ops_v hf hh (yv_cast (yv_shl1 (.inl rfl) rfl rfl (by omega) (by omega)) (intv (b := ((canS d i : Nat) : Int)) (by rw [Int.toNat_natCast, ← hz2]))) (gon rfl rfl rfl (by first | assumption | rfl | (simp; done) | (simp; omega))) rfl rfl rfl ?_; clear hf a; intro a hf
          refine o_v hf hh (yv_bin rfl rfl rfl) ?_; clear hf a; intro a hf
          refine o_v hf hh (y_pt rfl rfl) ?_; clear hf a; intro a hf
          refine o_v hf hh (y_pf rfl rfl) ?_; clear hf a; intro a hf
          refine o_end ?_
          refine c_f hf ?_
          refine sy_skip ?_
          refine then_n ?_
          exact ⟨(), hh.less (List.nil_sublist _), hf.head True.intro (Keep.cons rfl (Keep.cons rfl (Keep.cons rfl (Keep.cons rfl (Keep.cons rfl (Keep.cons rfl (Keep.cons rfl (Keep.cons rfl (Keep.cons rfl (Keep.cons rfl (Keep.cons rfl (Keep.cons rfl (Keep.cons rfl (Keep.cons rfl (Keep.cons rfl (Keep.cons rfl (Keep.cons rfl (Keep.cons rfl (Keep.cons rfl (Keep.cons rfl (Keep.base)))))))))))))))))))))⟩
         ·have hG57 := hg57; try simp only [gS] at hG57
          refine o_off hf ?_; clear hf a; intro a hf
          refine o_off hf ?_; clear hf a; intro a hf
          refine o_off hf ?_; clear hf a; intro a hf
          refine o_off hf ?_; clear hf a; intro a hf
          refine o_off hf ?_; clear hf a; intro a hf
          refine o_off hf ?_; clear hf a; intro a hf
          refine o_off hf ?_; clear hf a; intro a hf
          refine o_off hf ?_; clear hf a; intro a hf
          refine o_v hf hh (y_pf rfl rfl) ?_; clear hf a; intro a hf
          refine o_v hf hh (y_pf rfl rfl) ?_; clear hf a; intro a hf
          refine o_end ?_
          refine c_f hf ?_
          refine sy_skip ?_
          refine then_n ?_
          exact ⟨(), hh.less (List.nil_sublist _), hf.head True.intro (Keep.cons rfl (Keep.cons rfl (Keep.cons rfl (Keep.cons rfl (Keep.cons rfl (Keep.cons rfl (Keep.cons rfl (Keep.cons rfl (Keep.cons rfl (Keep.cons rfl (Keep.cons rfl (Keep.cons rfl (Keep.cons rfl (Keep.cons rfl (Keep.cons rfl (Keep.cons rfl (Keep.cons rfl (Keep.cons rfl (Keep.cons rfl (Keep.cons rfl (Keep.base)))))))))))))))))))))⟩
        ·rintro z a w hh hf
         have hlo : leftOk d i = true := by unfold leftOk inB; simp only [Bool.and_eq_true, decide_eq_true_eq]; omega
         have hopl : opE d (leftOk d i) = 0 := by rw [hlo]; exact hop
         have hE0 : shiftE d i = if (shiftO d i).isSome then 0 else 4 := by unfold shiftE; rw [if_pos hopl, Int.toNat_natCast]
         have hV0 : shiftV d i = (shiftO d i).getD (0, 0) := by unfold shiftV; rw [if_pos hopl, Int.toNat_natCast]
         have hnone := shiftO_none (d := d) (i := i)
         have hE4 : canS d i = 0 → shiftE d i = 4 ∧ shiftV d i = (0, 0) := fun h => by rw [hE0, hV0, hnone.2 h]; exact ⟨rfl, rfl⟩
         have hE5 : canS d i ≠ 0 → shiftE d i = 0 := fun h => by
           rw [hE0]
           cases e : shiftO d i with
           | none => exact absurd (hnone.1 e) h
           | some x => rfl
         refine sy_sq ?_
         refine o_v hf hh (y_lds Tryd.ag_26 rfl) ?_; clear hf a; intro a hf
         refine o_v hf hh (yv_move rfl) ?_; clear hf a; intro a hf
         refine o_call hf Tryd.en_22 rfl rfl rfl (c22 d sa sb ca cb _ (hA2.ext hh.ext) (hB2.ext hh.ext) (by omega) i (by omega)) ?_; clear hf a; intro v a w hR hf
         obtain ⟨rfl, hx⟩ := hR; replace hh := hh.more hx; clear hx
         refine o_v hf hh (yv_move rfl) ?_; clear hf a; intro a hf
         refine o_v hf hh (yv_extract rfl rfl) ?_; clear hf a; intro a hf
         refine o_v hf hh (yv_extract rfl rfl) ?_; clear hf a; intro a hf
         refine o_alloc hf hh Tryd.ze_24 ?_; clear hf hh a; intro B14 a w hf hh
         refine o_store hf hh Tryd.sz_24 fun w hh => ?_
         refine o_v hf hh (yv_assign rfl) ?_; clear hf a; intro a hf
         refine o_end ?_
         refine sy_seq ?_
         refine sy_sq ?_
         refine o_v hf hh (yv_move rfl) ?_; clear hf a; intro a hf
         refine o_v hf hh (yv_bin rfl rfl rfl) ?_; clear hf a; intro a hf
         refine o_end ?_
         refine sy_cond hf rfl (fun hg66 => ?_) (fun hg66 => ?_)
         ·have hG66 := hg66; try simp only [gS] at hG66
          refine sy_seq ?_
          refine sy_seq ?_
          obtain ⟨h41, h42⟩ := hE4 (by omega)
          rw [h42] at hh
          refine sy_ops ?_
          refine o_v hf hh (yv_move rfl) ?_; clear hf a; intro a hf
          refine o_v hf hh (yv_bin rfl rfl rfl) ?_; clear hf a; intro a hf
          refine o_v hf hh (yv_move rfl) ?_; clear hf a; intro a hf
          refine o_v hf hh (y_lds Tryd.ag_24 rfl) ?_; clear hf a; intro a hf
          refine o_v hf hh (yv_buildS Tryd.bs_24 rfl rfl) ?_; clear hf a; intro a hf
          refine o_v hf hh (yv_neF [0, 0] [0, 0] fl24 rfl rfl) ?_; clear hf a; intro a hf
          refine o_v hf hh (y_pf rfl rfl) ?_; clear hf a; intro a hf
          refine o_end ?_
          refine c_f hf ?_
          refine sy_skip ?_
          refine then_n ?_
          refine sy_exit ?_
          refine then_e ?_
          refine blk_e ?_
          refine then_n ?_
          refine sy_ops ?_
          refine o_v hf hh (y_add rfl rfl) ?_; clear hf a; intro a hf
          refine o_v hf hh (yv_move rfl) ?_; clear hf a; intro a hf
          refine ops_end ?_
          refine then_n ?_
          exact ⟨i + 1, ⟨⟨by omega, hh.less (List.nil_sublist _)⟩, hf.head ⟨rfl, rfl, True.intro⟩ (Keep.cons rfl (Keep.cons rfl (Keep.cons rfl (Keep.cons rfl (Keep.cons rfl (Keep.cons rfl (Keep.cons rfl (Keep.cons rfl (Keep.cons rfl (Keep.cons rfl (Keep.cons rfl (Keep.cons rfl (Keep.cons rfl (Keep.cons rfl (Keep.cons rfl (Keep.cons rfl (Keep.cons rfl (Keep.cons rfl (Keep.cons rfl (Keep.app rfl (Keep.rm rfl (Keep.app rfl (Keep.rm rfl (Keep.app rfl (Keep.rm rfl (Keep.cons rfl (Keep.cons rfl (Keep.cons rfl (Keep.cons rfl (Keep.cons rfl (Keep.cons rfl (Keep.cons rfl (Keep.cons rfl (Keep.cons rfl (Keep.cons rfl (Keep.app rfl (Keep.rm rfl Keep.base)))))))))))))))))))))))))))))))))))))⟩, by omega⟩
         ·have hG66 := hg66; try simp only [gS] at hG66
          refine sy_skip ?_
          refine then_n ?_
          refine sy_seq ?_
          have h5 := hE5 (by omega)
          refine sy_ops ?_
          refine o_v hf hh (yv_buildS Tryd.bs_24 rfl rfl) ?_; clear hf a; intro a hf
          refine o_alloc hf hh Tryd.ze_24 ?_; clear hf hh a; intro B16 a w hf hh
          refine o_store hf hh Tryd.sz_24 fun w hh => ?_
          refine o_v hf hh (yv_assign rfl) ?_; clear hf a; intro a hf
          refine o_end ?_
          refine sy_seq ?_
          refine sy_sq ?_
          refine o_v hf hh (yv_fieldAddr Tryd.fo_26_1 rfl) ?_; clear hf a; intro a hf
          refine o_v hf hh (y_ld Tryd.sc_22 rfl) ?_; clear hf a; intro a hf
          refine o_v hf hh (yv_len Tryd.se_22 rfl) ?_; clear hf a; intro a hf
          refine o_v hf hh (yv_move rfl) ?_; clear hf a; intro a hf
          refine o_end ?_
          refine sy_block ?_
          refine sy_loopH (σ := Nat) [2, 17, 18, 19, 206, 207, 208, 209, 210, 211, 212, 213, 214, 215, 216, 217, 218, 219, 220, 221, 222, 223, 224, 225, 226, 227, 228, 229, 230, 231, 232, 233, 234, 235, 236, 237] (fun k => [(17, .bool (endsF (fun k => (canS d i).testBit k) (shiftD d i) k).isSome), (206, .int .i64 k)]) (fun k => fun w' => k ≤ d.r.length ∧ Hp u2 [] [(B16, .cells #[.int .i64 ((endsF (fun k => (canS d i).testBit k) (shiftD d i) k).getD (0, 0)).1, .int .i64 ((endsF (fun k => (canS d i).testBit k) (shiftD d i) k).getD (0, 0)).2] 24), (B14, .cells #[.int .i64 (shiftV d i).1, .int .i64 (shiftV d i).2] 24)] w') (fun k => d.r.length - k) (0) hf ?_ ?_ ?_
          · repeat' (first | exact True.intro | refine And.intro rfl ?_)
          · exact ⟨Nat.zero_le _, hh⟩
          ·rintro k a w ⟨hk, hh⟩ hf
           refine sy_sq ?_
           refine o_v hf hh (yv_bin rfl rfl rfl) ?_; clear hf a; intro a hf
           refine o_end ?_
           refine sy_seq ?_
           refine sy_cond hf rfl (fun hg69 => ?_) (fun hg69 => ?_)
           ·have hG69 := hg69; try simp only [gS] at hG69
            refine sy_skip ?_
            refine then_n ?_
            refine sy_seq ?_
            refine sy_block ?_
            refine sy_sq ?_
            refine o_v hf hh (yv_move rfl) ?_; clear hf a; intro a hf
            refine o_v hf hh (yv_assign rfl) ?_; clear hf a; intro a hf
            refine o_end ?_
            refine sy_seq ?_
            refine sy_sq ?_
            refine o_v hf hh (yv_move rfl) ?_; clear hf a; intro a hf
            refine o_v hf hh (yv_move rfl) ?_; clear hf a; intro a hf
            refine o_v hf hh (yv_shrN rfl rfl) ?_; clear hf a; intro a hf
            refine o_v hf hh (yv_and1 rfl rfl (by omega)) ?_; clear hf a; intro a hf
            refine o_v hf hh (yv_bit0 rfl rfl) ?_; clear hf a; intro a hf
            refine o_end ?_
            refine sy_cond hf rfl (fun hg73 => ?_) (fun hg73 => ?_)
            ·have hG73 := hg73; try simp only [gS] at hG73
             refine sy_exit ?_
             refine then_e ?_
             refine blk_e ?_
             refine then_n ?_
             refine sy_ops ?_
             refine o_v hf hh (y_add rfl rfl) ?_; clear hf a; intro a hf
             refine o_v hf hh (yv_move rfl) ?_; clear hf a; intro a hf
             refine ops_end ?_
             refine then_n ?_
             first
               | (have hkb : (canS d i).testBit k = false := by simp_all
                  have hst := endsF_step (p := fun k => (canS d i).testBit k) (f := shiftD d i) (n := k)
                  rw [if_neg (by rw [hkb]; simp)] at hst
                  exact ⟨k + 1, ⟨⟨by omega, by rw [hst]; exact hh⟩, hf.head ⟨congrArg (fun z : Option (Int × Int) => some (Value.bool z.isSome)) hst.symm, rfl, True.intro⟩ (Keep.cons rfl (Keep.cons rfl (Keep.cons rfl (Keep.cons rfl (Keep.cons rfl (Keep.cons rfl (Keep.cons rfl (Keep.cons rfl (Keep.cons rfl (Keep.cons rfl (Keep.app rfl (Keep.rm rfl Keep.base))))))))))))⟩, by omega⟩)
               | (have hst2 : (endsF (fun k => (canS d i).testBit k) (shiftD d i)) (k + 1) = some (shiftD d i k) := hst
                  have m1 : min (shiftD d i k).1 (shiftD d i k).1 = (shiftD d i k).1 := by omega
                  have m2 : max (shiftD d i k).2 (shiftD d i k).2 = (shiftD d i k).2 := by omega
                  rw [m1, m2] at hh
                  exact ⟨k + 1, ⟨⟨by omega, by rw [hst2]; exact hh.less (.cons _ (.refl _))⟩, hf.head ⟨congrArg (fun z : Option (Int × Int) => some (Value.bool z.isSome)) hst2.symm, rfl, True.intro⟩ (Keep.cons rfl (Keep.cons rfl (Keep.cons rfl (Keep.cons rfl (Keep.cons rfl (Keep.cons rfl (Keep.cons rfl (Keep.cons rfl (Keep.cons rfl (Keep.cons rfl (Keep.app rfl (Keep.rm rfl Keep.base))))))))))))⟩, by omega⟩)
               | (obtain ⟨e, he⟩ : ∃ e, (endsF (fun k => (canS d i).testBit k) (shiftD d i)) k = some e := Option.isSome_iff_exists.1 (by assumption)
                  rw [he] at hst hh
                  have hst2 : (endsF (fun k => (canS d i).testBit k) (shiftD d i)) (k + 1) = some (min e.1 (shiftD d i k).1, max e.2 (shiftD d i k).2) := hst
                  exact ⟨k + 1, ⟨⟨by omega, by rw [hst2]; exact hh.less (.cons _ (.refl _))⟩, hf.head ⟨congrArg (fun z : Bool => some (Value.bool z)) (show ((endsF (fun k => (canS d i).testBit k) (shiftD d i)) k).isSome = ((endsF (fun k => (canS d i).testBit k) (shiftD d i)) (k + 1)).isSome by rw [he, hst2]; rfl), rfl, True.intro⟩ (Keep.cons rfl (Keep.cons rfl (Keep.cons rfl (Keep.cons rfl (Keep.cons rfl (Keep.cons rfl (Keep.cons rfl (Keep.cons rfl (Keep.cons rfl (Keep.cons rfl (Keep.app rfl (Keep.rm rfl Keep.base))))))))))))⟩, by omega⟩)
            ·have hG73 := hg73; try simp only [gS] at hG73
             refine sy_skip ?_
             refine then_n ?_
             refine sy_seq ?_
             have hkb : (canS d i).testBit k = true := by simp_all
             have hcf := can_fit hkb
             have hrf := refSh_fit hV hil hcf.1
             have hre := hrf.2 hcf.2
             have hle : (shiftD d i k).1 ≤ (shiftD d i k).2 := by
               have := hrf.1; rw [hcf.2, decide_eq_true_eq, hre] at this; exact this
             have hst := endsF_step (p := fun k => (canS d i).testBit k) (f := shiftD d i) (n := k)
             rw [if_pos hkb] at hst
             refine sy_ops ?_
             refine o_v hf hh (y_lds Tryd.ag_26 rfl) ?_; clear hf a; intro a hf
             refine o_v hf hh (yv_move rfl) ?_; clear hf a; intro a hf
             refine o_v hf hh (yv_move rfl) ?_; clear hf a; intro a hf
             refine o_call hf Tryd.en_40 rfl rfl rfl (c40 d sa sb ca cb _ (hA2.ext hh.ext) (hB2.ext hh.ext) hV i k hil hcf.1) ?_; clear hf a; intro v a w hR hf
             rw [hre] at hR
             obtain ⟨rfl, hx⟩ := hR; replace hh := hh.more hx; clear hx
             refine o_alloc hf hh Tryd.ze_24 ?_; clear hf hh a; intro B19 a w hf hh
             refine o_store hf hh Tryd.sz_24 fun w hh => ?_
             refine o_end ?_
             refine sy_seq ?_
             refine sy_sq ?_
             refine o_v hf hh (yv_fieldAddr Tryd.fo_24_0 rfl) ?_; clear hf a; intro a hf
             refine o_v hf hh (y_ld Tryd.sc_3 rfl) ?_; clear hf a; intro a hf
             refine o_v hf hh (yv_fieldAddr Tryd.fo_24_1 rfl) ?_; clear hf a; intro a hf
             refine o_v hf hh (y_ld Tryd.sc_3 rfl) ?_; clear hf a; intro a hf
             refine o_v hf hh (yv_bin rfl rfl rfl) ?_; clear hf a; intro a hf
             refine o_end ?_
             refine c_f hf ?_
             refine sy_skip ?_
             refine then_n ?_
             refine sy_seq ?_
             refine sy_sq ?_
             refine o_v hf hh (yv_move rfl) ?_; clear hf a; intro a hf
             refine o_v hf hh (yv_not rfl) ?_; clear hf a; intro a hf
             refine o_end ?_
             refine sy_cond hf rfl (fun hg77 => ?_) (fun hg77 => ?_)
             ·have hG77 := hg77; try simp only [gS] at hG77
              have hn : endsF (fun k => (canS d i).testBit k) (shiftD d i) k = none := by simpa using (by assumption : (endsF (fun k => (canS d i).testBit k) (shiftD d i) k).isSome = false)
              rw [hn] at hh hst
              refine sy_ops ?_
              refine o_v hf hh (y_lds Tryd.ag_24 rfl) ?_; clear hf a; intro a hf
              refine o_store hf hh Tryd.sz_24 fun w hh => ?_
              refine o_v hf hh (yv_assign rfl) ?_; clear hf a; intro a hf
              refine o_end ?_
              refine sy_ops ?_
              refine o_v hf hh (yv_fieldAddr Tryd.fo_24_0 rfl) ?_; clear hf a; intro a hf
              refine o_v hf hh (y_ld Tryd.sc_3 rfl) ?_; clear hf a; intro a hf
              refine o_v hf hh (yv_fieldAddr Tryd.fo_24_0 rfl) ?_; clear hf a; intro a hf
              refine o_v hf hh (y_ld Tryd.sc_3 rfl) ?_; clear hf a; intro a hf
              refine o_v hf hh (yv_min rfl rfl) ?_; clear hf a; intro a hf
              refine o_v hf hh (yv_fieldAddr Tryd.fo_24_1 rfl) ?_; clear hf a; intro a hf
              refine o_v hf hh (y_ld Tryd.sc_3 rfl) ?_; clear hf a; intro a hf
              refine o_v hf hh (yv_fieldAddr Tryd.fo_24_1 rfl) ?_; clear hf a; intro a hf
              refine o_v hf hh (y_ld Tryd.sc_3 rfl) ?_; clear hf a; intro a hf
              refine o_v hf hh (yv_max rfl rfl) ?_; clear hf a; intro a hf
              refine o_call hf Tryd.en_29 rfl rfl rfl (c29 _ _ _) ?_; clear hf a; intro v a w hR hf
              obtain ⟨rfl, hx⟩ := hR; replace hh := hh.more hx; clear hx
              refine o_store hf hh Tryd.sz_24 fun w hh => ?_
              refine ops_end ?_
              refine blk_n ?_
              refine then_n ?_
              refine sy_ops ?_
              refine o_v hf hh (y_add rfl rfl) ?_; clear hf a; intro a hf
              refine o_v hf hh (yv_move rfl) ?_; clear hf a; intro a hf
              refine ops_end ?_
              refine then_n ?_
              first
                | (have hkb : (canS d i).testBit k = false := by simp_all
                   have hst := endsF_step (p := fun k => (canS d i).testBit k) (f := shiftD d i) (n := k)
                   rw [if_neg (by rw [hkb]; simp)] at hst
                   exact ⟨k + 1, ⟨⟨by omega, by rw [hst]; exact hh⟩, hf.head ⟨congrArg (fun z : Option (Int × Int) => some (Value.bool z.isSome)) hst.symm, rfl, True.intro⟩ (Keep.cons rfl (Keep.cons rfl (Keep.cons rfl (Keep.cons rfl (Keep.cons rfl (Keep.cons rfl (Keep.cons rfl (Keep.cons rfl (Keep.cons rfl (Keep.cons rfl (Keep.cons rfl (Keep.cons rfl (Keep.cons rfl (Keep.cons rfl (Keep.cons rfl (Keep.cons rfl (Keep.cons rfl (Keep.cons rfl (Keep.cons rfl (Keep.cons rfl (Keep.cons rfl (Keep.cons rfl (Keep.cons rfl (Keep.cons rfl (Keep.cons rfl (Keep.cons rfl (Keep.cons rfl (Keep.cons rfl (Keep.cons rfl (Keep.cons rfl (Keep.cons rfl (Keep.cons rfl (Keep.cons rfl (Keep.cons rfl (Keep.cons rfl (Keep.app rfl (Keep.rm rfl Keep.base)))))))))))))))))))))))))))))))))))))⟩, by omega⟩)
                | (have hst2 : (endsF (fun k => (canS d i).testBit k) (shiftD d i)) (k + 1) = some (shiftD d i k) := hst
                   have m1 : min (shiftD d i k).1 (shiftD d i k).1 = (shiftD d i k).1 := by omega
                   have m2 : max (shiftD d i k).2 (shiftD d i k).2 = (shiftD d i k).2 := by omega
                   rw [m1, m2] at hh
                   exact ⟨k + 1, ⟨⟨by omega, by rw [hst2]; exact hh.less (.cons _ (.refl _))⟩, hf.head ⟨congrArg (fun z : Option (Int × Int) => some (Value.bool z.isSome)) hst2.symm, rfl, True.intro⟩ (Keep.cons rfl (Keep.cons rfl (Keep.cons rfl (Keep.cons rfl (Keep.cons rfl (Keep.cons rfl (Keep.cons rfl (Keep.cons rfl (Keep.cons rfl (Keep.cons rfl (Keep.cons rfl (Keep.cons rfl (Keep.cons rfl (Keep.cons rfl (Keep.cons rfl (Keep.cons rfl (Keep.cons rfl (Keep.cons rfl (Keep.cons rfl (Keep.cons rfl (Keep.cons rfl (Keep.cons rfl (Keep.cons rfl (Keep.cons rfl (Keep.cons rfl (Keep.cons rfl (Keep.cons rfl (Keep.cons rfl (Keep.cons rfl (Keep.cons rfl (Keep.cons rfl (Keep.cons rfl (Keep.cons rfl (Keep.cons rfl (Keep.cons rfl (Keep.app rfl (Keep.rm rfl Keep.base)))))))))))))))))))))))))))))))))))))⟩, by omega⟩)
                | (obtain ⟨e, he⟩ : ∃ e, (endsF (fun k => (canS d i).testBit k) (shiftD d i)) k = some e := Option.isSome_iff_exists.1 (by assumption)
                   rw [he] at hst hh
                   have hst2 : (endsF (fun k => (canS d i).testBit k) (shiftD d i)) (k + 1) = some (min e.1 (shiftD d i k).1, max e.2 (shiftD d i k).2) := hst
                   exact ⟨k + 1, ⟨⟨by omega, by rw [hst2]; exact hh.less (.cons _ (.refl _))⟩, hf.head ⟨congrArg (fun z : Bool => some (Value.bool z)) (show ((endsF (fun k => (canS d i).testBit k) (shiftD d i)) k).isSome = ((endsF (fun k => (canS d i).testBit k) (shiftD d i)) (k + 1)).isSome by rw [he, hst2]; rfl), rfl, True.intro⟩ (Keep.cons rfl (Keep.cons rfl (Keep.cons rfl (Keep.cons rfl (Keep.cons rfl (Keep.cons rfl (Keep.cons rfl (Keep.cons rfl (Keep.cons rfl (Keep.cons rfl (Keep.cons rfl (Keep.cons rfl (Keep.cons rfl (Keep.cons rfl (Keep.cons rfl (Keep.cons rfl (Keep.cons rfl (Keep.cons rfl (Keep.cons rfl (Keep.cons rfl (Keep.cons rfl (Keep.cons rfl (Keep.cons rfl (Keep.cons rfl (Keep.cons rfl (Keep.cons rfl (Keep.cons rfl (Keep.cons rfl (Keep.cons rfl (Keep.cons rfl (Keep.cons rfl (Keep.cons rfl (Keep.cons rfl (Keep.cons rfl (Keep.cons rfl (Keep.app rfl (Keep.rm rfl Keep.base)))))))))))))))))))))))))))))))))))))⟩, by omega⟩)
             ·have hG77 := hg77; try simp only [gS] at hG77
              refine sy_skip ?_
              refine then_n ?_
              refine sy_ops ?_
              refine o_v hf hh (yv_fieldAddr Tryd.fo_24_0 rfl) ?_; clear hf a; intro a hf
              refine o_v hf hh (y_ld Tryd.sc_3 rfl) ?_; clear hf a; intro a hf
              refine o_v hf hh (yv_fieldAddr Tryd.fo_24_0 rfl) ?_; clear hf a; intro a hf
              refine o_v hf hh (y_ld Tryd.sc_3 rfl) ?_; clear hf a; intro a hf
              refine o_v hf hh (yv_min rfl rfl) ?_; clear hf a; intro a hf
              refine o_v hf hh (yv_fieldAddr Tryd.fo_24_1 rfl) ?_; clear hf a; intro a hf
              refine o_v hf hh (y_ld Tryd.sc_3 rfl) ?_; clear hf a; intro a hf
              refine o_v hf hh (yv_fieldAddr Tryd.fo_24_1 rfl) ?_; clear hf a; intro a hf
              refine o_v hf hh (y_ld Tryd.sc_3 rfl) ?_; clear hf a; intro a hf
              refine o_v hf hh (yv_max rfl rfl) ?_; clear hf a; intro a hf
              refine o_call hf Tryd.en_29 rfl rfl rfl (c29 _ _ _) ?_; clear hf a; intro v a w hR hf
              obtain ⟨rfl, hx⟩ := hR; replace hh := hh.more hx; clear hx
              refine o_store hf hh Tryd.sz_24 fun w hh => ?_
              refine ops_end ?_
              refine blk_n ?_
              refine then_n ?_
              refine sy_ops ?_
              refine o_v hf hh (y_add rfl rfl) ?_; clear hf a; intro a hf
              refine o_v hf hh (yv_move rfl) ?_; clear hf a; intro a hf
              refine ops_end ?_
              refine then_n ?_
              first
                | (have hkb : (canS d i).testBit k = false := by simp_all
                   have hst := endsF_step (p := fun k => (canS d i).testBit k) (f := shiftD d i) (n := k)
                   rw [if_neg (by rw [hkb]; simp)] at hst
                   exact ⟨k + 1, ⟨⟨by omega, by rw [hst]; exact hh⟩, hf.head ⟨congrArg (fun z : Option (Int × Int) => some (Value.bool z.isSome)) hst.symm, rfl, True.intro⟩ (Keep.cons rfl (Keep.cons rfl (Keep.cons rfl (Keep.cons rfl (Keep.cons rfl (Keep.cons rfl (Keep.cons rfl (Keep.cons rfl (Keep.cons rfl (Keep.cons rfl (Keep.cons rfl (Keep.cons rfl (Keep.cons rfl (Keep.cons rfl (Keep.cons rfl (Keep.cons rfl (Keep.cons rfl (Keep.cons rfl (Keep.cons rfl (Keep.cons rfl (Keep.cons rfl (Keep.cons rfl (Keep.cons rfl (Keep.cons rfl (Keep.cons rfl (Keep.cons rfl (Keep.cons rfl (Keep.cons rfl (Keep.cons rfl (Keep.cons rfl (Keep.cons rfl (Keep.cons rfl (Keep.cons rfl (Keep.app rfl (Keep.rm rfl Keep.base)))))))))))))))))))))))))))))))))))⟩, by omega⟩)
                | (have hst2 : (endsF (fun k => (canS d i).testBit k) (shiftD d i)) (k + 1) = some (shiftD d i k) := hst
                   have m1 : min (shiftD d i k).1 (shiftD d i k).1 = (shiftD d i k).1 := by omega
                   have m2 : max (shiftD d i k).2 (shiftD d i k).2 = (shiftD d i k).2 := by omega
                   rw [m1, m2] at hh
                   exact ⟨k + 1, ⟨⟨by omega, by rw [hst2]; exact hh.less (.cons _ (.refl _))⟩, hf.head ⟨congrArg (fun z : Option (Int × Int) => some (Value.bool z.isSome)) hst2.symm, rfl, True.intro⟩ (Keep.cons rfl (Keep.cons rfl (Keep.cons rfl (Keep.cons rfl (Keep.cons rfl (Keep.cons rfl (Keep.cons rfl (Keep.cons rfl (Keep.cons rfl (Keep.cons rfl (Keep.cons rfl (Keep.cons rfl (Keep.cons rfl (Keep.cons rfl (Keep.cons rfl (Keep.cons rfl (Keep.cons rfl (Keep.cons rfl (Keep.cons rfl (Keep.cons rfl (Keep.cons rfl (Keep.cons rfl (Keep.cons rfl (Keep.cons rfl (Keep.cons rfl (Keep.cons rfl (Keep.cons rfl (Keep.cons rfl (Keep.cons rfl (Keep.cons rfl (Keep.cons rfl (Keep.cons rfl (Keep.cons rfl (Keep.app rfl (Keep.rm rfl Keep.base)))))))))))))))))))))))))))))))))))⟩, by omega⟩)
                | (obtain ⟨e, he⟩ : ∃ e, (endsF (fun k => (canS d i).testBit k) (shiftD d i)) k = some e := Option.isSome_iff_exists.1 (by assumption)
                   rw [he] at hst hh
                   have hst2 : (endsF (fun k => (canS d i).testBit k) (shiftD d i)) (k + 1) = some (min e.1 (shiftD d i k).1, max e.2 (shiftD d i k).2) := hst
                   exact ⟨k + 1, ⟨⟨by omega, by rw [hst2]; exact hh.less (.cons _ (.refl _))⟩, hf.head ⟨congrArg (fun z : Bool => some (Value.bool z)) (show ((endsF (fun k => (canS d i).testBit k) (shiftD d i)) k).isSome = ((endsF (fun k => (canS d i).testBit k) (shiftD d i)) (k + 1)).isSome by rw [he, hst2]; rfl), rfl, True.intro⟩ (Keep.cons rfl (Keep.cons rfl (Keep.cons rfl (Keep.cons rfl (Keep.cons rfl (Keep.cons rfl (Keep.cons rfl (Keep.cons rfl (Keep.cons rfl (Keep.cons rfl (Keep.cons rfl (Keep.cons rfl (Keep.cons rfl (Keep.cons rfl (Keep.cons rfl (Keep.cons rfl (Keep.cons rfl (Keep.cons rfl (Keep.cons rfl (Keep.cons rfl (Keep.cons rfl (Keep.cons rfl (Keep.cons rfl (Keep.cons rfl (Keep.cons rfl (Keep.cons rfl (Keep.cons rfl (Keep.cons rfl (Keep.cons rfl (Keep.cons rfl (Keep.cons rfl (Keep.cons rfl (Keep.cons rfl (Keep.app rfl (Keep.rm rfl Keep.base)))))))))))))))))))))))))))))))))))⟩, by omega⟩)
           ·have hG69 := hg69; try simp only [gS] at hG69
            refine sy_exit ?_
            refine then_e ?_
            refine then_e ?_
            refine blk_e ?_
            refine then_n ?_
            refine sy_seq ?_
            have hke : k = d.r.length := by omega
            subst hke
            have hfin : (endsF (fun k => (canS d i).testBit k) (shiftD d i) d.r.length).getD (0, 0) = shiftV d i := by rw [hV0]; rfl
            rw [hfin] at hh
            refine sy_ops ?_
            refine o_v hf hh (yv_move rfl) ?_; clear hf a; intro a hf
            refine o_v hf hh (yv_bin rfl rfl rfl) ?_; clear hf a; intro a hf
            refine o_v hf hh (yv_move rfl) ?_; clear hf a; intro a hf
            refine o_v hf hh (y_lds Tryd.ag_24 rfl) ?_; clear hf a; intro a hf
            refine o_v hf hh (y_lds Tryd.ag_24 rfl) ?_; clear hf a; intro a hf
            refine o_v hf hh (yv_neF [(shiftV d i).1, (shiftV d i).2] [(shiftV d i).1, (shiftV d i).2] fl24 rfl rfl) ?_; clear hf a; intro a hf
            refine o_v hf hh (y_pf rfl rfl) ?_; clear hf a; intro a hf
            refine o_end ?_
            refine c_f hf ?_
            refine sy_skip ?_
            refine blk_n ?_
            refine then_n ?_
            refine sy_ops ?_
            refine o_v hf hh (y_add rfl rfl) ?_; clear hf a; intro a hf
            refine o_v hf hh (yv_move rfl) ?_; clear hf a; intro a hf
            refine ops_end ?_
            refine then_n ?_
            exact ⟨i + 1, ⟨⟨by omega, hh.less (List.nil_sublist _)⟩, hf.head ⟨rfl, rfl, True.intro⟩ (Keep.cons rfl (Keep.cons rfl (Keep.cons rfl (Keep.cons rfl (Keep.cons rfl (Keep.cons rfl (Keep.cons rfl (Keep.cons rfl (Keep.cons rfl (Keep.cons rfl (Keep.app rfl (Keep.rm rfl (Keep.cons rfl (Keep.cons rfl (Keep.cons rfl (Keep.cons rfl (Keep.cons rfl (Keep.cons rfl (Keep.cons rfl (Keep.cons rfl (Keep.cons rfl (Keep.cons rfl (Keep.cons rfl (Keep.cons rfl (Keep.cons rfl (Keep.cons rfl (Keep.cons rfl (Keep.cons rfl (Keep.cons rfl (Keep.app rfl (Keep.rm rfl (Keep.app rfl (Keep.rm rfl (Keep.app rfl (Keep.rm rfl (Keep.cons rfl (Keep.cons rfl (Keep.cons rfl (Keep.cons rfl (Keep.cons rfl (Keep.cons rfl (Keep.cons rfl (Keep.cons rfl (Keep.cons rfl (Keep.cons rfl (Keep.app rfl (Keep.rm rfl Keep.base)))))))))))))))))))))))))))))))))))))))))))))))⟩, by omega⟩
     ·have hG36 := hg36; try simp only [gS] at hG36
      refine sy_exit ?_
      refine then_e ?_
      refine then_e ?_
      refine blk_e ?_
      refine then_n ?_
      refine sy_seq ?_
      refine sy_seq ?_
      have hie : i = d.l.length := by omega
      subst hie
      have hal := allS_lt hnr d.l.length
      refine sy_ops ?_
      refine o_v hf hh (yv_fieldAddr Tryd.fo_26_1 rfl) ?_; clear hf a; intro a hf
      refine o_v hf hh (y_ld Tryd.sc_22 rfl) ?_; clear hf a; intro a hf
      refine o_v hf hh (yv_len Tryd.se_22 rfl) ?_; clear hf a; intro a hf
      refine o_v hf hh (yv_move rfl) ?_; clear hf a; intro a hf
      refine o_end ?_
      refine sy_block ?_
      refine sy_loopF (σ := Nat) [2, 20, 249, 250, 251, 252, 253, 254, 255, 256, 257, 258, 259, 260, 261, 262, 263, 264] (fun k => [(249, .int .i64 k)]) (fun k => k ≤ d.r.length) (fun k => d.r.length - k) (0) hf hh ?_ ?_ ?_
      · repeat' (first | exact True.intro | refine And.intro rfl ?_)
      · first | exact True.intro | omega | (simp; omega) | simp
      ·rintro k a w hk hf hh
       refine sy_sq ?_
       refine o_v hf hh (yv_bin rfl rfl rfl) ?_; clear hf a; intro a hf
       refine o_end ?_
       refine sy_seq ?_
       refine sy_cond hf rfl (fun hg82 => ?_) (fun hg82 => ?_)
       ·have hG82 := hg82; try simp only [gS] at hG82
        refine sy_skip ?_
        refine then_n ?_
        refine sy_seq ?_
        refine sy_block ?_
        refine sy_sq ?_
        refine o_v hf hh (yv_move rfl) ?_; clear hf a; intro a hf
        refine o_v hf hh (yv_assign rfl) ?_; clear hf a; intro a hf
        refine o_end ?_
        refine sy_sq ?_
        refine o_v hf hh (yv_move rfl) ?_; clear hf a; intro a hf
        refine o_v hf hh (yv_move rfl) ?_; clear hf a; intro a hf
        refine o_v hf hh (yv_shrN rfl rfl) ?_; clear hf a; intro a hf
        refine o_v hf hh (yv_and1 rfl rfl (by omega)) ?_; clear hf a; intro a hf
        refine o_v hf hh (yv_bit0 rfl rfl) ?_; clear hf a; intro a hf
        refine o_v hf hh (yv_move rfl) ?_; clear hf a; intro a hf
        refine guard_split hf (t := 257) rfl (fun hg86 => ?_) (fun hg86 => ?_)
        ·have hG86 := hg86; try simp only [gS] at hG86
         have hkr : (!(hideB d).testBit k) = false := by
           rw [hideB_bit, can_or_hidR his (allS_bit d k d.l.length (by simp_all)), decide_eq_true (p := k < d.r.length) (by omega)]; rfl
         refine o_v hf hh (yv_move rfl) ?_; clear hf a; intro a hf
         refine o_v hf hh (yv_move rfl) ?_; clear hf a; intro a hf
         refine o_v hf hh (yv_shrN rfl rfl) ?_; clear hf a; intro a hf
         refine o_v hf hh (yv_and1 rfl rfl (by omega)) ?_; clear hf a; intro a hf
         refine o_v hf hh (yv_bit0 rfl rfl) ?_; clear hf a; intro a hf
         refine o_v hf hh (y_pt rfl rfl) ?_; clear hf a; intro a hf
         refine o_end ?_
         refine c_f hf ?_
         refine sy_skip ?_
         refine blk_n ?_
         refine then_n ?_
         refine sy_ops ?_
         refine o_v hf hh (y_add rfl rfl) ?_; clear hf a; intro a hf
         refine o_v hf hh (yv_move rfl) ?_; clear hf a; intro a hf
         refine ops_end ?_
         refine then_n ?_
         exact ⟨k + 1, ⟨by omega, (hf.head (by repeat' (first | exact True.intro | refine And.intro rfl ?_)) (Keep.cons rfl (Keep.cons rfl (Keep.cons rfl (Keep.cons rfl (Keep.cons rfl (Keep.cons rfl (Keep.cons rfl (Keep.cons rfl (Keep.cons rfl (Keep.cons rfl (Keep.cons rfl (Keep.cons rfl (Keep.cons rfl (Keep.cons rfl (Keep.cons rfl (Keep.cons rfl (Keep.cons rfl (Keep.app rfl (Keep.rm rfl Keep.base)))))))))))))))))))), hh⟩, by omega⟩
        ·have hG86 := hg86; try simp only [gS] at hG86
         refine o_off hf ?_; clear hf a; intro a hf
         refine o_off hf ?_; clear hf a; intro a hf
         refine o_off hf ?_; clear hf a; intro a hf
         refine o_off hf ?_; clear hf a; intro a hf
         refine o_off hf ?_; clear hf a; intro a hf
         refine o_v hf hh (y_pf rfl rfl) ?_; clear hf a; intro a hf
         refine o_end ?_
         refine c_f hf ?_
         refine sy_skip ?_
         refine blk_n ?_
         refine then_n ?_
         refine sy_ops ?_
         refine o_v hf hh (y_add rfl rfl) ?_; clear hf a; intro a hf
         refine o_v hf hh (yv_move rfl) ?_; clear hf a; intro a hf
         refine ops_end ?_
         refine then_n ?_
         exact ⟨k + 1, ⟨by omega, (hf.head (by repeat' (first | exact True.intro | refine And.intro rfl ?_)) (Keep.cons rfl (Keep.cons rfl (Keep.cons rfl (Keep.cons rfl (Keep.cons rfl (Keep.cons rfl (Keep.cons rfl (Keep.cons rfl (Keep.cons rfl (Keep.cons rfl (Keep.cons rfl (Keep.cons rfl (Keep.cons rfl (Keep.cons rfl (Keep.cons rfl (Keep.cons rfl (Keep.cons rfl (Keep.app rfl (Keep.rm rfl Keep.base)))))))))))))))))))), hh⟩, by omega⟩
       ·have hG82 := hg82; try simp only [gS] at hG82
        refine sy_exit ?_
        refine then_e ?_
        refine then_e ?_
        refine blk_e ?_
        refine then_n ?_
        refine sy_sq ?_
        refine o_call hf Tryd.en_14 rfl rfl rfl (c14 _ (hT2.ext hh.ext (by simp))) ?_; clear hf a; intro v a w hR hf
        obtain ⟨rfl, hx⟩ := hR; replace hh := hh.more hx; clear hx
        refine o_v hf hh (yv_assign rfl) ?_; clear hf a; intro a hf
        refine o_end ?_
        refine sy_ret ?_
        refine ret_r hf rfl rfl ?_
        first
          | exact ⟨rfl, hh.ext⟩
          | exact ⟨rfl, he2.trans hh.ext⟩
end Go.Proofs.YtemmhdgaagaglaaDoor
namespace Go.Proofs.YtemmhdgaagaglaaDoor
open Go Go.Sy Go.MatM
set_option maxRecDepth 100000 in
set_option maxHeartbeats 4000000 in
theorem c10 (sy : Option Addr) (m : List Int) (cy : Nat) (u : World) (hY : FlatAt u .u16 sy 1 (m.map fun z => [z])) (hm : ∀ z ∈ m, 0 ≤ z ∧ z ≤ 65535) (ht : m.length ≤ 9223372036854775807) (hT : GTab u) : Calls Tryd.prog 10 #[.slice sy m.length cy] u (Ret fun v w' => v = .bool true ∧ Ext [] u w') := by
  refine calls_of Tryd.func10 rfl rfl (fun a hf => ?_)
  have hh := Hp.init u []
  refine sy_sq ?_
  refine o_v hf hh (yv_assign rfl) ?_; clear hf a; intro a hf
  refine o_end ?_
  refine sy_seq ?_
  refine sy_sq ?_
  refine o_v hf hh (yv_move rfl) ?_; clear hf a; intro a hf
  refine o_v hf hh (yv_len Tryd.se_62 rfl) ?_; clear hf a; intro a hf
  refine o_v hf hh (yv_bin rfl rfl rfl) ?_; clear hf a; intro a hf
  refine o_end ?_
  refine sy_cond hf rfl (fun hg2 => ?_) (fun hg2 => ?_)
  ·have hG2 := hg2; try simp only [gS] at hG2
   refine sy_sq ?_
   refine o_call hf Tryd.en_14 rfl rfl rfl (c14 _ (hT.ext hh.ext (by simp))) ?_; clear hf a; intro v a w hR hf
   obtain ⟨rfl, hx⟩ := hR; replace hh := hh.more hx; clear hx
   refine o_v hf hh (yv_assign rfl) ?_; clear hf a; intro a hf
   refine o_end ?_
   refine sy_ret ?_
   refine then_r ?_
   refine ret_r hf rfl rfl ?_
   first
     | exact ⟨rfl, hh.ext⟩
     | exact ⟨rfl, he2.trans hh.ext⟩
  ·have hG2 := hg2; try simp only [gS] at hG2
   refine sy_skip ?_
   refine then_n ?_
   refine sy_sq ?_
   refine o_v hf hh (yv_move rfl) ?_; clear hf a; intro a hf
   refine o_call hf Tryd.en_39 rfl rfl rfl (c39 sy m cy _ (hY.ext hh.ext) hm (by omega) ht) ?_; clear hf a; intro v a w hR hf
   obtain ⟨Bat, Bby, rfl, hbat, hDr, hBn, hx⟩ := hR; have hBu : u.heap.size ≤ Bat := Nat.le_trans hh.ext.size hBn
   replace hh := hh.more hx; clear hx
   refine o_call hf Tryd.en_38 rfl rfl rfl (c38 Bat Bby sy m.length cy 0 _ hDr hbat (by omega)) ?_; clear hf a; intro v a w hR hf
   obtain ⟨d, oa, ob, ca, cb, ps, sh, op, cp, os, cs, rfl, hMd, hV, hw, hA, hB, hP, hS, hx⟩ := hR; have he1 : Ext [] u w := ext_new hh.ext hx hBu
   obtain ⟨u1, rfl⟩ : ∃ z, z = w := ⟨_, rfl⟩
   replace hh := Hp.init u1 []
   have hT1 := hT.ext he1 (by simp)
   obtain ⟨h0, hc1, hc2⟩ := made_op hV hw
   have hnl := hV.nl; have hnr := hV.nr
   have hfw := made_few hV hw
   have hlc : (canL d).length = d.l.length := by simp [canL]
   have hls : (sureL d).length = d.l.length := by simp [sureL]
   have hpl := made_hid hMd
   refine o_v hf hh (yv_move rfl) ?_; clear hf a; intro a hf
   refine o_v hf hh (yv_extract rfl rfl) ?_; clear hf a; intro a hf
   refine o_v hf hh (yv_extract rfl rfl) ?_; clear hf a; intro a hf
   refine o_v hf hh (yv_extract rfl rfl) ?_; clear hf a; intro a hf
   refine o_alloc hf hh Tryd.ze_26 ?_; clear hf hh a; intro B3 a w hf hh
   refine o_store hf hh Tryd.sz_26 fun w hh => ?_
   refine o_v hf hh (yv_assign rfl) ?_; clear hf a; intro a hf
   refine o_v hf hh (yv_assign rfl) ?_; clear hf a; intro a hf
   refine o_end ?_
   refine sy_sq ?_
   refine o_v hf hh (y_lds Tryd.ag_26 rfl) ?_; clear hf a; intro a hf
   refine o_call hf Tryd.en_17 rfl rfl rfl (c17 d oa ob ca cb _ (hA.ext hh.ext) (hB.ext hh.ext)) ?_; clear hf a; intro v a w hR hf
   obtain ⟨rfl, hx⟩ := hR; replace hh := hh.more hx; clear hx
   refine o_v hf hh (yv_move rfl) ?_; clear hf a; intro a hf
   refine o_v hf hh (yv_extract rfl rfl) ?_; clear hf a; intro a hf
   refine o_v hf hh (yv_extract rfl rfl) ?_; clear hf a; intro a hf
   refine o_v hf hh (yv_assign rfl) ?_; clear hf a; intro a hf
   refine o_v hf hh (yv_assign rfl) ?_; clear hf a; intro a hf
   refine o_end ?_
   refine sy_sq ?_
   refine o_v hf hh (y_lds Tryd.ag_26 rfl) ?_; clear hf a; intro a hf
   refine o_call hf Tryd.en_19 rfl rfl rfl (c19 d oa ob ca cb _ (hA.ext hh.ext) (hB.ext hh.ext)) ?_; clear hf a; intro v a w hR hf
   obtain ⟨sv8, X8, rfl, _, hx⟩ := hR; replace hh := hh.more hx.ext; clear hx
   refine o_v hf hh (yv_move rfl) ?_; clear hf a; intro a hf
   refine o_v hf hh (yv_extract rfl rfl) ?_; clear hf a; intro a hf
   refine o_v hf hh (yv_extract rfl rfl) ?_; clear hf a; intro a hf
   refine o_v hf hh (yv_cast (yv_extract rfl rfl) (intv (b := 0) h0)) ?_; clear hf a; intro a hf
   refine o_v hf hh (yv_assign rfl) ?_; clear hf a; intro a hf
   refine o_v hf hh (yv_assign rfl) ?_; clear hf a; intro a hf
   refine o_v hf hh (yv_assign rfl) ?_; clear hf a; intro a hf
   refine o_end ?_
   refine sy_sq ?_
   refine o_v hf hh (y_lds Tryd.ag_26 rfl) ?_; clear hf a; intro a hf
   refine o_call hf Tryd.en_30 rfl rfl rfl (c30 d oa ob ca cb _ (hA.ext hh.ext) (hB.ext hh.ext)) ?_; clear hf a; intro v a w hR hf
   rw [if_pos h0] at hR
   rw [h0] at hR
   obtain ⟨sv11, X11, rfl, hown11, hx⟩ := hR; replace hh := (hh.join hx).perm List.perm_append_comm; clear hx
   obtain ⟨oa11, cap11, rfl⟩ := OwnSl_val hown11
   refine o_v hf hh (yv_move rfl) ?_; clear hf a; intro a hf
   refine o_v hf hh (yv_extract rfl rfl) ?_; clear hf a; intro a hf
   refine o_v hf hh (yv_extract rfl rfl) ?_; clear hf a; intro a hf
   refine o_v hf hh (yv_assign rfl) ?_; clear hf a; intro a hf
   refine o_v hf hh (yv_assign rfl) ?_; clear hf a; intro a hf
   refine o_end ?_
   refine sy_sq ?_
   refine o_v hf hh (y_lds Tryd.ag_26 rfl) ?_; clear hf a; intro a hf
   refine o_call hf Tryd.en_32 rfl rfl rfl (c32 d oa ob ca cb _ (hA.ext hh.ext) (hB.ext hh.ext) (hT1.ext hh.ext (by simp))) ?_; clear hf a; intro v a w hR hf
   rw [if_pos h0] at hR
   rw [h0] at hR
   obtain ⟨sv13, X13, rfl, hown13, hx⟩ := hR; replace hh := (hh.join hx).perm List.perm_append_comm; clear hx
   obtain ⟨oa13, cap13, rfl⟩ := OwnSl_val hown13
   refine o_v hf hh (yv_move rfl) ?_; clear hf a; intro a hf
   refine o_v hf hh (yv_extract rfl rfl) ?_; clear hf a; intro a hf
   refine o_v hf hh (yv_extract rfl rfl) ?_; clear hf a; intro a hf
   refine o_v hf hh (yv_assign rfl) ?_; clear hf a; intro a hf
   refine o_v hf hh (yv_assign rfl) ?_; clear hf a; intro a hf
   refine o_end ?_
   refine sy_sq ?_
   refine o_v hf hh (y_lds Tryd.ag_26 rfl) ?_; clear hf a; intro a hf
   refine o_call hf Tryd.en_34 rfl rfl rfl (c34 d oa ob ca cb _ (hA.ext hh.ext) (hB.ext hh.ext)) ?_; clear hf a; intro v a w hR hf
   rw [if_pos h0] at hR
   rw [if_pos h0] at hR
   rw [h0] at hR
   obtain ⟨rfl, hx⟩ := hR; replace hh := hh.more hx; clear hx
   refine o_v hf hh (yv_move rfl) ?_; clear hf a; intro a hf
   refine o_v hf hh (yv_extract rfl rfl) ?_; clear hf a; intro a hf
   refine o_v hf hh (yv_extract rfl rfl) ?_; clear hf a; intro a hf
   refine o_v hf hh (yv_extract rfl rfl) ?_; clear hf a; intro a hf
   refine o_v hf hh (yv_assign rfl) ?_; clear hf a; intro a hf
   refine o_v hf hh (yv_assign rfl) ?_; clear hf a; intro a hf
   refine o_v hf hh (yv_assign rfl) ?_; clear hf a; intro a hf
   refine o_end ?_
   refine sy_sq ?_
   refine o_v hf hh (yv_fieldAddr Tryd.fo_26_0 rfl) ?_; clear hf a; intro a hf
   refine o_v hf hh (y_ld Tryd.sc_22 rfl) ?_; clear hf a; intro a hf
   refine o_v hf hh (yv_len Tryd.se_22 rfl) ?_; clear hf a; intro a hf
   refine o_v hf hh (yv_fieldAddr Tryd.fo_26_1 rfl) ?_; clear hf a; intro a hf
   refine o_v hf hh (y_ld Tryd.sc_22 rfl) ?_; clear hf a; intro a hf
   refine o_v hf hh (yv_len Tryd.se_22 rfl) ?_; clear hf a; intro a hf
   refine o_v hf hh (y_add rfl rfl) ?_; clear hf a; intro a hf
   refine o_v hf hh (yv_move rfl) ?_; clear hf a; intro a hf
   refine o_v hf hh (yv_len Tryd.se_34 rfl) ?_; clear hf a; intro a hf
   refine o_v hf hh (y_mul rfl rfl) ?_; clear hf a; intro a hf
   refine o_v hf hh (y_sub rfl rfl) ?_; clear hf a; intro a hf
   refine o_v hf hh (yv_assign rfl) ?_; clear hf a; intro a hf
   refine o_end ?_
   refine sy_seq ?_
   refine sy_seq ?_
   have hfe : opE d true = 0 := h0
   refine sy_ops ?_
   refine o_v hf hh (yv_move rfl) ?_; clear hf a; intro a hf
   refine o_v hf hh (yv_bin rfl rfl rfl) ?_; clear hf a; intro a hf
   refine o_v hf hh (yv_move rfl) ?_; clear hf a; intro a hf
   refine o_v hf hh (yv_move rfl) ?_; clear hf a; intro a hf
   refine o_v hf hh (yv_bin rfl rfl rfl) ?_; clear hf a; intro a hf
   refine o_v hf hh (y_pf rfl rfl) ?_; clear hf a; intro a hf
   refine o_v hf hh (yv_move rfl) ?_; clear hf a; intro a hf
   refine o_v hf hh (yv_move rfl) ?_; clear hf a; intro a hf
   refine o_v hf hh (yv_bin rfl rfl rfl) ?_; clear hf a; intro a hf
   refine o_v hf hh (y_pf rfl rfl) ?_; clear hf a; intro a hf
   refine o_v hf hh (yv_move rfl) ?_; clear hf a; intro a hf
   refine o_v hf hh (yv_move rfl) ?_; clear hf a; intro a hf
   refine o_v hf hh (yv_move rfl) ?_; clear hf a; intro a hf
   refine o_v hf hh (yv_bin rfl rfl rfl) ?_; clear hf a; intro a hf
   refine o_v hf hh (y_pf rfl rfl) ?_; clear hf a; intro a hf
   refine o_v hf hh (yv_move rfl) ?_; clear hf a; intro a hf
   refine o_v hf hh (yv_move rfl) ?_; clear hf a; intro a hf
   refine o_v hf hh (yv_bin rfl rfl rfl) ?_; clear hf a; intro a hf
   refine o_v hf hh (y_pf rfl rfl) ?_; clear hf a; intro a hf
   refine o_v hf hh (yv_move rfl) ?_; clear hf a; intro a hf
   refine o_v hf hh (yv_move rfl) ?_; clear hf a; intro a hf
   refine o_v hf hh (yv_bin rfl rfl rfl) ?_; clear hf a; intro a hf
   refine o_v hf hh (y_pf rfl rfl) ?_; clear hf a; intro a hf
   refine o_v hf hh (yv_move rfl) ?_; clear hf a; intro a hf
   refine o_v hf hh (yv_move rfl) ?_; clear hf a; intro a hf
   refine o_v hf hh (yv_bin rfl rfl rfl) ?_; clear hf a; intro a hf
   refine o_v hf hh (y_pf rfl rfl) ?_; clear hf a; intro a hf
   refine o_v hf hh (yv_move rfl) ?_; clear hf a; intro a hf
   refine o_v hf hh (yv_move rfl) ?_; clear hf a; intro a hf
   refine o_v hf hh (yv_len Tryd.se_55 rfl) ?_; clear hf a; intro a hf
   refine o_v hf hh (yv_fieldAddr Tryd.fo_26_0 rfl) ?_; clear hf a; intro a hf
   refine o_v hf hh (y_ld Tryd.sc_22 rfl) ?_; clear hf a; intro a hf
   refine o_v hf hh (yv_len Tryd.se_22 rfl) ?_; clear hf a; intro a hf
   refine o_v hf hh (yv_bin rfl rfl rfl) ?_; clear hf a; intro a hf
   refine o_v hf hh (y_pf rfl rfl) ?_; clear hf a; intro a hf
   refine o_v hf hh (yv_move rfl) ?_; clear hf a; intro a hf
   refine o_v hf hh (yv_move rfl) ?_; clear hf a; intro a hf
   refine o_v hf hh (yv_len Tryd.se_55 rfl) ?_; clear hf a; intro a hf
   refine o_v hf hh (yv_fieldAddr Tryd.fo_26_0 rfl) ?_; clear hf a; intro a hf
   refine o_v hf hh (y_ld Tryd.sc_22 rfl) ?_; clear hf a; intro a hf
   refine o_v hf hh (yv_len Tryd.se_22 rfl) ?_; clear hf a; intro a hf
   refine o_v hf hh (yv_bin rfl rfl rfl) ?_; clear hf a; intro a hf
   refine o_v hf hh (y_pf rfl rfl) ?_; clear hf a; intro a hf
   refine o_end ?_
   refine c_f hf ?_
   refine sy_skip ?_
   refine then_n ?_
   refine sy_seq ?_
   have he2 := he1.trans hh.ext
   have hb3 := (show w.heap[B3]? = some (.cells (rowsV d oa ob ca cb).cells 26 (0, 0)) from hh.at (i := 0) rfl)
   have hA2 := hA.ext hh.ext
   have hB2 := hB.ext hh.ext
   have hP2 := hP.ext hh.ext
   have hS2 := hS.ext hh.ext
   have hT2 := hT1.ext hh.ext (by simp)
   have hv11 := valsAt_own hown11 fun x hx => hh.get x (by simp [hx])
   have hv13 := valsAt_own hown13 fun x hx => hh.get x (by simp [hx])
   obtain ⟨u2, rfl⟩ : ∃ z, z = w := ⟨_, rfl⟩
   replace hh := Hp.init u2 []
   
   refine sy_ops ?_
   refine o_v hf hh (yv_fieldAddr Tryd.fo_26_0 rfl) ?_; clear hf a; intro a hf
   refine o_v hf hh (y_ld Tryd.sc_22 rfl) ?_; clear hf a; intro a hf
   refine o_v hf hh (yv_len Tryd.se_22 rfl) ?_; clear hf a; intro a hf
   refine ops_make hf hh Tryd.eb_55 rfl rfl (by omega) (by omega) (.inl rfl) rfl ?_; clear hf hh a; intro B126 a w hf hh
   have hG0 := made_grid d.l.length
   refine o_v hf hh (yv_assign rfl) ?_; clear hf a; intro a hf
   refine o_end ?_
   refine sy_seq ?_
   refine sy_sq ?_
   refine o_v hf hh (yv_move rfl) ?_; clear hf a; intro a hf
   refine o_v hf hh (yv_len Tryd.se_55 rfl) ?_; clear hf a; intro a hf
   refine o_v hf hh (yv_move rfl) ?_; clear hf a; intro a hf
   refine o_end ?_
   refine sy_block ?_
   refine sy_loopH (σ := Nat) [20, 129, 130, 131, 132, 133, 134, 135] (fun j => [(129, .int .i64 (j : Nat))]) (fun j => fun w' => j ≤ d.l.length ∧ ∃ cG, Grid d.l.length 1 (fun x _ => if x < j then -1 else 0) cG ∧ Hp u2 [] [(B126, .cells cG 3)] w') (fun j => d.l.length - j) (0) hf ?_ ?_ ?_
   · repeat' (first | exact True.intro | refine And.intro rfl ?_)
   · exact ⟨Nat.zero_le _, _, hG0.congr (fun x k _ _ => by simp), hh⟩
   ·rintro j a w ⟨hj, cG, hG, hh⟩ hf
    refine sy_sq ?_
    refine o_v hf hh (yv_bin rfl rfl rfl) ?_; clear hf a; intro a hf
    refine o_end ?_
    refine sy_seq ?_
    refine sy_cond hf rfl (fun hg37 => ?_) (fun hg37 => ?_)
    ·have hG37 := hg37; try simp only [gS] at hG37
     refine sy_skip ?_
     refine then_n ?_
     refine sy_seq ?_
     refine sy_block ?_
     refine sy_seq ?_
     have hsz := hG.size
     refine sy_ops ?_
     refine o_v hf hh (yv_move rfl) ?_; clear hf a; intro a hf
     refine o_v hf hh (yv_assign rfl) ?_; clear hf a; intro a hf
     refine o_end ?_
     refine sy_ops ?_
     refine o_v hf hh (yv_move rfl) ?_; clear hf a; intro a hf
     refine o_v hf hh (yv_move rfl) ?_; clear hf a; intro a hf
     refine o_v hf hh (y_ix Tryd.se_55 rfl rfl) ?_; clear hf a; intro a hf
     refine o_store (i := 0) hf hh Tryd.sz_3 (hx := rfl) (hi := atI (i := 0) rfl) (hy := rfl) (hl := Nat.ble_eq_true_of_le (by rw [Int.toNat_natCast]; omega)) fun w hh => ?_
     refine ops_end ?_
     refine blk_n ?_
     refine then_n ?_
     refine sy_ops ?_
     refine o_v hf hh (y_add rfl rfl) ?_; clear hf a; intro a hf
     refine o_v hf hh (yv_move rfl) ?_; clear hf a; intro a hf
     refine ops_end ?_
     refine then_n ?_
     refine ⟨j + 1, ⟨⟨by omega, _, (hG.set (off := 0 + ((j : Nat) : Int).toNat * 1) (show j < d.l.length by omega) Nat.zero_lt_one (by rw [Int.toNat_natCast]; omega) (-1)).congr fun x k hx hk => ?_, hh⟩, hf.head ⟨rfl, True.intro⟩ (Keep.cons rfl (Keep.cons rfl (Keep.cons rfl (Keep.cons rfl (Keep.cons rfl (Keep.cons rfl (Keep.cons rfl (Keep.cons rfl (Keep.app rfl (Keep.rm rfl Keep.base))))))))))⟩, by omega⟩
     have hk0 : k = 0 := by omega
     subst hk0
     unfold updG
     by_cases e : x = j
     · subst e; rw [if_pos ⟨rfl, rfl⟩, if_pos (by omega)]
     · rw [if_neg (fun h => e h.1)]
       show (if x < j then (-1 : Int) else 0) = _
       by_cases h2 : x < j
       · rw [if_pos h2, if_pos (by omega)]
       · rw [if_neg h2, if_neg (by omega)]
    ·have hG37 := hg37; try simp only [gS] at hG37
     refine sy_exit ?_
     refine then_e ?_
     refine then_e ?_
     refine blk_e ?_
     refine then_n ?_
     refine sy_sq ?_
     refine o_v hf hh (yv_assign rfl) ?_; clear hf a; intro a hf
     refine o_end ?_
     refine sy_seq ?_
     refine sy_sq ?_
     refine o_v hf hh (yv_move rfl) ?_; clear hf a; intro a hf
     refine o_v hf hh (yv_len Tryd.se_34 rfl) ?_; clear hf a; intro a hf
     refine o_v hf hh (yv_move rfl) ?_; clear hf a; intro a hf
     refine o_end ?_
     refine sy_block ?_
     refine sy_loopH (σ := Nat) [2, 21, 22, 23, 24, 25, 26, 27, 138, 139, 140, 141, 142, 143, 144, 145, 146, 147, 148, 149, 150, 151, 152, 153, 154, 155, 156, 157, 158, 159, 160, 161, 162, 163, 164, 165, 166, 167, 168, 169, 170, 171, 172, 173, 174, 175, 176, 177, 178, 179, 180, 181, 182, 183, 184, 185, 186, 187, 188, 189, 190, 191, 192, 193, 194, 195, 196, 197, 198, 199, 200, 201, 202, 203, 204, 205, 206, 207, 208, 209, 210] (fun j => [(138, .int .i64 (j : Nat)), (21, .int .i64 ((seenC 0 (ps.take j) : Nat) : Int))]) (fun j => fun w' => j ≤ ps.length ∧ ∃ cG, Grid d.l.length 1 (fun x _ => parN ps x j) cG ∧ Hp u2 [] [(B126, .cells cG 3)] w') (fun j => ps.length - j) (0) hf ?_ ?_ ?_
     · repeat' (first | exact True.intro | refine And.intro rfl ?_)
     · exact ⟨Nat.zero_le _, _, hG.congr (fun x k hx _ => by rw [if_pos (by omega)]; rfl), hh⟩
     ·rintro j a w ⟨hj, cG, hG, hh⟩ hf
      refine sy_sq ?_
      refine o_v hf hh (yv_bin rfl rfl rfl) ?_; clear hf a; intro a hf
      refine o_end ?_
      refine sy_seq ?_
      refine sy_cond hf rfl (fun hg39 => ?_) (fun hg39 => ?_)
      ·have hG39 := hg39; try simp only [gS] at hG39
       refine sy_skip ?_
       refine then_n ?_
       refine sy_seq ?_
       refine sy_block ?_
       refine sy_seq ?_
       obtain ⟨p, hp⟩ := ex_of (l := ps) (i := j) (by omega)
       have hpm := (Ch_iff.1 hMd.ch).1 p (List.mem_of_getElem? hp)
       have hpl1 : p.1 < d.l.length := hpm.2.1
       have hpr1 : p.2 < d.r.length := hpm.2.2.2.1
       have hF : fitD d p.1 p.2 = true := hpm.2.2.2.2
       obtain ⟨g1, g2⟩ := encP_get ps j p hp
       obtain ⟨blk, off, cP, T, fr, rfl, hbx, hcx⟩ := hP2.resolve_left (by intro e; rw [e] at g1; simp at g1)
       have hpc := pair_cells hp hcx
       have hsz := hG.size
       have hsb : seenC 0 (ps.take j) < 2 ^ 10 := seenC_lt (by decide) fun q hq => by
         have : q.2 < d.r.length := ((Ch_iff.1 hMd.ch).1 q (List.mem_of_mem_take hq)).2.2.2.1
         omega
       have hst : seenC 0 (ps.take (j + 1)) = seenC 0 (ps.take j) ||| 2 ^ p.2 := by rw [List.take_add_one, hp]; exact seenC_snoc _ _ _
       obtain ⟨hfE, hfV⟩ := fits_ok (d := d) ((okRows_iff d).2 hV) hpl1 hpr1
       rw [hF] at hfV
       obtain ⟨s, hs⟩ := ex_of (l := sh) (i := j) (by rw [hMd.len]; omega)
       have hslen := hMd.len
       obtain ⟨hsE, hs1, hs2⟩ := made_shift hMd hV hw hp hs
       refine sy_ops ?_
       refine o_v hf hh (yv_move rfl) ?_; clear hf a; intro a hf
       refine o_v hf hh (y_ix Tryd.se_34 rfl rfl) ?_; clear hf a; intro a hf
       refine o_v hf hh (y_lds Tryd.ag_45 rfl) ?_; clear hf a; intro a hf
       refine o_alloc hf hh Tryd.ze_45 ?_; clear hf hh a; intro B23 a w hf hh
       refine o_v hf hh (yv_assign rfl) ?_; clear hf a; intro a hf
       refine o_store hf hh Tryd.sz_45 fun w hh => ?_
       refine o_end ?_
       refine sy_seq ?_
       have hpt : ((2 ^ ((p.2 : Nat) : Int).toNat : Nat) : Int) ≤ IntKind.top .i64 := by
         rw [Int.toNat_natCast]
         have h10 := Nat.pow_le_pow_right (n := 2) (by decide) (show p.2 ≤ 10 by omega)
         simp only [IntKind.top]; omega
       replace hh : Hp u2 [] [(B23, .cells #[.int .i64 p.1, .int .i64 p.2] 45), (B126, .cells cG 3)] w := hh
       refine sy_treeC (.p 0 (.p 1 (.q 0 2 (.p 3 (.q 0 4 (.p 5 (.p 6 (.q 0 7 (.p 8 (.p 9 (.p 10 (.e1 11 (.p 12 (.fin)))))))))))))) [[]] [(AtE u2 [] [(B23, .cells #[.int .i64 p.1, .int .i64 p.2] 45)], [])] Tryd.follows (by kernel_rfl) rfl hh (fun w hh => ?_)
       refine mc_p rfl   hf (yv_move rfl) (.inl rfl) rfl rfl ?_; clear hf a; intro a hf
       refine mc_p rfl   hf (y_ia Tryd.ae_45 rfl rfl) (.inl rfl) rfl rfl ?_; clear hf a; intro a hf
       refine mc_q rfl rfl (AtE.mk1 hh.ext (hh.get (B23, .cells #[.int .i64 p.1, .int .i64 p.2] 45) (by simp))) hf (y_ld Tryd.sc_3 rfl) (.inl rfl) rfl rfl ?_; clear hf a; intro a hf
       refine mc_p rfl   hf (y_ia Tryd.ae_45 rfl rfl) (.inl rfl) rfl rfl ?_; clear hf a; intro a hf
       refine mc_q rfl rfl (AtE.mk1 hh.ext (hh.get (B23, .cells #[.int .i64 p.1, .int .i64 p.2] 45) (by simp))) hf (y_ld Tryd.sc_3 rfl) (.inl rfl) rfl rfl ?_; clear hf a; intro a hf
       refine mc_p rfl   hf (yv_move rfl) (.inl rfl) rfl rfl ?_; clear hf a; intro a hf
       refine mc_p rfl   hf (y_ia Tryd.ae_45 rfl rfl) (.inl rfl) rfl rfl ?_; clear hf a; intro a hf
       refine mc_q rfl rfl (AtE.mk1 hh.ext (hh.get (B23, .cells #[.int .i64 p.1, .int .i64 p.2] 45) (by simp))) hf (y_ld Tryd.sc_3 rfl) (.inl rfl) rfl rfl ?_; clear hf a; intro a hf
       refine mc_p rfl   hf (yv_shl1 (.inl rfl) rfl rfl (by omega) (by omega)) (.inl rfl) rfl rfl ?_; clear hf a; intro a hf
       refine mc_p rfl   hf (yv_cast (yv_or (.inl rfl) rfl rfl (Int.natCast_nonneg _) (by simp only [IntKind.top]; omega) (Int.natCast_nonneg _) hpt) (intv (b := ((seenC 0 (ps.take (j + 1)) : Nat) : Int)) (by rw [Int.toNat_natCast, Int.toNat_natCast, Int.toNat_natCast, hst]))) (.inl rfl) rfl rfl ?_; clear hf a; intro a hf
       refine mc_p rfl   hf (y_ix Tryd.se_55 rfl rfl) (.inl rfl) rfl rfl ?_; clear hf a; intro a hf
       refine mc_e rfl fun Q1 => ?_
       refine o_store (i := 1) hf hh Tryd.sz_3 (hx := rfl) (hi := atI (i := 1) rfl) (hy := rfl) (hl := Nat.ble_eq_true_of_le (by rw [Int.toNat_natCast]; omega)) fun w hh => ?_
       refine ops_end ?_
       refine then_n ⟨⟨fun _ _ => (AtE.mk1 hh.ext (hh.get (B23, .cells #[.int .i64 p.1, .int .i64 p.2] 45) (by simp))), trivial⟩, ?_⟩
       refine mc_p rfl   hf (yv_assign rfl) (.inl rfl) rfl rfl ?_; clear hf a; intro a hf
       refine mc_end ?_
       refine then_n ?_
       refine sy_sq ?_
       refine o_v hf hh (y_lds Tryd.ag_26 rfl) ?_; clear hf a; intro a hf
       refine o_v hf hh (y_ia Tryd.ae_45 rfl rfl) ?_; clear hf a; intro a hf
       refine o_v hf hh (y_ld Tryd.sc_3 rfl) ?_; clear hf a; intro a hf
       refine o_v hf hh (y_ia Tryd.ae_45 rfl rfl) ?_; clear hf a; intro a hf
       refine o_v hf hh (y_ld Tryd.sc_3 rfl) ?_; clear hf a; intro a hf
       refine o_call hf Tryd.en_15 rfl rfl rfl (c15 d oa ob ca cb _ (hA2.ext hh.ext) (hB2.ext hh.ext) p.1 p.2 (by omega) (by omega)) ?_; clear hf a; intro v a w hR hf
       rw [hfE] at hR
       rw [hfV] at hR
       obtain ⟨rfl, hx⟩ := hR; replace hh := hh.more hx; clear hx
       refine o_v hf hh (yv_move rfl) ?_; clear hf a; intro a hf
       refine o_v hf hh (yv_extract rfl rfl) ?_; clear hf a; intro a hf
       refine o_v hf hh (yv_extract rfl rfl) ?_; clear hf a; intro a hf
       refine o_v hf hh (yv_assign rfl) ?_; clear hf a; intro a hf
       refine o_v hf hh (yv_assign rfl) ?_; clear hf a; intro a hf
       refine o_end ?_
       refine sy_sq ?_
       refine o_v hf hh (y_lds Tryd.ag_26 rfl) ?_; clear hf a; intro a hf
       refine o_v hf hh (y_ia Tryd.ae_45 rfl rfl) ?_; clear hf a; intro a hf
       refine o_v hf hh (y_ld Tryd.sc_3 rfl) ?_; clear hf a; intro a hf
       refine o_call hf Tryd.en_22 rfl rfl rfl (c22 d oa ob ca cb _ (hA2.ext hh.ext) (hB2.ext hh.ext) (by omega) p.1 (by omega)) ?_; clear hf a; intro v a w hR hf
       rw [hsE] at hR
       obtain ⟨rfl, hx⟩ := hR; replace hh := hh.more hx; clear hx
       refine o_v hf hh (yv_move rfl) ?_; clear hf a; intro a hf
       refine o_v hf hh (yv_extract rfl rfl) ?_; clear hf a; intro a hf
       refine o_v hf hh (yv_extract rfl rfl) ?_; clear hf a; intro a hf
       refine o_alloc hf hh Tryd.ze_24 ?_; clear hf hh a; intro B26 a w hf hh
       refine o_store hf hh Tryd.sz_24 fun w hh => ?_
       refine o_v hf hh (yv_assign rfl) ?_; clear hf a; intro a hf
       refine o_end ?_
       refine sy_seq ?_
       obtain ⟨blk11, off11, c11, T11, fr11, e11, hb11, hc11⟩ := ints_at hv11 (i := p.1) (z := ((canS d p.1 : Nat) : Int)) (by simp [canL, hpl1])
       subst e11
       obtain ⟨blk5, off5, c5, T5, fr5, e5, hb5, hc5⟩ := ints_at hS2 hs
       subst e5
       have hcb := canS_1024 hnr p.1
       have hnb : (!(canS d p.1).testBit p.2) = false := by rw [made_can hw (List.mem_of_getElem? hp)]; rfl
       refine sy_quiet (C := Hp _ _ _) Tryd.follows (by kernel_rfl) (hh.drawn _) ?_
       refine oq_v hf (yv_move rfl) ?_; clear hf a; intro a hf
       refine oq_v hf (yv_not rfl) ?_; clear hf a; intro a hf
       refine oq_v hf (yv_move rfl) ?_; clear hf a; intro a hf
       refine oq_v hf (yv_move rfl) ?_; clear hf a; intro a hf
       refine oq_v hf (yv_bin rfl rfl rfl) ?_; clear hf a; intro a hf
       refine oq_v hf (y_pf rfl rfl) ?_; clear hf a; intro a hf
       refine oq_v hf (yv_move rfl) ?_; clear hf a; intro a hf
       refine oq_v hf (yv_move rfl) ?_; clear hf a; intro a hf
       refine oq_v hf (y_ia Tryd.ae_45 rfl rfl) ?_; clear hf a; intro a hf
       refine oq_v hf (y_ld Tryd.sc_3 rfl) ?_; clear hf a; intro a hf
       refine oq_v hf (y_ix Tryd.se_55 rfl rfl) ?_; clear hf a; intro a hf
       refine oq_v hf (y_ld Tryd.sc_3 rfl) ?_; clear hf a; intro a hf
       refine oq_v hf (y_ia Tryd.ae_45 rfl rfl) ?_; clear hf a; intro a hf
       refine oq_v hf (y_ld Tryd.sc_3 rfl) ?_; clear hf a; intro a hf
       refine oq_v hf (yv_shrN rfl rfl) ?_; clear hf a; intro a hf
       refine oq_v hf (yv_and1 rfl rfl (by omega)) ?_; clear hf a; intro a hf
       refine oq_v hf (yv_bit0 rfl rfl) ?_; clear hf a; intro a hf
       refine oq_v hf (y_pf rfl rfl) ?_; clear hf a; intro a hf
       refine oq_v hf (yv_move rfl) ?_; clear hf a; intro a hf
       refine oq_v hf (yv_move rfl) ?_; clear hf a; intro a hf
       refine oq_v hf (yv_bin rfl rfl rfl) ?_; clear hf a; intro a hf
       refine oq_v hf (y_pf rfl rfl) ?_; clear hf a; intro a hf
       refine oq_v hf (yv_move rfl) ?_; clear hf a; intro a hf
       refine oq_v hf (yv_move rfl) ?_; clear hf a; intro a hf
       refine oq_v hf (yv_move rfl) ?_; clear hf a; intro a hf
       refine oq_v hf (y_ix Tryd.se_55 rfl rfl) ?_; clear hf a; intro a hf
       refine oq_v hf (y_ld Tryd.sc_3 rfl) ?_; clear hf a; intro a hf
       refine oq_v hf (yv_fieldAddr Tryd.fo_24_0 rfl) ?_; clear hf a; intro a hf
       refine oq_v hf (y_ld Tryd.sc_3 rfl) ?_; clear hf a; intro a hf
       refine oq_v hf (yv_bin rfl rfl rfl) ?_; clear hf a; intro a hf
       refine oq_v hf (y_pf rfl rfl) ?_; clear hf a; intro a hf
       refine oq_v hf (yv_move rfl) ?_; clear hf a; intro a hf
       refine oq_v hf (yv_move rfl) ?_; clear hf a; intro a hf
       refine oq_v hf (yv_move rfl) ?_; clear hf a; intro a hf
       refine oq_v hf (y_ix Tryd.se_55 rfl rfl) ?_; clear hf a; intro a hf
       refine oq_v hf (y_ld Tryd.sc_3 rfl) ?_; clear hf a; intro a hf
       refine oq_v hf (yv_fieldAddr Tryd.fo_24_1 rfl) ?_; clear hf a; intro a hf
       refine oq_v hf (y_ld Tryd.sc_3 rfl) ?_; clear hf a; intro a hf
       refine oq_v hf (yv_bin rfl rfl rfl) ?_; clear hf a; intro a hf
       refine oq_v hf (y_pf rfl rfl) ?_; clear hf a; intro a hf
       refine q_end fun w hh => ?_
       refine then_n ?_
       refine c_f hf ?_
       refine sy_skip ?_
       refine blk_n ?_
       refine then_n ?_
       refine sy_ops ?_
       refine o_v hf hh (y_add rfl rfl) ?_; clear hf a; intro a hf
       refine o_v hf hh (yv_move rfl) ?_; clear hf a; intro a hf
       refine ops_end ?_
       refine then_n ?_
       refine ⟨j + 1, ⟨⟨by omega, _, (hG.set (off := 0 + ((p.1 : Nat) : Int).toNat * 1) hpl1 Nat.zero_lt_one (by rw [Int.toNat_natCast]; omega) _).congr fun x k hx hk => ?_, hh.less (.cons _ (.cons _ (List.Sublist.refl _)))⟩, hf.head ⟨rfl, rfl, True.intro⟩ (Keep.cons rfl (Keep.cons rfl (Keep.cons rfl (Keep.cons rfl (Keep.cons rfl (Keep.cons rfl (Keep.cons rfl (Keep.cons rfl (Keep.cons rfl (Keep.cons rfl (Keep.cons rfl (Keep.cons rfl (Keep.cons rfl (Keep.cons rfl (Keep.cons rfl (Keep.cons rfl (Keep.cons rfl (Keep.cons rfl (Keep.cons rfl (Keep.cons rfl (Keep.cons rfl (Keep.cons rfl (Keep.cons rfl (Keep.cons rfl (Keep.cons rfl (Keep.cons rfl (Keep.cons rfl (Keep.cons rfl (Keep.cons rfl (Keep.cons rfl (Keep.cons rfl (Keep.cons rfl (Keep.cons rfl (Keep.cons rfl (Keep.cons rfl (Keep.cons rfl (Keep.cons rfl (Keep.cons rfl (Keep.cons rfl (Keep.cons rfl (Keep.cons rfl (Keep.cons rfl (Keep.cons rfl (Keep.cons rfl (Keep.cons rfl (Keep.cons rfl (Keep.cons rfl (Keep.cons rfl (Keep.cons rfl (Keep.cons rfl (Keep.cons rfl (Keep.cons rfl (Keep.cons rfl (Keep.cons rfl (Keep.cons rfl (Keep.cons rfl (Keep.cons rfl (Keep.cons rfl (Keep.cons rfl (Keep.cons rfl (Keep.cons rfl (Keep.cons rfl (Keep.cons rfl (Keep.cons rfl (Keep.cons rfl (Keep.cons rfl (Keep.cons rfl (Keep.cons rfl (Keep.cons rfl (Keep.cons rfl (Keep.cons rfl (Keep.cons rfl (Keep.cons rfl (Keep.cons rfl (Keep.cons rfl (Keep.cons rfl (Keep.cons rfl (Keep.cons rfl (Keep.cons rfl (Keep.cons rfl (Keep.app rfl (Keep.rm rfl Keep.base))))))))))))))))))))))))))))))))))))))))))))))))))))))))))))))))))))))))))))))))))⟩, by omega⟩
       have hk0 : k = 0 := by omega
       subst hk0
       rw [parN_step hMd.ch hp]
       unfold updG
       by_cases e : x = p.1
       · subst e; rw [if_pos ⟨rfl, rfl⟩, if_pos rfl]
       · rw [if_neg (fun h => e h.1), if_neg e]
      ·have hG39 := hg39; try simp only [gS] at hG39
       refine sy_exit ?_
       refine then_e ?_
       refine then_e ?_
       refine blk_e ?_
       refine then_n ?_
       refine sy_seq ?_
       refine sy_seq ?_
       have hsj : ps.take j = ps := List.take_of_length_le (by omega)
       rw [hsj] at hf
       refine sy_ops ?_
       refine o_v hf hh (yv_move rfl) ?_; clear hf a; intro a hf
       refine o_v hf hh (yv_len Tryd.se_55 rfl) ?_; clear hf a; intro a hf
       refine o_v hf hh (yv_move rfl) ?_; clear hf a; intro a hf
       refine o_end ?_
       refine sy_block ?_
       refine sy_loopF (σ := Nat) [2, 28, 29, 213, 214, 215, 216, 217, 218, 219, 220, 221, 222, 223, 224, 225, 226, 227, 228, 229, 230, 231, 232, 233, 234, 235, 236, 237, 238, 239, 240, 241, 242] (fun k => [(213, .int .i64 (k : Nat))]) (fun k => k ≤ d.l.length) (fun k => d.l.length - k) (0) hf hh ?_ ?_ ?_
       · repeat' (first | exact True.intro | refine And.intro rfl ?_)
       · exact Nat.zero_le _
       ·rintro k a w hk hf hh
        refine sy_sq ?_
        refine o_v hf hh (yv_bin rfl rfl rfl) ?_; clear hf a; intro a hf
        refine o_end ?_
        refine sy_seq ?_
        refine sy_cond hf rfl (fun hg55 => ?_) (fun hg55 => ?_)
        ·have hG55 := hg55; try simp only [gS] at hG55
         refine sy_skip ?_
         refine then_n ?_
         refine sy_seq ?_
         refine sy_block ?_
         refine sy_seq ?_
         obtain ⟨blk13, off13, c13, T13, fr13, e13, hb13, hc13⟩ := ints_at hv13 (i := k) (z := sureN d k) (by unfold sureL; rw [List.getElem?_map, List.getElem?_range (by omega)]; rfl)
         subst e13
         have hgk := grid_one hG (show k < d.l.length by omega)
         have hkl : k < d.l.length := by omega
         have hpe : parN ps k j = pN ps k := by unfold parN; rw [List.take_of_length_le (by omega)]
         have hha := (hide_lt d).1
         have hp10 : 2 ^ d.l.length ≤ 2 ^ 10 := Nat.pow_le_pow_right (by decide) hnl
         refine sy_ops ?_
         refine o_v hf hh (yv_move rfl) ?_; clear hf a; intro a hf
         refine o_v hf hh (y_ix Tryd.se_55 rfl rfl) ?_; clear hf a; intro a hf
         refine o_v hf hh (y_ld Tryd.sc_3 rfl) ?_; clear hf a; intro a hf
         refine o_v hf hh (yv_assign rfl) ?_; clear hf a; intro a hf
         refine o_v hf hh (yv_assign rfl) ?_; clear hf a; intro a hf
         refine o_end ?_
         refine sy_sq ?_
         refine o_v hf hh (yv_move rfl) ?_; clear hf a; intro a hf
         refine o_v hf hh (yv_bin rfl rfl rfl) ?_; clear hf a; intro a hf
         refine o_v hf hh (yv_move rfl) ?_; clear hf a; intro a hf
         refine guard_split hf (t := 220) rfl (fun hg57 => ?_) (fun hg57 => ?_)
         ·have hG57 := hg57; try simp only [gS] at hG57
          have hbt : (!(hideA d).testBit k) = false := by rw [made_hidL hw hkl (by rw [← hpe]; assumption)]; rfl
          refine o_v hf hh (yv_move rfl) ?_; clear hf a; intro a hf
          refine o_v hf hh (yv_move rfl) ?_; clear hf a; intro a hf
          refine o_v hf hh (yv_shrN rfl rfl) ?_; clear hf a; intro a hf
          refine o_v hf hh (yv_and1 rfl rfl (by omega)) ?_; clear hf a; intro a hf
          refine o_v hf hh (yv_bit0 rfl rfl) ?_; clear hf a; intro a hf
          refine o_v hf hh (y_pt rfl rfl) ?_; clear hf a; intro a hf
          refine o_v hf hh (yv_move rfl) ?_; clear hf a; intro a hf
          refine o_v hf hh (yv_move rfl) ?_; clear hf a; intro a hf
          refine o_v hf hh (yv_move rfl) ?_; clear hf a; intro a hf
          refine o_v hf hh (y_ix Tryd.se_55 rfl rfl) ?_; clear hf a; intro a hf
          refine o_v hf hh (y_ld Tryd.sc_3 rfl) ?_; clear hf a; intro a hf
          refine o_v hf hh (yv_bin rfl rfl rfl) ?_; clear hf a; intro a hf
          refine o_v hf hh (yv_move rfl) ?_; clear hf a; intro a hf
          refine guard_split hf (t := 233) rfl (fun hg62 => ?_) (fun hg62 => ?_)
          ·have hG62 := hg62; try simp only [gS] at hG62
           have hsq : sureN d k = pN ps k := made_sure hnr hV hw hkl (by assumption)
           refine o_v hf hh (yv_move rfl) ?_; clear hf a; intro a hf
           refine o_v hf hh (yv_move rfl) ?_; clear hf a; intro a hf
           refine o_v hf hh (y_ix Tryd.se_55 rfl rfl) ?_; clear hf a; intro a hf
           refine o_v hf hh (y_ld Tryd.sc_3 rfl) ?_; clear hf a; intro a hf
           refine o_v hf hh (yv_move rfl) ?_; clear hf a; intro a hf
           refine o_v hf hh (yv_bin rfl rfl rfl) ?_; clear hf a; intro a hf
           refine o_v hf hh (y_pt rfl rfl) ?_; clear hf a; intro a hf
           refine o_v hf hh (y_pf rfl rfl) ?_; clear hf a; intro a hf
           refine o_end ?_
           refine c_f hf ?_
           refine sy_skip ?_
           refine blk_n ?_
           refine then_n ?_
           refine sy_ops ?_
           refine o_v hf hh (y_add rfl rfl) ?_; clear hf a; intro a hf
           refine o_v hf hh (yv_move rfl) ?_; clear hf a; intro a hf
           refine ops_end ?_
           refine then_n ?_
           exact ⟨k + 1, ⟨by omega, (hf.head (by repeat' (first | exact True.intro | refine And.intro rfl ?_)) (Keep.cons rfl (Keep.cons rfl (Keep.cons rfl (Keep.cons rfl (Keep.cons rfl (Keep.cons rfl (Keep.cons rfl (Keep.cons rfl (Keep.cons rfl (Keep.cons rfl (Keep.cons rfl (Keep.cons rfl (Keep.cons rfl (Keep.cons rfl (Keep.cons rfl (Keep.cons rfl (Keep.cons rfl (Keep.cons rfl (Keep.cons rfl (Keep.cons rfl (Keep.cons rfl (Keep.cons rfl (Keep.cons rfl (Keep.cons rfl (Keep.cons rfl (Keep.cons rfl (Keep.cons rfl (Keep.cons rfl (Keep.cons rfl (Keep.cons rfl (Keep.cons rfl (Keep.cons rfl (Keep.app rfl (Keep.rm rfl Keep.base))))))))))))))))))))))))))))))))))), hh⟩, by omega⟩
          ·have hG62 := hg62; try simp only [gS] at hG62
           refine o_off hf ?_; clear hf a; intro a hf
           refine o_off hf ?_; clear hf a; intro a hf
           refine o_off hf ?_; clear hf a; intro a hf
           refine o_off hf ?_; clear hf a; intro a hf
           refine o_off hf ?_; clear hf a; intro a hf
           refine o_off hf ?_; clear hf a; intro a hf
           refine o_v hf hh (y_pf rfl rfl) ?_; clear hf a; intro a hf
           refine o_v hf hh (y_pf rfl rfl) ?_; clear hf a; intro a hf
           refine o_end ?_
           refine c_f hf ?_
           refine sy_skip ?_
           refine blk_n ?_
           refine then_n ?_
           refine sy_ops ?_
           refine o_v hf hh (y_add rfl rfl) ?_; clear hf a; intro a hf
           refine o_v hf hh (yv_move rfl) ?_; clear hf a; intro a hf
           refine ops_end ?_
           refine then_n ?_
           exact ⟨k + 1, ⟨by omega, (hf.head (by repeat' (first | exact True.intro | refine And.intro rfl ?_)) (Keep.cons rfl (Keep.cons rfl (Keep.cons rfl (Keep.cons rfl (Keep.cons rfl (Keep.cons rfl (Keep.cons rfl (Keep.cons rfl (Keep.cons rfl (Keep.cons rfl (Keep.cons rfl (Keep.cons rfl (Keep.cons rfl (Keep.cons rfl (Keep.cons rfl (Keep.cons rfl (Keep.cons rfl (Keep.cons rfl (Keep.cons rfl (Keep.cons rfl (Keep.cons rfl (Keep.cons rfl (Keep.cons rfl (Keep.cons rfl (Keep.cons rfl (Keep.cons rfl (Keep.cons rfl (Keep.cons rfl (Keep.cons rfl (Keep.cons rfl (Keep.cons rfl (Keep.cons rfl (Keep.app rfl (Keep.rm rfl Keep.base))))))))))))))))))))))))))))))))))), hh⟩, by omega⟩
         ·have hG57 := hg57; try simp only [gS] at hG57
          refine o_off hf ?_; clear hf a; intro a hf
          refine o_off hf ?_; clear hf a; intro a hf
          refine o_off hf ?_; clear hf a; intro a hf
          refine o_off hf ?_; clear hf a; intro a hf
          refine o_off hf ?_; clear hf a; intro a hf
          refine o_v hf hh (y_pf rfl rfl) ?_; clear hf a; intro a hf
          refine o_v hf hh (yv_move rfl) ?_; clear hf a; intro a hf
          refine o_v hf hh (yv_move rfl) ?_; clear hf a; intro a hf
          refine o_v hf hh (yv_move rfl) ?_; clear hf a; intro a hf
          refine o_v hf hh (y_ix Tryd.se_55 rfl rfl) ?_; clear hf a; intro a hf
          refine o_v hf hh (y_ld Tryd.sc_3 rfl) ?_; clear hf a; intro a hf
          refine o_v hf hh (yv_bin rfl rfl rfl) ?_; clear hf a; intro a hf
          refine o_v hf hh (yv_move rfl) ?_; clear hf a; intro a hf
          refine guard_split hf (t := 233) rfl (fun hg66 => ?_) (fun hg66 => ?_)
          ·have hG66 := hg66; try simp only [gS] at hG66
           have hsq : sureN d k = pN ps k := made_sure hnr hV hw hkl (by assumption)
           refine o_v hf hh (yv_move rfl) ?_; clear hf a; intro a hf
           refine o_v hf hh (yv_move rfl) ?_; clear hf a; intro a hf
           refine o_v hf hh (y_ix Tryd.se_55 rfl rfl) ?_; clear hf a; intro a hf
           refine o_v hf hh (y_ld Tryd.sc_3 rfl) ?_; clear hf a; intro a hf
           refine o_v hf hh (yv_move rfl) ?_; clear hf a; intro a hf
           refine o_v hf hh (yv_bin rfl rfl rfl) ?_; clear hf a; intro a hf
           refine o_v hf hh (y_pt rfl rfl) ?_; clear hf a; intro a hf
           refine o_v hf hh (y_pf rfl rfl) ?_; clear hf a; intro a hf
           refine o_end ?_
           refine c_f hf ?_
           refine sy_skip ?_
           refine blk_n ?_
           refine then_n ?_
           refine sy_ops ?_
           refine o_v hf hh (y_add rfl rfl) ?_; clear hf a; intro a hf
           refine o_v hf hh (yv_move rfl) ?_; clear hf a; intro a hf
           refine ops_end ?_
           refine then_n ?_
           exact ⟨k + 1, ⟨by omega, (hf.head (by repeat' (first | exact True.intro | refine And.intro rfl ?_)) (Keep.cons rfl (Keep.cons rfl (Keep.cons rfl (Keep.cons rfl (Keep.cons rfl (Keep.cons rfl (Keep.cons rfl (Keep.cons rfl (Keep.cons rfl (Keep.cons rfl (Keep.cons rfl (Keep.cons rfl (Keep.cons rfl (Keep.cons rfl (Keep.cons rfl (Keep.cons rfl (Keep.cons rfl (Keep.cons rfl (Keep.cons rfl (Keep.cons rfl (Keep.cons rfl (Keep.cons rfl (Keep.cons rfl (Keep.cons rfl (Keep.cons rfl (Keep.cons rfl (Keep.cons rfl (Keep.cons rfl (Keep.cons rfl (Keep.cons rfl (Keep.cons rfl (Keep.cons rfl (Keep.app rfl (Keep.rm rfl Keep.base))))))))))))))))))))))))))))))))))), hh⟩, by omega⟩
          ·have hG66 := hg66; try simp only [gS] at hG66
           refine o_off hf ?_; clear hf a; intro a hf
           refine o_off hf ?_; clear hf a; intro a hf
           refine o_off hf ?_; clear hf a; intro a hf
           refine o_off hf ?_; clear hf a; intro a hf
           refine o_off hf ?_; clear hf a; intro a hf
           refine o_off hf ?_; clear hf a; intro a hf
           refine o_v hf hh (y_pf rfl rfl) ?_; clear hf a; intro a hf
           refine o_v hf hh (y_pf rfl rfl) ?_; clear hf a; intro a hf
           refine o_end ?_
           refine c_f hf ?_
           refine sy_skip ?_
           refine blk_n ?_
           refine then_n ?_
           refine sy_ops ?_
           refine o_v hf hh (y_add rfl rfl) ?_; clear hf a; intro a hf
           refine o_v hf hh (yv_move rfl) ?_; clear hf a; intro a hf
           refine ops_end ?_
           refine then_n ?_
           exact ⟨k + 1, ⟨by omega, (hf.head (by repeat' (first | exact True.intro | refine And.intro rfl ?_)) (Keep.cons rfl (Keep.cons rfl (Keep.cons rfl (Keep.cons rfl (Keep.cons rfl (Keep.cons rfl (Keep.cons rfl (Keep.cons rfl (Keep.cons rfl (Keep.cons rfl (Keep.cons rfl (Keep.cons rfl (Keep.cons rfl (Keep.cons rfl (Keep.cons rfl (Keep.cons rfl (Keep.cons rfl (Keep.cons rfl (Keep.cons rfl (Keep.cons rfl (Keep.cons rfl (Keep.cons rfl (Keep.cons rfl (Keep.cons rfl (Keep.cons rfl (Keep.cons rfl (Keep.cons rfl (Keep.cons rfl (Keep.cons rfl (Keep.cons rfl (Keep.cons rfl (Keep.cons rfl (Keep.app rfl (Keep.rm rfl Keep.base))))))))))))))))))))))))))))))))))), hh⟩, by omega⟩
        ·have hG55 := hg55; try simp only [gS] at hG55
         refine sy_exit ?_
         refine then_e ?_
         refine then_e ?_
         refine blk_e ?_
         refine then_n ?_
         refine sy_seq ?_
         refine sy_sq ?_
         refine o_v hf hh (yv_fieldAddr Tryd.fo_26_1 rfl) ?_; clear hf a; intro a hf
         refine o_v hf hh (y_ld Tryd.sc_22 rfl) ?_; clear hf a; intro a hf
         refine o_v hf hh (yv_len Tryd.se_22 rfl) ?_; clear hf a; intro a hf
         refine o_v hf hh (yv_move rfl) ?_; clear hf a; intro a hf
         refine o_end ?_
         refine sy_block ?_
         refine sy_loopF (σ := Nat) [2, 30, 246, 247, 248, 249, 250, 251, 252, 253, 254, 255, 256, 257, 258, 259, 260, 261] (fun k => [(246, .int .i64 (k : Nat))]) (fun k => k ≤ d.r.length) (fun k => d.r.length - k) (0) hf hh ?_ ?_ ?_
         · repeat' (first | exact True.intro | refine And.intro rfl ?_)
         · exact Nat.zero_le _
         ·rintro k a w hk hf hh
          refine sy_sq ?_
          refine o_v hf hh (yv_bin rfl rfl rfl) ?_; clear hf a; intro a hf
          refine o_end ?_
          refine sy_seq ?_
          refine sy_cond hf rfl (fun hg70 => ?_) (fun hg70 => ?_)
          ·have hG70 := hg70; try simp only [gS] at hG70
           refine sy_skip ?_
           refine then_n ?_
           refine sy_seq ?_
           refine sy_block ?_
           refine sy_sq ?_
           refine o_v hf hh (yv_move rfl) ?_; clear hf a; intro a hf
           refine o_v hf hh (yv_assign rfl) ?_; clear hf a; intro a hf
           refine o_end ?_
           refine sy_seq ?_
           have hkr : k < d.r.length := by omega
           have hhb := (hide_lt d).2
           have hp10 : 2 ^ d.r.length ≤ 2 ^ 10 := Nat.pow_le_pow_right (by decide) hnr
           have hsn : seenC 0 ps < 2 ^ 10 := seenC_lt (by decide) fun q hq => by
             have : q.2 < d.r.length := ((Ch_iff.1 hMd.ch).1 q hq).2.2.2.1
             omega
           refine sy_ops ?_
           refine o_v hf hh (yv_move rfl) ?_; clear hf a; intro a hf
           refine o_v hf hh (yv_move rfl) ?_; clear hf a; intro a hf
           refine o_v hf hh (yv_shrN rfl rfl) ?_; clear hf a; intro a hf
           refine o_v hf hh (yv_and1 rfl rfl (by omega)) ?_; clear hf a; intro a hf
           refine o_v hf hh (yv_bit0 rfl rfl) ?_; clear hf a; intro a hf
           refine o_v hf hh (yv_move rfl) ?_; clear hf a; intro a hf
           refine guard_split hf (t := 254) rfl (fun hg74 => ?_) (fun hg74 => ?_)
           ·have hG74 := hg74; try simp only [gS] at hG74
            have hbt : (!(hideB d).testBit k) = false := by rw [made_hidR hw hkr (by assumption)]; rfl
            refine o_v hf hh (yv_move rfl) ?_; clear hf a; intro a hf
            refine o_v hf hh (yv_move rfl) ?_; clear hf a; intro a hf
            refine o_v hf hh (yv_shrN rfl rfl) ?_; clear hf a; intro a hf
            refine o_v hf hh (yv_and1 rfl rfl (by omega)) ?_; clear hf a; intro a hf
            refine o_v hf hh (yv_bit0 rfl rfl) ?_; clear hf a; intro a hf
            refine o_v hf hh (y_pt rfl rfl) ?_; clear hf a; intro a hf
            refine o_end ?_
            refine c_f hf ?_
            refine sy_skip ?_
            refine blk_n ?_
            refine then_n ?_
            refine sy_ops ?_
            refine o_v hf hh (y_add rfl rfl) ?_; clear hf a; intro a hf
            refine o_v hf hh (yv_move rfl) ?_; clear hf a; intro a hf
            refine ops_end ?_
            refine then_n ?_
            exact ⟨k + 1, ⟨by omega, (hf.head (by repeat' (first | exact True.intro | refine And.intro rfl ?_)) (Keep.cons rfl (Keep.cons rfl (Keep.cons rfl (Keep.cons rfl (Keep.cons rfl (Keep.cons rfl (Keep.cons rfl (Keep.cons rfl (Keep.cons rfl (Keep.cons rfl (Keep.cons rfl (Keep.cons rfl (Keep.cons rfl (Keep.cons rfl (Keep.cons rfl (Keep.cons rfl (Keep.cons rfl (Keep.app rfl (Keep.rm rfl Keep.base)))))))))))))))))))), hh⟩, by omega⟩
           ·have hG74 := hg74; try simp only [gS] at hG74
            refine o_off hf ?_; clear hf a; intro a hf
            refine o_off hf ?_; clear hf a; intro a hf
            refine o_off hf ?_; clear hf a; intro a hf
            refine o_off hf ?_; clear hf a; intro a hf
            refine o_off hf ?_; clear hf a; intro a hf
            refine o_v hf hh (y_pf rfl rfl) ?_; clear hf a; intro a hf
            refine o_end ?_
            refine c_f hf ?_
            refine sy_skip ?_
            refine blk_n ?_
            refine then_n ?_
            refine sy_ops ?_
            refine o_v hf hh (y_add rfl rfl) ?_; clear hf a; intro a hf
            refine o_v hf hh (yv_move rfl) ?_; clear hf a; intro a hf
            refine ops_end ?_
            refine then_n ?_
            exact ⟨k + 1, ⟨by omega, (hf.head (by repeat' (first | exact True.intro | refine And.intro rfl ?_)) (Keep.cons rfl (Keep.cons rfl (Keep.cons rfl (Keep.cons rfl (Keep.cons rfl (Keep.cons rfl (Keep.cons rfl (Keep.cons rfl (Keep.cons rfl (Keep.cons rfl (Keep.cons rfl (Keep.cons rfl (Keep.cons rfl (Keep.cons rfl (Keep.cons rfl (Keep.cons rfl (Keep.cons rfl (Keep.app rfl (Keep.rm rfl Keep.base)))))))))))))))))))), hh⟩, by omega⟩
          ·have hG70 := hg70; try simp only [gS] at hG70
           refine sy_exit ?_
           refine then_e ?_
           refine then_e ?_
           refine blk_e ?_
           refine then_n ?_
           refine sy_sq ?_
           refine o_call hf Tryd.en_14 rfl rfl rfl (c14 _ (hT2.ext hh.ext (by simp))) ?_; clear hf a; intro v a w hR hf
           obtain ⟨rfl, hx⟩ := hR; replace hh := hh.more hx; clear hx
           refine o_v hf hh (yv_assign rfl) ?_; clear hf a; intro a hf
           refine o_end ?_
           refine sy_ret ?_
           refine ret_r hf rfl rfl ?_
           first
             | exact ⟨rfl, hh.ext⟩
             | exact ⟨rfl, he2.trans hh.ext⟩
end Go.Proofs.YtemmhdgaagaglaaDoor
namespace Go.Proofs.YtemmhdgaagaglaaDoor
open Go Go.Sy Go.MatM
theorem un62 : Tryd.prog.underlying 62 = some (.slice 108) := by kernel_rfl
theorem fk108 : flK Tryd.prog .u16 9 108 = some 1 := by kernel_rfl
end Go.Proofs.YtemmhdgaagaglaaDoor
