/- Lemmas, in order: The sets of marks of a row, one after the other. The sets of a row, one after the other.. -/
import Derived.Test.YtidieepndphodaaQ17
namespace Go.MatM
open Go Go.Sy Go.Proofs Go.RowKit
abbrev fewB (p : Int) (s : Nat) : Bool := decide (((pc s : Nat) : Int) ≤ p)
def restS (n : Nat) (p : Int) (s : Nat) : List Nat := (List.range' s (2 ^ n - s)).filter (fewB p)
def sA (s : Nat) : Array Value := #[.int .u64 (s : Nat)]
theorem restS_end {n s : Nat} {p : Int} (h : ¬ s < 2 ^ n) : restS n p s = [] := by
  unfold restS; rw [show 2 ^ n - s = 0 by omega]; rfl
theorem restS_next {n s : Nat} {p : Int} (h : s < 2 ^ n) : restS n p s = (if fewB p s then [s] else []) ++ restS n p (s + 1) := by
  unfold restS
  rw [show 2 ^ n - s = (2 ^ n - (s + 1)) + 1 by omega, List.range'_succ, List.filter_cons]
  split <;> rfl
def lenR (d : RowsD) (i : Nat) : Nat := if i = 0 then d.l.length else d.r.length
theorem at_doneS {L D R : List Nat} {x : Nat} (h : L = D ++ x :: R) : (L.map sA)[D.length]? = some (sA x) := by
  subst h; simp
end Go.MatM
namespace Go.Proofs.Ytidieepndphodaa
open Go Go.Sy Go.MatM
theorem p38 (d : RowsD) (p : Int) (sa sb : Option Addr) (ca cb bm Bc : Nat) (u : World) (hc : u.heap[Bc]? = some (.cells (canC d p sa sb ca cb bm) 109 (0, 0))) (i : Nat) (hi : i < 2) (hl : d.l.length ≤ 1000) (hr : d.r.length ≤ 1000) : Calls Try.prog 38 #[ptr Bc 0, .int .i64 (i : Nat)] u (Ret fun v w' => v = .int .i64 ((lenR d i : Nat) : Int) ∧ Ext [] u w') := by
  rcases (show i = 0 ∨ i = 1 by omega) with rfl | rfl
  · exact p38l d p sa sb ca cb bm Bc u hc hl hr
  · exact p38r d p sa sb ca cb bm Bc u hc hl hr
theorem it90 (d : RowsD) (p : Int) (sa sb : Option Addr) (ca cb bm Bc B1 B2 i : Nat) (hi : i < 2) (hl : d.l.length ≤ 10) (hr : d.r.length ≤ 10) (hp0 : 0 ≤ p) (hp3 : p ≤ 3) :
    IterF Try.prog 90 #[] #[ptr B1 0, ptr B2 0] ((restS (lenR d i) p 1).map sA) [] (fun N w => Held N w [(B1, .cells #[ptr Bc 0] 66), (B2, .cells #[.int .i64 (i : Nat)] 3), (Bc, .cells (canC d p sa sb ca cb bm) 109)]) := by
  intro l J K u N0 hJl hKl hJe hKe hy hJ0 hO0
  show Calls Try.prog 90 #[.func (.yield l) #[] #[], ptr B1 0, ptr B2 0] u _
  have hL : lenR d i ≤ 10 := by unfold lenR; split <;> assumption
  have hL2 := pow_le_10 hL
  obtain ⟨q, hq⟩ : ∃ q : Nat, q = 2 ^ lenR d i := ⟨_, rfl⟩
  rw [← hq] at hL2
  have jE : ∀ {k N v v'}, J k N v → Ext [] v v' → J k N v' := fun h e => hJe _ _ _ _ [] h e (by simp)
  have kE : ∀ {k N v v'}, K k N v → Ext [] v v' → K k N v' := fun h e => hKe _ _ _ _ [] h e (by simp)
  refine calls_of Try.func90 rfl rfl (fun a hf => ?_)
  have hh := Hp.init u []
  have m1 := (hO0).at 0 rfl; have m2 := (hO0).at 1 rfl; have m3 := (hO0).at 2 rfl
  have hh := Hp.init u []
  refine sy_sq ?_
  refine o_v hf hh (yv_assign rfl) ?_; clear hf a; intro a hf
  refine o_end ?_
  refine sy_block ?_
  refine sy_loopH (σ := Nat) [4, 5, 6, 7, 8, 9, 10, 11, 12, 13, 14, 15, 16, 17, 18, 19, 20, 21, 22, 23, 24, 25, 26] (fun s => [(4, .int .u64 (s : Nat))]) (fun s => fun w' => 1 ≤ s ∧ s ≤ q ∧ ∃ done N, restS (lenR d i) p 1 = done ++ restS (lenR d i) p s ∧ J done.length N w' ∧ Held N w' [(B1, .cells #[ptr Bc 0] 66), (B2, .cells #[.int .i64 (i : Nat)] 3), (Bc, .cells (canC d p sa sb ca cb bm) 109)]) (fun s => q - s) (1) hf ?_ ?_ ?_
  · repeat' (first | exact True.intro | refine And.intro rfl ?_)
  · exact ⟨Nat.le_refl _, by rw [hq]; exact Nat.one_le_two_pow, [], N0, rfl, jE hJ0 hh.ext, hO0.ext hh.ext⟩
  ·rintro s a w ⟨hs1, hs2, done, N, hx, hJ, hO⟩ hf
   clear m1 m2 m3 hh
   have m1 := (hO).at 0 rfl; have m2 := (hO).at 1 rfl; have m3 := (hO).at 2 rfl
   have hh := Hp.init w []
   refine sy_seq ?_
   refine sy_sq ?_
   refine o_v hf hh (yv_move rfl) ?_; clear hf a; intro a hf
   refine o_v hf hh (y_ld Try.sc_66 rfl) ?_; clear hf a; intro a hf
   refine o_v hf hh (y_ld Try.sc_3 rfl) ?_; clear hf a; intro a hf
   refine o_call hf Try.en_38 rfl rfl rfl (p38 d p sa sb ca cb bm Bc _ (hh.old m3) i hi (by omega) (by omega)) ?_; clear hf a; intro v a w hR hf
   obtain ⟨rfl, hx⟩ := hR; replace hh := hh.more hx; clear hx
   refine o_v hf hh (yv_cast (yv_shl1 (.inr rfl) rfl rfl (by omega) (by omega)) (intv (b := ((q : Nat) : Int)) (by rw [hq]; exact shl_one))) ?_; clear hf a; intro a hf
   refine o_v hf hh (yv_bin rfl rfl rfl) ?_; clear hf a; intro a hf
   refine o_end ?_
   refine sy_cond hf rfl (fun hg4 => ?_) (fun hg4 => ?_)
   ·have hG4 := hg4; try simp only [gS] at hG4
    refine sy_skip ?_
    refine then_n ?_
    refine sy_seq ?_
    refine sy_block ?_
    refine sy_seq ?_
    refine sy_tail (C := Hp _ _ _) 11 Try.follows (by kernel_rfl) rfl rfl (hh.drawn _) ?_
    refine oq_v hf (yv_move rfl) ?_; clear hf a; intro a hf
    refine oq_call hf Try.en_68 rfl rfl rfl (fun w hh => p68 s (by omega) _) ?_; clear hf a; intro a hf
    refine oq_v hf (y_ld Try.sc_66 rfl) ?_; clear hf a; intro a hf
    refine oq_v hf (yv_nilCheck rfl) ?_; clear hf a; intro a hf
    refine oq_v hf (yv_fieldAddr Try.fo_109_0 rfl) ?_; clear hf a; intro a hf
    refine oq_v hf (yv_fieldAddr Try.fo_31_1 rfl) ?_; clear hf a; intro a hf
    refine oq_v hf (y_ld Try.sc_3 rfl) ?_; clear hf a; intro a hf
    refine oq_v hf (yv_bin rfl rfl rfl) ?_; clear hf a; intro a hf
    refine oq_v hf (yv_move rfl) ?_; clear hf a; intro a hf
    refine guard_splitq hf (t := 21) rfl (fun hg7 => ?_) (fun hg7 => ?_)
    ·have hG7 := hg7; try simp only [gS] at hG7
     refine oq_v hf (yv_move rfl) ?_; clear hf a; intro a hf
     refine oq_v hf (yv_move rfl) ?_; clear hf a; intro a hf
     refine q_end fun w hh => ?_
     have hfe : fewB p s = true := by first | assumption | (simp only [fewB]; exact decide_eq_true (by assumption))
     have hxy : restS (lenR d i) p 1 = done ++ s :: restS (lenR d i) p (s + 1) := by
       rw [hx, restS_next (by omega), if_pos hfe]; rfl
     refine ops_yield hf rfl rfl (gon rfl rfl rfl (by first | assumption | rfl | (simp; done) | (simp; omega))) rfl (hy _ _ _ _ (at_doneS hxy) (jE hJ hh.ext)) ?_; clear hf; clear a; intro v a w hR hf
     have hR2 : ∃ (o : Bool) (N' : List Nat), v = .bool o ∧ Held N' w [(B1, .cells #[ptr Bc 0] 66), (B2, .cells #[.int .i64 (i : Nat)] 3), (Bc, .cells (canC d p sa sb ca cb bm) 109)] ∧ (o = true → J (done.length + 1) N' w) ∧ (o = false → K done.length N' w) := by
       obtain ⟨N', hg, he, hR⟩ := hR
       have hO' := (hO.ext hh.ext).step he hg
       rcases hR with ⟨rfl, h⟩ | ⟨rfl, h⟩
       · exact ⟨true, N', rfl, hO', fun _ => h, fun h => by cases h⟩
       · exact ⟨false, N', rfl, hO', (fun h => by cases h), fun _ => h⟩
     clear hR
     obtain ⟨o, N', rfl, hO', ho1, ho2⟩ := hR2
     clear hh m1 m2 m3; have m1 := hO'.at 0 rfl; have m2 := hO'.at 1 rfl; have m3 := hO'.at 2 rfl; have hh := Hp.init w []
     refine o_v hf hh (yv_not rfl) ?_; clear hf a; intro a hf
     refine o_v hf hh (y_pt rfl rfl) ?_; clear hf a; intro a hf
     refine o_end ?_
     refine sy_cond hf rfl (fun hg9 => ?_) (fun hg9 => ?_)
     ·have hG9 := hg9; try simp only [gS] at hG9
      refine sy_ret ?_
      refine blk_r ?_
      refine then_r ?_
      refine then_r ?_
      refine blk_r ?_
      refine ret_r hf rfl rfl ?_
      first
        | exact ⟨N', hO'.ext hh.ext, .inr ⟨_, kE (ho2 (by assumption)) hh.ext⟩⟩
        | (refine ⟨N, hO.ext hh.ext, .inl ?_⟩
           rw [hx, restS_end (by omega), List.append_nil, List.length_map]
           exact jE hJ hh.ext)
        | omega
     ·have hG9 := hg9; try simp only [gS] at hG9
      refine sy_skip ?_
      refine blk_n ?_
      refine then_n ?_
      refine sy_ops ?_
      refine o_v hf hh (yv_move rfl) ?_; clear hf a; intro a hf
      refine ops_v hf hh (yv_cast (yv_addx (.inr rfl) rfl rfl (by omega) (by simp only [IntKind.top]; omega)) (intv (b := ((s + 1 : Nat) : Int)) (by omega))) (.inl rfl) rfl rfl rfl ?_; clear hf a; intro a hf
      refine o_v hf hh (yv_assign rfl) ?_; clear hf a; intro a hf
      refine ops_end ?_
      refine then_n ?_
      first
        | (refine ⟨s + 1, ⟨⟨by omega, by omega, done ++ [s], N', by rw [hxy, List.append_assoc]; rfl, ?_, hO'.ext hh.ext⟩, (hf.head (by repeat' (first | exact True.intro | refine And.intro rfl ?_)) (Keep.cons rfl (Keep.cons rfl (Keep.cons rfl (Keep.cons rfl (Keep.cons rfl (Keep.cons rfl (Keep.cons rfl (Keep.cons rfl (Keep.cons rfl (Keep.cons rfl (Keep.cons rfl (Keep.cons rfl (Keep.cons rfl (Keep.cons rfl (Keep.cons rfl (Keep.cons rfl (Keep.cons rfl (Keep.cons rfl (Keep.cons rfl (Keep.cons rfl (Keep.cons rfl (Keep.cons rfl (Keep.cons rfl (Keep.app rfl (Keep.rm rfl Keep.base))))))))))))))))))))))))))⟩, by omega⟩
           rw [List.length_append]
           exact jE (ho1 (by assumption)) hh.ext)
        | exact ⟨s + 1, ⟨⟨by omega, by omega, done, N, by rw [hx, restS_next (by omega), if_neg (by simp_all)]; rfl, jE hJ hh.ext, hO.ext hh.ext⟩, (hf.head (by repeat' (first | exact True.intro | refine And.intro rfl ?_)) (Keep.cons rfl (Keep.cons rfl (Keep.cons rfl (Keep.cons rfl (Keep.cons rfl (Keep.cons rfl (Keep.cons rfl (Keep.cons rfl (Keep.cons rfl (Keep.cons rfl (Keep.cons rfl (Keep.cons rfl (Keep.cons rfl (Keep.cons rfl (Keep.cons rfl (Keep.cons rfl (Keep.cons rfl (Keep.cons rfl (Keep.cons rfl (Keep.cons rfl (Keep.cons rfl (Keep.cons rfl (Keep.cons rfl (Keep.app rfl (Keep.rm rfl Keep.base))))))))))))))))))))))))))⟩, by omega⟩
        | omega
    ·have hG7 := hg7; try simp only [gS] at hG7
     refine oq_off hf ?_; clear hf a; intro a hf
     refine oq_off hf ?_; clear hf a; intro a hf
     refine q_end fun w hh => ?_
     refine o_off hf ?_; clear hf a; intro a hf
     refine o_off hf ?_; clear hf a; intro a hf
     refine o_v hf hh (y_pf rfl rfl) ?_; clear hf a; intro a hf
     refine o_end ?_
     refine c_f hf ?_
     refine sy_skip ?_
     refine blk_n ?_
     refine then_n ?_
     refine sy_ops ?_
     refine o_v hf hh (yv_move rfl) ?_; clear hf a; intro a hf
     refine ops_v hf hh (yv_cast (yv_addx (.inr rfl) rfl rfl (by omega) (by simp only [IntKind.top]; omega)) (intv (b := ((s + 1 : Nat) : Int)) (by omega))) (.inl rfl) rfl rfl rfl ?_; clear hf a; intro a hf
     refine o_v hf hh (yv_assign rfl) ?_; clear hf a; intro a hf
     refine ops_end ?_
     refine then_n ?_
     first
       | (refine ⟨s + 1, ⟨⟨by omega, by omega, done ++ [s], N', by rw [hxy, List.append_assoc]; rfl, ?_, hO'.ext hh.ext⟩, (hf.head (by repeat' (first | exact True.intro | refine And.intro rfl ?_)) (Keep.cons rfl (Keep.cons rfl (Keep.cons rfl (Keep.cons rfl (Keep.cons rfl (Keep.cons rfl (Keep.cons rfl (Keep.cons rfl (Keep.cons rfl (Keep.cons rfl (Keep.cons rfl (Keep.cons rfl (Keep.cons rfl (Keep.cons rfl (Keep.cons rfl (Keep.cons rfl (Keep.cons rfl (Keep.cons rfl (Keep.cons rfl (Keep.cons rfl (Keep.cons rfl (Keep.cons rfl (Keep.cons rfl (Keep.app rfl (Keep.rm rfl Keep.base))))))))))))))))))))))))))⟩, by omega⟩
          rw [List.length_append]
          exact jE (ho1 (by assumption)) hh.ext)
       | exact ⟨s + 1, ⟨⟨by omega, by omega, done, N, by rw [hx, restS_next (by omega), if_neg (by simp_all)]; rfl, jE hJ hh.ext, hO.ext hh.ext⟩, (hf.head (by repeat' (first | exact True.intro | refine And.intro rfl ?_)) (Keep.cons rfl (Keep.cons rfl (Keep.cons rfl (Keep.cons rfl (Keep.cons rfl (Keep.cons rfl (Keep.cons rfl (Keep.cons rfl (Keep.cons rfl (Keep.cons rfl (Keep.cons rfl (Keep.cons rfl (Keep.cons rfl (Keep.cons rfl (Keep.cons rfl (Keep.cons rfl (Keep.cons rfl (Keep.cons rfl (Keep.cons rfl (Keep.cons rfl (Keep.cons rfl (Keep.cons rfl (Keep.cons rfl (Keep.app rfl (Keep.rm rfl Keep.base))))))))))))))))))))))))))⟩, by omega⟩
       | omega
   ·have hG4 := hg4; try simp only [gS] at hG4
    refine sy_exit ?_
    refine then_e ?_
    refine then_e ?_
    refine blk_e ?_
    refine ret_n hf rfl rfl ?_
    first
      | exact ⟨N', hO'.ext hh.ext, .inr ⟨_, kE (ho2 (by assumption)) hh.ext⟩⟩
      | (refine ⟨N, hO.ext hh.ext, .inl ?_⟩
         rw [hx, restS_end (by omega), List.append_nil, List.length_map]
         exact jE hJ hh.ext)
      | omega
end Go.Proofs.Ytidieepndphodaa
