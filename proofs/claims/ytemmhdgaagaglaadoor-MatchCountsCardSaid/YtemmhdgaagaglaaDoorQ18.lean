/- Lemmas, in order: Marks in memory, not in blocks that are turned. The reference's ways, walked. Plain laws: the longest way, the first one, as the reference finds it. The reference's first three answers, walked. MatchCounts, walked.. -/
import Derived.Test.YtemmhdgaagaglaaDoorQ17
namespace Go.MatM
open Go Go.Sy Go.Proofs Go.RowKit
def MkOff (w : World) (X : List (Nat × Obj)) (sa : Option Addr) (l : List Mk) : Prop := ∀ i s, l[i]? = some s → ∃ blk off c T fr, sa = some ⟨blk, off, none⟩ ∧ blk ∉ X.map Prod.fst ∧ w.heap[blk]? = some (.cells c T fr) ∧ cellsAt c (off + i * 4) 4 = some (mkC s)
theorem MkOff.mk {w : World} {X : List (Nat × Obj)} {sa : Option Addr} {l : List Mk} (h : MkOff w X sa l) : MkAt w sa l := fun i s hi => by
  obtain ⟨blk, off, c, T, fr, h1, _, h2, h3⟩ := h i s hi
  exact ⟨blk, off, c, T, fr, h1, h2, h3⟩
theorem MkOff.of {w : World} {sa : Option Addr} {l : List Mk} (h : MkAt w sa l) : MkOff w [] sa l := fun i s hi => by
  obtain ⟨blk, off, c, T, fr, h1, h2, h3⟩ := h i s hi
  exact ⟨blk, off, c, T, fr, h1, by simp, h2, h3⟩
theorem MkOff.keep {u w : World} {X X' : List (Nat × Obj)} {sa : Option Addr} {l : List Mk} (h : MkOff u X sa l) (hh : Hp u (X.map Prod.fst) X' w) : MkOff w X' sa l := fun i s hi => by
  obtain ⟨blk, off, c, T, fr, h1, h0, h2, h3⟩ := h i s hi
  have hlt := (Array.getElem?_eq_some_iff.1 h2).1
  refine ⟨blk, off, c, T, fr, h1, fun hx => ?_, by rw [hh.ext.block blk hlt h0]; exact h2, h3⟩
  obtain ⟨p, hp, rfl⟩ := List.mem_map.1 hx
  rcases hh.mine p hp with h4 | h4
  · omega
  · exact h0 h4
theorem encP_1c (l : List Pr) : (encP l).all (·.oneCell') = true := by
  rw [List.all_eq_true]
  intro v hv
  obtain ⟨p, _, hp⟩ := List.mem_flatMap.1 hv
  simp only [List.mem_cons, List.not_mem_nil, or_false] at hp
  rcases hp with rfl | rfl <;> rfl
theorem off_nodup {u w : World} {M : List Nat} {b : Nat} {o : Obj} {X : List (Nat × Obj)} (hh : Hp u M ((b, o) :: X) w) : b ∉ X.map Prod.fst := by
  have h := hh.nodup
  rw [List.map_cons, List.nodup_cons] at h
  exact h.1
end Go.MatM
namespace Go.Proofs.YtemmhdgaagaglaaDoor
open Go Go.Sy Go.MatM
theorem c53 (d : RowsD) (sa sb : Option Addr) (ca cb n : Nat) (ob : Option Addr) (cpb : Nat) (hl : d.l.length ≤ 1000) (hr : d.r.length ≤ 1000) (hn : n ≤ 1000) (u : World) : Calls Tryd.prog 53 #[rowsV d sa sb ca cb, .slice ob n cpb] u (Ret fun v w' => v = .int .i64 (((d.l.length : Nat) : Int) + ((d.r.length : Nat) : Int) - 2 * ((n : Nat) : Int)) ∧ Ext [] u w') := by
  refine calls_of Tryd.func53 rfl rfl (fun a hf => ?_)
  have hh := Hp.init u []
  refine sy_sq ?_
  refine o_box hf hh ?_; clear hf hh a; intro B2 a w hf hh
  refine o_v hf hh (yv_assign rfl) ?_; clear hf a; intro a hf
  refine o_end ?_
  refine sy_sq ?_
  refine o_v hf hh (yv_fieldAddr Tryd.fo_26_0 rfl) ?_; clear hf a; intro a hf
  refine o_v hf hh (y_ld Tryd.sc_22 rfl) ?_; clear hf a; intro a hf
  refine o_v hf hh (yv_len Tryd.se_22 rfl) ?_; clear hf a; intro a hf
  refine o_v hf hh (yv_fieldAddr Tryd.fo_26_1 rfl) ?_; clear hf a; intro a hf
  refine o_v hf hh (y_ld Tryd.sc_22 rfl) ?_; clear hf a; intro a hf
  refine o_v hf hh (yv_len Tryd.se_22 rfl) ?_; clear hf a; intro a hf
  refine o_v hf hh (y_add rfl rfl) ?_; clear hf a; intro a hf
  refine o_v hf hh (yv_move rfl) ?_; clear hf a; intro a hf
  refine o_v hf hh (yv_len Tryd.se_34 rfl) ?_; clear hf a; intro a hf
  refine o_v hf hh (y_mul rfl rfl) ?_; clear hf a; intro a hf
  refine o_v hf hh (y_sub rfl rfl) ?_; clear hf a; intro a hf
  refine o_v hf hh (yv_assign rfl) ?_; clear hf a; intro a hf
  refine o_end ?_
  refine sy_ret ?_
  refine ret_r hf rfl rfl ?_
  exact ⟨rfl, hh.ext⟩
set_option maxRecDepth 100000 in
set_option maxHeartbeats 4000000 in
theorem c87 (d : RowsD) (sa sb : Option Addr) (ca cb : Nat) (hV : Valid d) (f : Nat) : ∀ (u : World) (b : List Pr) (nb : Nat) (ob : Option Addr) (cpb i k : Nat) (v : Value) (m : Nat) (hs : List Value) (X : List (Nat × Obj)) (hf : d.l.length - i ≤ f) (hA : MkOff u X sa d.l) (hB : MkOff u X sb d.r) (hvb : ValsOff u X ob (encP b)) (hO : OwnSl 34 1 v m hs X) (hX : ∀ x ∈ X, u.heap[x.1]? = some x.2) (hnb : nb = b.length) (hbi : nb ≤ i) (hi : i ≤ d.l.length) (hk : k ≤ d.r.length) (hm : m + (wysF d b i k).length ≤ 1000000000), Calls Tryd.prog 87 #[rowsV d sa sb ca cb, .slice ob nb cpb, .int .i64 i, .int .i64 k, v] u (Ret fun v0 w' => ∃ hs' X', OwnSl 34 1 v0 (m + (wysF d b i k).length) (hs ++ hs') X' ∧ HdsAt encP List.length w' X' hs' (wysF d b i k) ∧ Hp u (X.map Prod.fst) X' w') := by
  induction f using Nat.strongRecOn with
  | _ f ih =>
  intro u b nb ob cpb i k v m hs X hfu hA hB hvb hO hX hnb hbi hi hk hm
  have hnl := hV.nl; have hnr := hV.nr; have hh1 := hV.h1; have hh2 := hV.h2
  refine calls_of Tryd.func87 rfl rfl (fun a hf => ?_)
  have hh := ownSl_hp hO hX
  refine sy_sq ?_
  refine o_box hf hh ?_; clear hf hh a; intro B5 a w hf hh
  refine o_v hf hh (yv_assign rfl) ?_; clear hf a; intro a hf
  refine o_end ?_
  refine sy_cut (σ := Value × List Value × List (Nat × Obj)) [4, 13, 14, 15, 16, 17, 18, 19, 20, 21, 22] (fun q => [(4, q.1)]) (fun q => fun w' => OwnSl 34 1 q.1 (m + (oneW d b).length) (hs ++ q.2.1) q.2.2 ∧ HdsAt encP List.length w' q.2.2 q.2.1 (oneW d b) ∧ Hp u (X.map Prod.fst) ((B5, .cells (rowsV d sa sb ca cb).cells 26) :: q.2.2) w') hf ?_ ?_
  ·refine sy_seq ?_
   have hnd := need_le (d := d) hV.h2 b.length
   refine sy_quiet (C := Hp _ _ _) Tryd.follows (by kernel_rfl) (hh.drawn _) ?_
   refine oq_v hf (y_lds Tryd.ag_26 rfl) ?_; clear hf a; intro a hf
   refine oq_v hf (yv_move rfl) ?_; clear hf a; intro a hf
   refine oq_call hf Tryd.en_53 rfl rfl rfl (fun w hh => c53 d sa sb ca cb nb ob cpb (by omega) (by omega) (by omega) w) ?_; clear hf a; intro a hf
   refine oq_v hf (yv_fieldAddr Tryd.fo_26_3 rfl) ?_; clear hf a; intro a hf
   refine oq_v hf (y_ld Tryd.sc_3 rfl) ?_; clear hf a; intro a hf
   refine oq_v hf (yv_bin rfl rfl rfl) ?_; clear hf a; intro a hf
   refine q_end fun w hh => ?_
   refine then_n ?_
   refine sy_cond hf rfl (fun hg3 => ?_) (fun hg3 => ?_)
   ·have hG3 := hg3; try simp only [gS] at hG3
    have hone : oneW d b = [b] := by unfold oneW; rw [if_pos (by rw [hnd]; omega)]
    have hw1 : 1 ≤ (wysF d b i k).length := by rw [wysF_all, hone]; simp
    refine sy_ops ?_
    refine o_v hf hh (yv_move rfl) ?_; clear hf a; intro a hf
    refine o_v hf hh (yv_move rfl) ?_; clear hf a; intro a hf
    refine ops_buildSl hf hh Tryd.bl_77_1 rfl rfl (.inl rfl) rfl ?_; clear hf hh; clear a; intro B21 a w hf hh
    refine ops_append (e := 34) (size := 1) (xs := hs) (X := X) (Z := [(B5, .cells (rowsV d sa sb ca cb).cells 26)]) (m := m) (q := 1) hf (hh.perm (.cons _ (List.perm_append_comm (l₁ := [(B5, Obj.cells (rowsV d sa sb ca cb).cells 26)]) (l₂ := X)))) Tryd.eb_77 rfl rfl hO rfl rfl rfl (by simp only [maxLen]; omega) (by omega) (.inl rfl) rfl ?_; clear hf hh a; intro v1 X1 a w hO1 hf hh
    replace hh : Hp u (X.map Prod.fst) ((B5, .cells (rowsV d sa sb ca cb).cells 26) :: X1) w := hh.perm List.perm_append_comm
    refine o_v hf hh (yv_assign rfl) ?_; clear hf a; intro a hf
    refine ops_end ?_
    refine then_n ?_
    first
      | exact ⟨(v1, [Value.slice ob nb cpb], X1), ⟨by rw [hone]; exact hO1, by rw [hone]; exact .one' (hvb.keep (hh.less (.cons _ (List.Sublist.refl _)))) hnb, hh⟩, hf.head ⟨rfl, True.intro⟩ (Keep.cons rfl (Keep.cons rfl (Keep.cons rfl (Keep.cons rfl (Keep.cons rfl (Keep.cons rfl (Keep.cons rfl (Keep.cons rfl (Keep.cons rfl (Keep.cons rfl (Keep.cons rfl (Keep.base))))))))))))⟩
      | (have hone : oneW d b = [] := by unfold oneW; rw [if_neg (by rw [hnd]; omega)]
         exact ⟨(v, [], X), ⟨by rw [hone, List.append_nil]; exact hO, by rw [hone]; exact .nil, hh⟩, hf.head ⟨rfl, True.intro⟩ (Keep.cons rfl (Keep.cons rfl (Keep.cons rfl (Keep.cons rfl (Keep.cons rfl (Keep.cons rfl (Keep.cons rfl (Keep.cons rfl (Keep.cons rfl (Keep.cons rfl (Keep.cons rfl (Keep.base))))))))))))⟩)
   ·have hG3 := hg3; try simp only [gS] at hG3
    refine sy_skip ?_
    refine then_n ?_
    first
      | exact ⟨(v1, [Value.slice ob nb cpb], X1), ⟨by rw [hone]; exact hO1, by rw [hone]; exact .one' (hvb.keep (hh.less (.cons _ (List.Sublist.refl _)))) hnb, hh⟩, hf.head ⟨rfl, True.intro⟩ (Keep.cons rfl (Keep.cons rfl (Keep.cons rfl (Keep.cons rfl (Keep.cons rfl (Keep.cons rfl (Keep.base)))))))⟩
      | (have hone : oneW d b = [] := by unfold oneW; rw [if_neg (by rw [hnd]; omega)]
         exact ⟨(v, [], X), ⟨by rw [hone, List.append_nil]; exact hO, by rw [hone]; exact .nil, hh⟩, hf.head ⟨rfl, True.intro⟩ (Keep.cons rfl (Keep.cons rfl (Keep.cons rfl (Keep.cons rfl (Keep.cons rfl (Keep.cons rfl (Keep.base)))))))⟩)
  ·rintro q a w ⟨hO1, hD1, hh⟩ hf
   obtain ⟨v1, hs1, X1⟩ := q
   simp only at hO1 hD1 hh hf
   have hc0 : curW d b i k 0 0 = oneW d b := by rw [curW_zero]; simp [allW]
   refine sy_seq ?_
   refine sy_sq ?_
   refine o_v hf hh (yv_move rfl) ?_; clear hf a; intro a hf
   refine o_v hf hh (yv_assign rfl) ?_; clear hf a; intro a hf
   refine o_end ?_
   refine sy_block ?_
   refine sy_loopH (σ := Nat × Value × List Value × List (Nat × Obj)) [4, 11, 12, 24, 25, 26, 27, 28, 29, 30, 31, 32, 33, 34, 35, 36, 37, 38, 39, 40, 41, 42, 43, 44, 45, 46, 47, 48, 49, 50, 51, 52, 53, 54, 55, 56, 57] (fun q => [(11, .int .i64 ((i + q.1 : Nat) : Int)), (4, q.2.1)]) (fun q => fun w' => q.1 ≤ d.l.length - i ∧ OwnSl 34 1 q.2.1 (m + (curW d b i k q.1 0).length) (hs ++ q.2.2.1) q.2.2.2 ∧ HdsAt encP List.length w' q.2.2.2 q.2.2.1 (curW d b i k q.1 0) ∧ Hp u (X.map Prod.fst) ((B5, .cells (rowsV d sa sb ca cb).cells 26) :: q.2.2.2) w') (fun q => d.l.length - i - q.1) ((0, v1, hs1, X1)) hf ?_ ?_ ?_
   · repeat' (first | exact True.intro | refine And.intro rfl ?_)
   · exact ⟨Nat.zero_le _, by rw [hc0]; exact hO1, by rw [hc0]; exact hD1, hh⟩
   ·rintro q a w ⟨hn1, hO1, hD1, hh⟩ hf
    obtain ⟨n1, v1, hs1, X1⟩ := q
    simp only at hn1 hO1 hD1 hh hf ⊢
    refine sy_seq ?_
    refine sy_sq ?_
    refine o_v hf hh (yv_move rfl) ?_; clear hf a; intro a hf
    refine o_v hf hh (yv_fieldAddr Tryd.fo_26_0 rfl) ?_; clear hf a; intro a hf
    refine o_v hf hh (y_ld Tryd.sc_22 rfl) ?_; clear hf a; intro a hf
    refine o_v hf hh (yv_len Tryd.se_22 rfl) ?_; clear hf a; intro a hf
    refine o_v hf hh (yv_bin rfl rfl rfl) ?_; clear hf a; intro a hf
    refine o_end ?_
    refine sy_cond hf rfl (fun hg6 => ?_) (fun hg6 => ?_)
    ·have hG6 := hg6; try simp only [gS] at hG6
     refine sy_skip ?_
     refine then_n ?_
     refine sy_seq ?_
     refine sy_block ?_
     refine sy_sq ?_
     refine o_v hf hh (yv_move rfl) ?_; clear hf a; intro a hf
     refine o_v hf hh (yv_assign rfl) ?_; clear hf a; intro a hf
     refine o_end ?_
     refine sy_block ?_
     refine sy_loopH (σ := Nat × Value × List Value × List (Nat × Obj)) [4, 12, 32, 33, 34, 35, 36, 37, 38, 39, 40, 41, 42, 43, 44, 45, 46, 47, 48, 49, 50, 51, 52, 53, 54, 55, 56, 57] (fun q => [(12, .int .i64 ((k + q.1 : Nat) : Int)), (4, q.2.1)]) (fun q => fun w' => q.1 ≤ d.r.length - k ∧ OwnSl 34 1 q.2.1 (m + (curW d b i k n1 q.1).length) (hs ++ q.2.2.1) q.2.2.2 ∧ HdsAt encP List.length w' q.2.2.2 q.2.2.1 (curW d b i k n1 q.1) ∧ Hp u (X.map Prod.fst) ((B5, .cells (rowsV d sa sb ca cb).cells 26) :: q.2.2.2) w') (fun q => d.r.length - k - q.1) ((0, v1, hs1, X1)) hf ?_ ?_ ?_
     · repeat' (first | exact True.intro | refine And.intro rfl ?_)
     · exact ⟨Nat.zero_le _, hO1, hD1, hh⟩
     ·rintro q a w ⟨hn2, hO2, hD2, hh⟩ hf
      obtain ⟨n2, v2, hs2, X2⟩ := q
      simp only at hn2 hO2 hD2 hh hf ⊢
      refine sy_seq ?_
      refine sy_sq ?_
      refine o_v hf hh (yv_move rfl) ?_; clear hf a; intro a hf
      refine o_v hf hh (yv_fieldAddr Tryd.fo_26_1 rfl) ?_; clear hf a; intro a hf
      refine o_v hf hh (y_ld Tryd.sc_22 rfl) ?_; clear hf a; intro a hf
      refine o_v hf hh (yv_len Tryd.se_22 rfl) ?_; clear hf a; intro a hf
      refine o_v hf hh (yv_bin rfl rfl rfl) ?_; clear hf a; intro a hf
      refine o_end ?_
      refine sy_cond hf rfl (fun hg8 => ?_) (fun hg8 => ?_)
      ·have hG8 := hg8; try simp only [gS] at hG8
       refine sy_skip ?_
       refine then_n ?_
       refine sy_cut (σ := Value × List Value × List (Nat × Obj)) [4, 39, 40, 41, 42, 43, 44, 45, 46, 47, 48, 49, 50, 51, 52, 53, 54, 55, 56, 57] (fun q => [(4, q.1)]) (fun q => fun w' => OwnSl 34 1 q.1 (m + (curW d b i k n1 (n2 + 1)).length) (hs ++ q.2.1) q.2.2 ∧ HdsAt encP List.length w' q.2.2 q.2.1 (curW d b i k n1 (n2 + 1)) ∧ Hp u (X.map Prod.fst) ((B5, .cells (rowsV d sa sb ca cb).cells 26) :: q.2.2) w') hf ?_ ?_
       ·refine sy_block ?_
        refine sy_seq ?_
        have hh0 := hh
        have hA1 := hA.keep (hh.less (.cons _ (List.Sublist.refl _)))
        have hB1 := hB.keep (hh.less (.cons _ (List.Sublist.refl _)))
        have hvb1 := hvb.keep (hh.less (.cons _ (List.Sublist.refl _)))
        have hb5 := hh.get (B5, .cells (rowsV d sa sb ca cb).cells 26) (.head _)
        have hb5n := off_nodup hh
        have hX2 : ∀ x ∈ X2, w.heap[x.1]? = some x.2 := fun x hx => hh.get x (.tail _ hx)
        obtain ⟨u1, rfl⟩ : ∃ z, z = w := ⟨_, rfl⟩
        replace hh := ownSl_hp hO2 hX2
        have hcl := curW_le (d := d) (b := b) (i := i) (k := k) (n := n1) (m := n2 + 1) (by omega) (by omega)
        refine sy_ops ?_
        refine o_v hf hh (y_lds Tryd.ag_26 rfl) ?_; clear hf a; intro a hf
        refine o_v hf hh (yv_move rfl) ?_; clear hf a; intro a hf
        refine o_v hf hh (yv_move rfl) ?_; clear hf a; intro a hf
        refine o_call hf Tryd.en_46 rfl rfl rfl (c46 d sa sb ca cb _ (hA1.keep hh).mk (hB1.keep hh).mk hV (i + n1) (k + n2) (by omega) (by omega)) ?_; clear hf a; intro v a w hR hf
        obtain ⟨rfl, hx⟩ := hR; replace hh := hh.more hx; clear hx
        refine o_end ?_
        refine sy_cond hf rfl (fun hg10 => ?_) (fun hg10 => ?_)
        ·have hG10 := hg10; try simp only [gS] at hG10
         refine sy_treeC (.q 0 0 (.p 2 (.p 4 (.p 5 (.p 6 (.p 9 (.p 10 (.p 11 (.p 12 (.p 13 (.e2 1 (.e2 3 (.e1 7 (.e1 8 (.e1 14 (.p 15 (.fin))))) 7 (.e1 3 (.e1 8 (.e1 14 (.p 15 (.fin)))))) 7 (.e1 1 (.e1 3 (.e1 8 (.e1 14 (.p 15 (.fin))))))))))))))))) [[]] [(AtE u1 (X2.map Prod.fst) [], [])] Tryd.follows (by kernel_rfl) rfl hh (fun w hh => ?_)
         refine mc_q rfl rfl (AtE.of hh (List.nil_subset _)) hf (y_lds Tryd.ag_26 rfl) (.inl rfl) rfl rfl ?_; clear hf a; intro a hf
         refine mc_p rfl   hf (yv_move rfl) (.inl rfl) rfl rfl ?_; clear hf a; intro a hf
         refine mc_p rfl   hf (yv_move rfl) (.inl rfl) rfl rfl ?_; clear hf a; intro a hf
         refine mc_p rfl   hf (yv_move rfl) (.inl rfl) rfl rfl ?_; clear hf a; intro a hf
         refine mc_p rfl   hf (yv_buildA Tryd.ba_45 rfl rfl) (.inl rfl) rfl rfl ?_; clear hf a; intro a hf
         refine mc_p rfl   hf (yv_move rfl) (.inl rfl) rfl rfl ?_; clear hf a; intro a hf
         refine mc_p rfl   hf (yv_cast (yv_add rfl rfl (by omega) (by omega)) (intv (b := ((i + n1 + 1 : Nat) : Int)) (by omega))) (.inl rfl) rfl rfl ?_; clear hf a; intro a hf
         refine mc_p rfl   hf (yv_move rfl) (.inl rfl) rfl rfl ?_; clear hf a; intro a hf
         refine mc_p rfl   hf (yv_cast (yv_add rfl rfl (by omega) (by omega)) (intv (b := ((k + n2 + 1 : Nat) : Int)) (by omega))) (.inl rfl) rfl rfl ?_; clear hf a; intro a hf
         refine mc_p rfl   hf (yv_move rfl) (.inl rfl) rfl rfl ?_; clear hf a; intro a hf
         refine ⟨?_, ?_⟩
         ·refine mc_e rfl fun Q1 => ?_
          refine ops_buildSl hf hh Tryd.bl_34_0 rfl rfl (.inl rfl) rfl ?_; clear hf hh; clear a; intro B44 a w hf hh
          refine ops_end ?_
          refine then_n ⟨⟨fun _ _ => (AtE.of hh (List.nil_subset _)), trivial⟩, ?_⟩
          refine ⟨?_, ?_⟩
          ·refine mc_e rfl fun Q1 => ?_
           first
             | (refine ops_appendV (e := 45) (size := 2) (xs := []) (news := encP b) (X := [(B44, .cells #[] 45)]) (m := 0) hf hh Tryd.eb_34 rfl rfl ⟨rfl, .inr ⟨B44, 0, #[], rfl, rfl, Nat.le_refl _, Nat.zero_le _, rfl, rfl⟩⟩ (hvb1.ext hh.ext).vals (by rw [encP_len, hnb]) (by omega) (encP_1c _) (by simp only [maxLen]; omega) (by omega) (.inl rfl) rfl ?_)
             | (refine ops_appendV (e := 45) (size := 2) (xs := []) (news := encP b) (X := [(B44, .cells #[] 45)]) (m := 0) hf (hh.perm (.swap _ _ _)) Tryd.eb_34 rfl rfl ⟨rfl, .inr ⟨B44, 0, #[], rfl, rfl, Nat.le_refl _, Nat.zero_le _, rfl, rfl⟩⟩ (hvb1.ext hh.ext).vals (by rw [encP_len, hnb]) (by omega) (encP_1c _) (by simp only [maxLen]; omega) (by omega) (.inl rfl) rfl ?_)
           clear hf hh a; intro v4 X4 a w hO4 hf hh
           rw [Nat.zero_add, List.nil_append] at hO4
           refine ops_end ?_
           refine then_n ⟨⟨fun _ _ => (AtE.of hh (List.nil_subset _)), trivial⟩, ?_⟩
           refine mc_e rfl fun Q1 => ?_
           refine ops_buildSl hf hh Tryd.bl_34_1 rfl rfl (.inl rfl) rfl ?_; clear hf hh; clear a; intro B50 a w hf hh
           refine ops_end ?_
           refine then_n ⟨⟨fun _ _ => (AtE.of hh (List.nil_subset _)), trivial⟩, ?_⟩
           refine mc_e rfl fun Q1 => ?_
           first
             | (refine ops_append (e := 45) (size := 2) (xs := encP b) (X := X4) (Z := X2) (m := nb) (q := 1) hf hh Tryd.eb_34 rfl rfl hO4 rfl rfl rfl (by simp only [maxLen]; omega) (by omega) (.inl rfl) rfl ?_)
             | (refine ops_append (e := 45) (size := 2) (xs := encP b) (X := X4) (Z := X2) (m := nb) (q := 1) hf (hh.perm List.perm_middle) Tryd.eb_34 rfl rfl hO4 rfl rfl rfl (by simp only [maxLen]; omega) (by omega) (.inl rfl) rfl ?_)
           clear hf hh a; intro v5 X5 a w hO5 hf hh
           replace hO5 : OwnSl 45 2 v5 (nb + 1) (encP (b ++ [(i + n1, k + n2)])) X5 := by rw [encP_snoc]; exact hO5
           obtain ⟨oa5, cp5, rfl⟩ := OwnSl_val hO5
           refine ops_end ?_
           refine then_n ⟨⟨fun _ _ => (AtE.of hh (List.nil_subset _)), trivial⟩, ?_⟩
           refine mc_e rfl fun Q1 => ?_
           have hcy := curW_yes (d := d) (b := b) (i := i) (k := k) (n := n1) (m := n2) (by assumption)
           have hly := congrArg List.length hcy
           rw [List.length_append] at hly
           have hs2' := hh.less (List.sublist_append_right X5 X2)
           refine o_call hf Tryd.en_87 rfl rfl rfl (ih (d.l.length - (i + n1 + 1)) (by omega) _ (b ++ [(i + n1, k + n2)]) (nb + 1) oa5 cp5 (i + n1 + 1) (k + n2 + 1) v2 (m + (curW d b i k n1 n2).length) (hs ++ hs2) X2 (Nat.le_refl _) (hA1.keep hs2') (hB1.keep hs2') (valsOff_own (Z := []) hO5 (by rw [List.append_nil]; exact hh)) hO2 (fun x hx => hh.get x (List.mem_append_right _ hx)) (by rw [List.length_append, hnb]; rfl) (by omega) (by omega) (by omega) (by omega)) ?_; clear hf a; intro v a w hR hf
           obtain ⟨hs3, X3, hO3, hD3, hx⟩ := hR; obtain ⟨v3, rfl⟩ : ∃ z, z = v := ⟨_, rfl⟩
           have hx2 := (hh.swap' List.perm_append_comm hx).less (List.sublist_append_left _ _)
           replace hh := hx2; clear hx
           refine ops_end ?_
           refine then_n ⟨⟨fun _ _ => (AtE.of hh (List.nil_subset _)), trivial⟩, ?_⟩
           refine mc_p rfl   hf (yv_assign rfl) (.inl rfl) rfl rfl ?_; clear hf a; intro a hf
           refine mc_end ?_
           refine blk_n ?_
           refine then_n ?_
           first
             | exact ⟨(v3, hs2 ++ hs3, X3), ⟨by rw [hcy, List.length_append, ← Nat.add_assoc, ← List.append_assoc]; exact hO3, by rw [hcy]; exact (hD2.keep hx2).app hD3, (hh0.swap' (List.perm_append_comm (l₁ := [(B5, Obj.cells (rowsV d sa sb ca cb).cells 26)])) hx2).perm List.perm_append_comm⟩, hf.head ⟨rfl, True.intro⟩ (Keep.cons rfl (Keep.cons rfl (Keep.cons rfl (Keep.cons rfl (Keep.cons rfl (Keep.cons rfl (Keep.cons rfl (Keep.cons rfl (Keep.cons rfl (Keep.cons rfl (Keep.cons rfl (Keep.cons rfl (Keep.cons rfl (Keep.cons rfl (Keep.cons rfl (Keep.cons rfl (Keep.cons rfl (Keep.cons rfl (Keep.cons rfl (Keep.cons rfl (Keep.base)))))))))))))))))))))⟩
             | (have hcn := curW_no (d := d) (b := b) (i := i) (k := k) (n := n1) (m := n2) (by assumption)
                exact ⟨(v2, hs2, X2), ⟨by rw [hcn]; exact hO2, by rw [hcn]; exact hD2.keep hh, (hh0.swap' (List.perm_append_comm (l₁ := [(B5, Obj.cells (rowsV d sa sb ca cb).cells 26)])) hh).perm List.perm_append_comm⟩, hf.head ⟨rfl, True.intro⟩ (Keep.cons rfl (Keep.cons rfl (Keep.cons rfl (Keep.cons rfl (Keep.cons rfl (Keep.cons rfl (Keep.cons rfl (Keep.cons rfl (Keep.cons rfl (Keep.cons rfl (Keep.cons rfl (Keep.cons rfl (Keep.cons rfl (Keep.cons rfl (Keep.cons rfl (Keep.cons rfl (Keep.cons rfl (Keep.cons rfl (Keep.cons rfl (Keep.cons rfl (Keep.base)))))))))))))))))))))⟩)
          ·refine mc_e rfl fun Q1 => ?_
           refine ops_buildSl hf hh Tryd.bl_34_1 rfl rfl (.inl rfl) rfl ?_; clear hf hh; clear a; intro B50 a w hf hh
           refine ops_end ?_
           refine then_n ⟨⟨fun _ _ => (AtE.of hh (List.nil_subset _)), trivial⟩, ?_⟩
           refine mc_e rfl fun Q1 => ?_
           first
             | (refine ops_appendV (e := 45) (size := 2) (xs := []) (news := encP b) (X := [(B44, .cells #[] 45)]) (m := 0) hf hh Tryd.eb_34 rfl rfl ⟨rfl, .inr ⟨B44, 0, #[], rfl, rfl, Nat.le_refl _, Nat.zero_le _, rfl, rfl⟩⟩ (hvb1.ext hh.ext).vals (by rw [encP_len, hnb]) (by omega) (encP_1c _) (by simp only [maxLen]; omega) (by omega) (.inl rfl) rfl ?_)
             | (refine ops_appendV (e := 45) (size := 2) (xs := []) (news := encP b) (X := [(B44, .cells #[] 45)]) (m := 0) hf (hh.perm (.swap _ _ _)) Tryd.eb_34 rfl rfl ⟨rfl, .inr ⟨B44, 0, #[], rfl, rfl, Nat.le_refl _, Nat.zero_le _, rfl, rfl⟩⟩ (hvb1.ext hh.ext).vals (by rw [encP_len, hnb]) (by omega) (encP_1c _) (by simp only [maxLen]; omega) (by omega) (.inl rfl) rfl ?_)
           clear hf hh a; intro v4 X4 a w hO4 hf hh
           rw [Nat.zero_add, List.nil_append] at hO4
           refine ops_end ?_
           refine then_n ⟨⟨fun _ _ => (AtE.of hh (List.nil_subset _)), trivial⟩, ?_⟩
           refine mc_e rfl fun Q1 => ?_
           first
             | (refine ops_append (e := 45) (size := 2) (xs := encP b) (X := X4) (Z := X2) (m := nb) (q := 1) hf hh Tryd.eb_34 rfl rfl hO4 rfl rfl rfl (by simp only [maxLen]; omega) (by omega) (.inl rfl) rfl ?_)
             | (refine ops_append (e := 45) (size := 2) (xs := encP b) (X := X4) (Z := X2) (m := nb) (q := 1) hf (hh.perm List.perm_middle) Tryd.eb_34 rfl rfl hO4 rfl rfl rfl (by simp only [maxLen]; omega) (by omega) (.inl rfl) rfl ?_)
           clear hf hh a; intro v5 X5 a w hO5 hf hh
           replace hO5 : OwnSl 45 2 v5 (nb + 1) (encP (b ++ [(i + n1, k + n2)])) X5 := by rw [encP_snoc]; exact hO5
           obtain ⟨oa5, cp5, rfl⟩ := OwnSl_val hO5
           refine ops_end ?_
           refine then_n ⟨⟨fun _ _ => (AtE.of hh (List.nil_subset _)), trivial⟩, ?_⟩
           refine mc_e rfl fun Q1 => ?_
           have hcy := curW_yes (d := d) (b := b) (i := i) (k := k) (n := n1) (m := n2) (by assumption)
           have hly := congrArg List.length hcy
           rw [List.length_append] at hly
           have hs2' := hh.less (List.sublist_append_right X5 X2)
           refine o_call hf Tryd.en_87 rfl rfl rfl (ih (d.l.length - (i + n1 + 1)) (by omega) _ (b ++ [(i + n1, k + n2)]) (nb + 1) oa5 cp5 (i + n1 + 1) (k + n2 + 1) v2 (m + (curW d b i k n1 n2).length) (hs ++ hs2) X2 (Nat.le_refl _) (hA1.keep hs2') (hB1.keep hs2') (valsOff_own (Z := []) hO5 (by rw [List.append_nil]; exact hh)) hO2 (fun x hx => hh.get x (List.mem_append_right _ hx)) (by rw [List.length_append, hnb]; rfl) (by omega) (by omega) (by omega) (by omega)) ?_; clear hf a; intro v a w hR hf
           obtain ⟨hs3, X3, hO3, hD3, hx⟩ := hR; obtain ⟨v3, rfl⟩ : ∃ z, z = v := ⟨_, rfl⟩
           have hx2 := (hh.swap' List.perm_append_comm hx).less (List.sublist_append_left _ _)
           replace hh := hx2; clear hx
           refine ops_end ?_
           refine then_n ⟨⟨fun _ _ => (AtE.of hh (List.nil_subset _)), trivial⟩, ?_⟩
           refine mc_p rfl   hf (yv_assign rfl) (.inl rfl) rfl rfl ?_; clear hf a; intro a hf
           refine mc_end ?_
           refine blk_n ?_
           refine then_n ?_
           first
             | exact ⟨(v3, hs2 ++ hs3, X3), ⟨by rw [hcy, List.length_append, ← Nat.add_assoc, ← List.append_assoc]; exact hO3, by rw [hcy]; exact (hD2.keep hx2).app hD3, (hh0.swap' (List.perm_append_comm (l₁ := [(B5, Obj.cells (rowsV d sa sb ca cb).cells 26)])) hx2).perm List.perm_append_comm⟩, hf.head ⟨rfl, True.intro⟩ (Keep.cons rfl (Keep.cons rfl (Keep.cons rfl (Keep.cons rfl (Keep.cons rfl (Keep.cons rfl (Keep.cons rfl (Keep.cons rfl (Keep.cons rfl (Keep.cons rfl (Keep.cons rfl (Keep.cons rfl (Keep.cons rfl (Keep.cons rfl (Keep.cons rfl (Keep.cons rfl (Keep.cons rfl (Keep.cons rfl (Keep.cons rfl (Keep.cons rfl (Keep.base)))))))))))))))))))))⟩
             | (have hcn := curW_no (d := d) (b := b) (i := i) (k := k) (n := n1) (m := n2) (by assumption)
                exact ⟨(v2, hs2, X2), ⟨by rw [hcn]; exact hO2, by rw [hcn]; exact hD2.keep hh, (hh0.swap' (List.perm_append_comm (l₁ := [(B5, Obj.cells (rowsV d sa sb ca cb).cells 26)])) hh).perm List.perm_append_comm⟩, hf.head ⟨rfl, True.intro⟩ (Keep.cons rfl (Keep.cons rfl (Keep.cons rfl (Keep.cons rfl (Keep.cons rfl (Keep.cons rfl (Keep.cons rfl (Keep.cons rfl (Keep.cons rfl (Keep.cons rfl (Keep.cons rfl (Keep.cons rfl (Keep.cons rfl (Keep.cons rfl (Keep.cons rfl (Keep.cons rfl (Keep.cons rfl (Keep.cons rfl (Keep.cons rfl (Keep.cons rfl (Keep.base)))))))))))))))))))))⟩)
         ·refine mc_e rfl fun Q1 => ?_
          refine ops_buildSl hf hh Tryd.bl_34_1 rfl rfl (.inl rfl) rfl ?_; clear hf hh; clear a; intro B50 a w hf hh
          refine ops_end ?_
          refine then_n ⟨⟨fun _ _ => (AtE.of hh (List.nil_subset _)), trivial⟩, ?_⟩
          refine mc_e rfl fun Q1 => ?_
          refine ops_buildSl hf hh Tryd.bl_34_0 rfl rfl (.inl rfl) rfl ?_; clear hf hh; clear a; intro B44 a w hf hh
          refine ops_end ?_
          refine then_n ⟨⟨fun _ _ => (AtE.of hh (List.nil_subset _)), trivial⟩, ?_⟩
          refine mc_e rfl fun Q1 => ?_
          first
            | (refine ops_appendV (e := 45) (size := 2) (xs := []) (news := encP b) (X := [(B44, .cells #[] 45)]) (m := 0) hf hh Tryd.eb_34 rfl rfl ⟨rfl, .inr ⟨B44, 0, #[], rfl, rfl, Nat.le_refl _, Nat.zero_le _, rfl, rfl⟩⟩ (hvb1.ext hh.ext).vals (by rw [encP_len, hnb]) (by omega) (encP_1c _) (by simp only [maxLen]; omega) (by omega) (.inl rfl) rfl ?_)
            | (refine ops_appendV (e := 45) (size := 2) (xs := []) (news := encP b) (X := [(B44, .cells #[] 45)]) (m := 0) hf (hh.perm (.swap _ _ _)) Tryd.eb_34 rfl rfl ⟨rfl, .inr ⟨B44, 0, #[], rfl, rfl, Nat.le_refl _, Nat.zero_le _, rfl, rfl⟩⟩ (hvb1.ext hh.ext).vals (by rw [encP_len, hnb]) (by omega) (encP_1c _) (by simp only [maxLen]; omega) (by omega) (.inl rfl) rfl ?_)
          clear hf hh a; intro v4 X4 a w hO4 hf hh
          rw [Nat.zero_add, List.nil_append] at hO4
          refine ops_end ?_
          refine then_n ⟨⟨fun _ _ => (AtE.of hh (List.nil_subset _)), trivial⟩, ?_⟩
          refine mc_e rfl fun Q1 => ?_
          first
            | (refine ops_append (e := 45) (size := 2) (xs := encP b) (X := X4) (Z := X2) (m := nb) (q := 1) hf hh Tryd.eb_34 rfl rfl hO4 rfl rfl rfl (by simp only [maxLen]; omega) (by omega) (.inl rfl) rfl ?_)
            | (refine ops_append (e := 45) (size := 2) (xs := encP b) (X := X4) (Z := X2) (m := nb) (q := 1) hf (hh.perm List.perm_middle) Tryd.eb_34 rfl rfl hO4 rfl rfl rfl (by simp only [maxLen]; omega) (by omega) (.inl rfl) rfl ?_)
          clear hf hh a; intro v5 X5 a w hO5 hf hh
          replace hO5 : OwnSl 45 2 v5 (nb + 1) (encP (b ++ [(i + n1, k + n2)])) X5 := by rw [encP_snoc]; exact hO5
          obtain ⟨oa5, cp5, rfl⟩ := OwnSl_val hO5
          refine ops_end ?_
          refine then_n ⟨⟨fun _ _ => (AtE.of hh (List.nil_subset _)), trivial⟩, ?_⟩
          refine mc_e rfl fun Q1 => ?_
          have hcy := curW_yes (d := d) (b := b) (i := i) (k := k) (n := n1) (m := n2) (by assumption)
          have hly := congrArg List.length hcy
          rw [List.length_append] at hly
          have hs2' := hh.less (List.sublist_append_right X5 X2)
          refine o_call hf Tryd.en_87 rfl rfl rfl (ih (d.l.length - (i + n1 + 1)) (by omega) _ (b ++ [(i + n1, k + n2)]) (nb + 1) oa5 cp5 (i + n1 + 1) (k + n2 + 1) v2 (m + (curW d b i k n1 n2).length) (hs ++ hs2) X2 (Nat.le_refl _) (hA1.keep hs2') (hB1.keep hs2') (valsOff_own (Z := []) hO5 (by rw [List.append_nil]; exact hh)) hO2 (fun x hx => hh.get x (List.mem_append_right _ hx)) (by rw [List.length_append, hnb]; rfl) (by omega) (by omega) (by omega) (by omega)) ?_; clear hf a; intro v a w hR hf
          obtain ⟨hs3, X3, hO3, hD3, hx⟩ := hR; obtain ⟨v3, rfl⟩ : ∃ z, z = v := ⟨_, rfl⟩
          have hx2 := (hh.swap' List.perm_append_comm hx).less (List.sublist_append_left _ _)
          replace hh := hx2; clear hx
          refine ops_end ?_
          refine then_n ⟨⟨fun _ _ => (AtE.of hh (List.nil_subset _)), trivial⟩, ?_⟩
          refine mc_p rfl   hf (yv_assign rfl) (.inl rfl) rfl rfl ?_; clear hf a; intro a hf
          refine mc_end ?_
          refine blk_n ?_
          refine then_n ?_
          first
            | exact ⟨(v3, hs2 ++ hs3, X3), ⟨by rw [hcy, List.length_append, ← Nat.add_assoc, ← List.append_assoc]; exact hO3, by rw [hcy]; exact (hD2.keep hx2).app hD3, (hh0.swap' (List.perm_append_comm (l₁ := [(B5, Obj.cells (rowsV d sa sb ca cb).cells 26)])) hx2).perm List.perm_append_comm⟩, hf.head ⟨rfl, True.intro⟩ (Keep.cons rfl (Keep.cons rfl (Keep.cons rfl (Keep.cons rfl (Keep.cons rfl (Keep.cons rfl (Keep.cons rfl (Keep.cons rfl (Keep.cons rfl (Keep.cons rfl (Keep.cons rfl (Keep.cons rfl (Keep.cons rfl (Keep.cons rfl (Keep.cons rfl (Keep.cons rfl (Keep.cons rfl (Keep.cons rfl (Keep.cons rfl (Keep.cons rfl (Keep.base)))))))))))))))))))))⟩
            | (have hcn := curW_no (d := d) (b := b) (i := i) (k := k) (n := n1) (m := n2) (by assumption)
               exact ⟨(v2, hs2, X2), ⟨by rw [hcn]; exact hO2, by rw [hcn]; exact hD2.keep hh, (hh0.swap' (List.perm_append_comm (l₁ := [(B5, Obj.cells (rowsV d sa sb ca cb).cells 26)])) hh).perm List.perm_append_comm⟩, hf.head ⟨rfl, True.intro⟩ (Keep.cons rfl (Keep.cons rfl (Keep.cons rfl (Keep.cons rfl (Keep.cons rfl (Keep.cons rfl (Keep.cons rfl (Keep.cons rfl (Keep.cons rfl (Keep.cons rfl (Keep.cons rfl (Keep.cons rfl (Keep.cons rfl (Keep.cons rfl (Keep.cons rfl (Keep.cons rfl (Keep.cons rfl (Keep.cons rfl (Keep.cons rfl (Keep.cons rfl (Keep.base)))))))))))))))))))))⟩)
        ·have hG10 := hg10; try simp only [gS] at hG10
         refine sy_skip ?_
         refine blk_n ?_
         refine then_n ?_
         first
           | exact ⟨(v3, hs2 ++ hs3, X3), ⟨by rw [hcy, List.length_append, ← Nat.add_assoc, ← List.append_assoc]; exact hO3, by rw [hcy]; exact (hD2.keep hx2).app hD3, (hh0.swap' (List.perm_append_comm (l₁ := [(B5, Obj.cells (rowsV d sa sb ca cb).cells 26)])) hx2).perm List.perm_append_comm⟩, hf.head ⟨rfl, True.intro⟩ (Keep.cons rfl (Keep.cons rfl (Keep.cons rfl (Keep.cons rfl (Keep.base)))))⟩
           | (have hcn := curW_no (d := d) (b := b) (i := i) (k := k) (n := n1) (m := n2) (by assumption)
              exact ⟨(v2, hs2, X2), ⟨by rw [hcn]; exact hO2, by rw [hcn]; exact hD2.keep hh, (hh0.swap' (List.perm_append_comm (l₁ := [(B5, Obj.cells (rowsV d sa sb ca cb).cells 26)])) hh).perm List.perm_append_comm⟩, hf.head ⟨rfl, True.intro⟩ (Keep.cons rfl (Keep.cons rfl (Keep.cons rfl (Keep.cons rfl (Keep.base)))))⟩)
       ·rintro q a w ⟨hO3, hD3, hh⟩ hf
        obtain ⟨v3, hs3, X3⟩ := q
        simp only at hO3 hD3 hh hf
        refine sy_ops ?_
        refine o_v hf hh (yv_move rfl) ?_; clear hf a; intro a hf
        refine o_v hf hh (y_add rfl rfl) ?_; clear hf a; intro a hf
        refine o_v hf hh (yv_assign rfl) ?_; clear hf a; intro a hf
        refine ops_end ?_
        refine then_n ?_
        exact ⟨(n2 + 1, v3, hs3, X3), ⟨⟨by simp only; omega, hO3, hD3, hh⟩, hf.head ⟨rfl, rfl, True.intro⟩ (Keep.cons rfl (Keep.cons rfl (Keep.cons rfl (Keep.app rfl (Keep.rm rfl (Keep.cons rfl (Keep.cons rfl (Keep.cons rfl (Keep.cons rfl (Keep.cons rfl (Keep.app rfl (Keep.rm rfl Keep.base))))))))))))⟩, by simp only; omega⟩
      ·have hG8 := hg8; try simp only [gS] at hG8
       refine sy_exit ?_
       refine then_e ?_
       refine then_e ?_
       refine blk_e ?_
       refine blk_n ?_
       refine then_n ?_
       refine sy_ops ?_
       refine o_v hf hh (yv_move rfl) ?_; clear hf a; intro a hf
       refine o_v hf hh (y_add rfl rfl) ?_; clear hf a; intro a hf
       refine o_v hf hh (yv_assign rfl) ?_; clear hf a; intro a hf
       refine ops_end ?_
       refine then_n ?_
       have hcn : curW d b i k (n1 + 1) 0 = curW d b i k n1 n2 := by rw [curW_zero, ← curW_next, show d.r.length - k = n2 by omega]
       exact ⟨(n1 + 1, v2, hs2, X2), ⟨⟨by simp only; omega, by simp only [hcn]; exact hO2, by simp only [hcn]; exact hD2, hh⟩, hf.head ⟨rfl, rfl, True.intro⟩ (Keep.cons rfl (Keep.cons rfl (Keep.cons rfl (Keep.cons rfl (Keep.cons rfl (Keep.cons rfl (Keep.cons rfl (Keep.cons rfl (Keep.app rfl (Keep.rm rfl (Keep.cons rfl (Keep.cons rfl (Keep.cons rfl (Keep.cons rfl (Keep.cons rfl (Keep.cons rfl (Keep.cons rfl (Keep.app rfl (Keep.rm rfl Keep.base)))))))))))))))))))⟩, by simp only; omega⟩
    ·have hG6 := hg6; try simp only [gS] at hG6
     refine sy_exit ?_
     refine then_e ?_
     refine then_e ?_
     refine blk_e ?_
     refine then_n ?_
     refine sy_sq ?_
     refine o_v hf hh (yv_move rfl) ?_; clear hf a; intro a hf
     refine o_v hf hh (yv_assign rfl) ?_; clear hf a; intro a hf
     refine o_end ?_
     refine sy_ret ?_
     refine ret_r hf rfl rfl ?_
     have hce : curW d b i k n1 0 = wysF d b i k := by rw [curW_zero, wysF_all, show d.l.length - i = n1 by omega]
     rw [hce] at hO1 hD1
     exact ⟨hs1, X1, hO1, hD1, hh.less (.cons _ (List.Sublist.refl _))⟩
end Go.Proofs.YtemmhdgaagaglaaDoor
namespace Go.MatM
open Go Go.Sy Go.Proofs
/-- The longest of some lists, the first one. -/
def bst (b : List Pr) (l : List (List Pr)) : List Pr := l.foldl (fun b c => if b.length < c.length then c else b) b
theorem bst_snoc (b c : List Pr) (l : List (List Pr)) : bst b (l ++ [c]) = if (bst b l).length < c.length then c else bst b l := by
  unfold bst; rw [List.foldl_append]; rfl
theorem bst_of {n : Nat} {g : List Pr} : ∀ (l : List (List Pr)) (b : List Pr), (∀ c ∈ l, c.length ≤ n) → (b.length = n → bst b l = b) ∧ (b.length < n → l.find? (fun c => decide (c.length = n)) = some g → bst b l = g)
  | [], b, _ => ⟨fun _ => rfl, fun _ h => by simp at h⟩
  | c :: l, b, h => by
    have hc := h c (.head _)
    have ih := fun b => bst_of (n := n) (g := g) l b fun x hx => h x (.tail _ hx)
    have e : bst b (c :: l) = bst (if b.length < c.length then c else b) l := rfl
    rw [e]
    constructor
    · intro hb
      rw [if_neg (by omega)]
      exact (ih b).1 hb
    · intro hb hf
      rw [List.find?_cons] at hf
      by_cases hn : c.length = n
      · rw [decide_eq_true hn] at hf
        have e2 : c = g := Option.some.inj hf
        rw [if_pos (by omega), ← e2]
        exact (ih c).1 hn
      · rw [decide_eq_false hn] at hf
        split
        · exact (ih c).2 (by omega) hf
        · exact (ih b).2 hb hf
theorem bst_wys {d : RowsD} (h : opE d true = 0) {c0 : List Pr} {l : List (List Pr)} (hw : wys d = c0 :: l) : bst c0 (wys d) = fewL d := by
  have hi := (opE_zero.1 h).2.2
  have hn := (isD_iff d).1 hi
  have hf : (chs (fitD d) d.l.length d.r.length 0 0).find? (fun c => decide (c.length = mosD d)) = some (fewL d) := by
    unfold fewL; rw [if_pos h]
    exact chF_find (F := fitD d) (L := d.l.length) (R := d.r.length) (f := d.l.length) (i := 0) (k := 0) (by omega) rfl
  have hf2 : (wys d).find? (fun c => decide (c.length = mosD d)) = some (fewL d) := by
    rw [wys_eq, List.find?_filter, ← hf]
    congr 1
    funext c
    rw [Bool.eq_iff_iff]
    simp only [Bool.and_eq_true, decide_eq_true_eq]
    omega
  have hall : ∀ c ∈ wys d, c.length ≤ mosD d := fun c hc => le_mos (mem_wys.1 hc).1
  obtain ⟨h1, h2⟩ := bst_of (n := mosD d) (g := fewL d) (wys d) c0 hall
  have hc0 := hall c0 (by rw [hw]; exact .head _)
  rcases Nat.lt_or_ge c0.length (mosD d) with h3 | h3
  · exact h2 h3 hf2
  · rw [hw, List.find?_cons, decide_eq_true (show c0.length = mosD d by omega)] at hf2
    rw [h1 (by omega)]
    exact Option.some.inj hf2
theorem wys_head {d : RowsD} (h : opE d true = 0) : ∃ c l, wys d = c :: l := by
  have h1 := (opE_zero.1 h).2.2
  have h2 := wys_none d
  match hw : wys d with
  | [] => rw [hw] at h2; have := h2.1 rfl; rw [h1] at this; cases this
  | c :: l => exact ⟨c, l, rfl⟩
theorem wys_long {d : RowsD} (hV : Valid d) : (wys d).length ≤ 1048576 := wysF_len hV [] 0 0
theorem wys_len {d : RowsD} {c : List Pr} (hV : Valid d) (hc : c ∈ wys d) : c.length ≤ 10 := by
  have h1 := le_mos (mem_wys.1 hc).1
  have h2 := (mos_le (fitD d) d.l.length d.r.length 0 0).1
  have := hV.nl
  omega
theorem few_le (d : RowsD) : (fewL d).length ≤ d.l.length := by
  by_cases h : opE d true = 0
  · rw [(fewL_eq h).2]; exact (mosD_le d).1
  · rw [fewL_none h]; exact Nat.zero_le _
theorem fewH_len {d : RowsD} (h : opE d true = 0) : fewH d = ((d.l.length : Nat) : Int) + ((d.r.length : Nat) : Int) - 2 * (((fewL d).length : Nat) : Int) := by
  rw [fewH_eq h, (fewL_eq h).2]; omega
end Go.MatM
namespace Go.Proofs.YtemmhdgaagaglaaDoor
open Go Go.Sy Go.MatM
theorem c48 (d : RowsD) (sa sb : Option Addr) (ca cb : Nat) (u : World) (hA : MkAt u sa d.l) (hB : MkAt u sb d.r) (hV : Valid d) : Calls Tryd.prog 48 #[rowsV d sa sb ca cb] u (Ret fun v w' => ∃ hs X, OwnSl 34 1 v (wys d).length hs X ∧ HdsAt encP List.length w' X hs (wys d) ∧ Hp u [] X w') := by
  refine calls_of Tryd.func48 rfl rfl (fun a hf => ?_)
  have hh := Hp.init u []
  have hlw := wys_long hV
  refine sy_sq ?_
  refine o_box hf hh ?_; clear hf hh a; intro B1 a w hf hh
  refine o_v hf hh (yv_assign rfl) ?_; clear hf a; intro a hf
  refine o_end ?_
  refine sy_sq ?_
  refine o_v hf hh (y_lds Tryd.ag_26 rfl) ?_; clear hf a; intro a hf
  refine o_call hf Tryd.en_87 rfl rfl rfl (c87 d sa sb ca cb hV d.l.length _ [] 0 none 0 0 0 (.slice none 0 0) 0 [] [] (by omega) (MkOff.of (hA.ext hh.ext)) (MkOff.of (hB.ext hh.ext)) (.inl rfl) (OwnSl.nil _ _) (by simp) rfl (by omega) (by omega) (by omega) (by show 0 + (wys d).length ≤ _; omega)) ?_; clear hf a; intro v a w hR hf
  obtain ⟨hs, X, hO, hD, hx⟩ := hR; obtain ⟨vo, rfl⟩ : ∃ z, z = v := ⟨_, rfl⟩
  replace hh := (hh.join hx).less (List.sublist_append_left _ _); clear hx
  replace hO : OwnSl 34 1 vo (wys d).length hs X := by rw [Nat.zero_add, List.nil_append] at hO; exact hO
  refine o_v hf hh (yv_assign rfl) ?_; clear hf a; intro a hf
  refine o_end ?_
  refine sy_ret ?_
  refine ret_r hf rfl rfl ?_
  exact ⟨hs, X, hO, hD, hh⟩
theorem c52 (d : RowsD) (sa sb : Option Addr) (ca cb : Nat) (u : World) (hA : MkAt u sa d.l) (hB : MkAt u sb d.r) (hl : d.l.length ≤ 1000) (hr : d.r.length ≤ 1000) (ok : Bool) : Calls Tryd.prog 52 #[rowsV d sa sb ca cb, .bool ok] u (Ret fun v w' => ∃ s hs X, v = .tuple #[s, .int .i64 (opE d ok)] ∧ (opE d ok = 0 → OwnSl 34 1 s (wys d).length hs X ∧ HdsAt encP List.length w' X hs (wys d)) ∧ Hp u [] X w') := by
  refine calls_of Tryd.func52 rfl rfl (fun a hf => ?_)
  have hh := Hp.init u []
  refine sy_sq ?_
  refine o_box hf hh ?_; clear hf hh a; intro B2 a w hf hh
  refine o_v hf hh (yv_assign rfl) ?_; clear hf a; intro a hf
  refine o_v hf hh (yv_assign rfl) ?_; clear hf a; intro a hf
  refine o_end ?_
  refine sy_seq ?_
  refine sy_sq ?_
  refine o_v hf hh (y_lds Tryd.ag_26 rfl) ?_; clear hf a; intro a hf
  refine o_call hf Tryd.en_26 rfl rfl rfl (c26 d sa sb ca cb _ (hA.ext hh.ext) (hB.ext hh.ext) (by omega) (by omega)) ?_; clear hf a; intro v a w hR hf
  obtain ⟨rfl, hx⟩ := hR; replace hh := hh.more hx; clear hx
  refine o_v hf hh (yv_not rfl) ?_; clear hf a; intro a hf
  refine o_end ?_
  refine sy_cond hf rfl (fun hg2 => ?_) (fun hg2 => ?_)
  ·have hG2 := hg2; try simp only [gS] at hG2
   refine sy_sq ?_
   refine o_v hf hh (yv_assign rfl) ?_; clear hf a; intro a hf
   refine o_v hf hh (yv_assign rfl) ?_; clear hf a; intro a hf
   refine o_end ?_
   refine sy_ret ?_
   refine then_r ?_
   refine ret_r hf rfl rfl ?_
   have e : opE d ok = 1 := by unfold opE; rw [if_pos (by simp_all)]
   rw [e]; exact ⟨_, [], [], rfl, fun h => absurd h (by decide), hh.less (List.nil_sublist _)⟩
  ·have hG2 := hg2; try simp only [gS] at hG2
   refine sy_skip ?_
   refine then_n ?_
   refine sy_seq ?_
   refine sy_sq ?_
   refine o_v hf hh (yv_move rfl) ?_; clear hf a; intro a hf
   refine o_v hf hh (yv_not rfl) ?_; clear hf a; intro a hf
   refine o_end ?_
   refine sy_cond hf rfl (fun hg4 => ?_) (fun hg4 => ?_)
   ·have hG4 := hg4; try simp only [gS] at hG4
    refine sy_sq ?_
    refine o_v hf hh (yv_assign rfl) ?_; clear hf a; intro a hf
    refine o_v hf hh (yv_assign rfl) ?_; clear hf a; intro a hf
    refine o_end ?_
    refine sy_ret ?_
    refine then_r ?_
    refine ret_r hf rfl rfl ?_
    have e : opE d ok = 2 := by unfold opE; rw [if_neg (by simp_all), if_pos (by simp_all)]
    rw [e]; exact ⟨_, [], [], rfl, fun h => absurd h (by decide), hh.less (List.nil_sublist _)⟩
   ·have hG4 := hg4; try simp only [gS] at hG4
    refine sy_skip ?_
    refine then_n ?_
    refine sy_seq ?_
    have hok : okRows d = true := by simp_all
    have hV := (okRows_iff d).1 hok
    refine sy_ops ?_
    refine o_v hf hh (y_lds Tryd.ag_26 rfl) ?_; clear hf a; intro a hf
    refine o_call hf Tryd.en_48 rfl rfl rfl (c48 d sa sb ca cb _ (hA.ext hh.ext) (hB.ext hh.ext) hV) ?_; clear hf a; intro v a w hR hf
    obtain ⟨hs, X, hO, hD, hx⟩ := hR; obtain ⟨vo, rfl⟩ : ∃ z, z = v := ⟨_, rfl⟩
    replace hh := (hh.join hx).less (List.sublist_append_left _ _); clear hx
    obtain ⟨oa, cp, rfl⟩ := OwnSl_val hO
    refine o_v hf hh (yv_assign rfl) ?_; clear hf a; intro a hf
    refine o_end ?_
    refine sy_seq ?_
    refine sy_sq ?_
    refine o_v hf hh (yv_move rfl) ?_; clear hf a; intro a hf
    refine o_v hf hh (yv_len Tryd.se_77 rfl) ?_; clear hf a; intro a hf
    refine o_v hf hh (yv_bin rfl rfl rfl) ?_; clear hf a; intro a hf
    refine o_end ?_
    refine sy_cond hf rfl (fun hg7 => ?_) (fun hg7 => ?_)
    ·have hG7 := hg7; try simp only [gS] at hG7
     refine sy_sq ?_
     refine o_v hf hh (yv_assign rfl) ?_; clear hf a; intro a hf
     refine o_v hf hh (yv_assign rfl) ?_; clear hf a; intro a hf
     refine o_end ?_
     refine sy_ret ?_
     refine then_r ?_
     refine ret_r hf rfl rfl ?_
     have hi := (wys_none d).1 (by omega)
     have e : opE d ok = 4 := by unfold opE; rw [if_neg (by simp_all), if_neg (by simp_all), if_pos hi]
     rw [e]; exact ⟨_, [], [], rfl, fun h => absurd h (by decide), hh.less (List.nil_sublist _)⟩
    ·have hG7 := hg7; try simp only [gS] at hG7
     refine sy_skip ?_
     refine then_n ?_
     refine sy_sq ?_
     refine o_v hf hh (yv_move rfl) ?_; clear hf a; intro a hf
     refine o_v hf hh (yv_assign rfl) ?_; clear hf a; intro a hf
     refine o_v hf hh (yv_assign rfl) ?_; clear hf a; intro a hf
     refine o_end ?_
     refine sy_ret ?_
     refine ret_r hf rfl rfl ?_
     have hi : isD d = true := by
       cases h : isD d with
       | true => rfl
       | false => have := (wys_none d).2 h; omega
     have e : opE d ok = 0 := opE_zero.2 ⟨hok, by simp_all, hi⟩
     rw [e]; exact ⟨_, hs, X, rfl, fun _ => ⟨hO, hD⟩, hh⟩
theorem c18 (d : RowsD) (sa sb : Option Addr) (ca cb : Nat) (u : World) (hA : MkAt u sa d.l) (hB : MkAt u sb d.r) (hl : d.l.length ≤ 1000) (hr : d.r.length ≤ 1000) : Calls Tryd.prog 18 #[rowsV d sa sb ca cb] u (Ret fun v w' => v = .tuple #[.int .i64 (countV d), .int .i64 (countE d)] ∧ Ext [] u w') := by
  refine calls_of Tryd.func18 rfl rfl (fun a hf => ?_)
  have hh := Hp.init u []
  refine sy_sq ?_
  refine o_box hf hh ?_; clear hf hh a; intro B1 a w hf hh
  refine o_v hf hh (yv_assign rfl) ?_; clear hf a; intro a hf
  refine o_v hf hh (yv_assign rfl) ?_; clear hf a; intro a hf
  refine o_end ?_
  refine sy_seq ?_
  refine sy_sq ?_
  refine o_v hf hh (y_lds Tryd.ag_26 rfl) ?_; clear hf a; intro a hf
  refine o_call hf Tryd.en_26 rfl rfl rfl (c26 d sa sb ca cb _ (hA.ext hh.ext) (hB.ext hh.ext) (by omega) (by omega)) ?_; clear hf a; intro v a w hR hf
  obtain ⟨rfl, hx⟩ := hR; replace hh := hh.more hx; clear hx
  refine o_v hf hh (yv_not rfl) ?_; clear hf a; intro a hf
  refine o_end ?_
  refine sy_cond hf rfl (fun hg2 => ?_) (fun hg2 => ?_)
  ·have hG2 := hg2; try simp only [gS] at hG2
   refine sy_sq ?_
   refine o_v hf hh (yv_assign rfl) ?_; clear hf a; intro a hf
   refine o_v hf hh (yv_assign rfl) ?_; clear hf a; intro a hf
   refine o_end ?_
   refine sy_ret ?_
   refine then_r ?_
   refine ret_r hf rfl rfl ?_
   have e : okRows d = false := by simp_all
   exact ⟨by unfold countV countE; simp [tup, e], hh.ext⟩
  ·have hG2 := hg2; try simp only [gS] at hG2
   refine sy_skip ?_
   refine then_n ?_
   refine sy_seq ?_
   have hok : okRows d = true := by simp_all
   have hV := (okRows_iff d).1 hok
   refine sy_ops ?_
   refine o_v hf hh (y_lds Tryd.ag_26 rfl) ?_; clear hf a; intro a hf
   refine o_call hf Tryd.en_48 rfl rfl rfl (c48 d sa sb ca cb _ (hA.ext hh.ext) (hB.ext hh.ext) hV) ?_; clear hf a; intro v a w hR hf
   obtain ⟨hs, X, hO, hD, hx⟩ := hR; obtain ⟨vo, rfl⟩ : ∃ z, z = v := ⟨_, rfl⟩
   replace hh := (hh.join hx).less (List.sublist_append_left _ _); clear hx
   obtain ⟨oa, cp, rfl⟩ := OwnSl_val hO
   refine o_v hf hh (yv_len Tryd.se_77 rfl) ?_; clear hf a; intro a hf
   refine o_v hf hh (yv_assign rfl) ?_; clear hf a; intro a hf
   refine o_v hf hh (yv_assign rfl) ?_; clear hf a; intro a hf
   refine o_end ?_
   refine sy_ret ?_
   refine ret_r hf rfl rfl ?_
   exact ⟨by unfold countV countE; rw [hok, if_pos rfl, if_pos rfl, ← wys_cnt]; rfl, hh.ext⟩
theorem c45 (d : RowsD) (sa sb : Option Addr) (ca cb : Nat) (u : World) (hA : MkAt u sa d.l) (hB : MkAt u sb d.r) (l r : Int) (hl : d.l.length ≤ 1000) (hr : d.r.length ≤ 1000) : Calls Tryd.prog 45 #[rowsV d sa sb ca cb, .int .i64 l, .int .i64 r] u (Ret fun v w' => v = .bool (inB l d.l.length && inB r d.r.length) ∧ Ext [] u w') := by
  refine calls_of Tryd.func45 rfl rfl (fun a hf => ?_)
  have hh := Hp.init u []
  refine sy_sq ?_
  refine o_box hf hh ?_; clear hf hh a; intro B3 a w hf hh
  refine o_v hf hh (yv_assign rfl) ?_; clear hf a; intro a hf
  refine o_end ?_
  refine sy_sq ?_
  refine o_v hf hh (yv_move rfl) ?_; clear hf a; intro a hf
  refine o_v hf hh (yv_fieldAddr Tryd.fo_26_0 rfl) ?_; clear hf a; intro a hf
  refine o_v hf hh (y_ld Tryd.sc_22 rfl) ?_; clear hf a; intro a hf
  refine o_v hf hh (yv_len Tryd.se_22 rfl) ?_; clear hf a; intro a hf
  refine o_v hf hh (y_sub rfl rfl) ?_; clear hf a; intro a hf
  refine o_call hf Tryd.en_58 rfl rfl rfl (c58 _ _ _ _) ?_; clear hf a; intro v a w hR hf
  obtain ⟨rfl, hx⟩ := hR; replace hh := hh.more hx; clear hx
  refine o_v hf hh (yv_move rfl) ?_; clear hf a; intro a hf
  refine guard_split hf (t := 13) rfl (fun hg2 => ?_) (fun hg2 => ?_)
  ·have hG2 := hg2; try simp only [gS] at hG2
   refine o_v hf hh (yv_move rfl) ?_; clear hf a; intro a hf
   refine o_v hf hh (yv_fieldAddr Tryd.fo_26_1 rfl) ?_; clear hf a; intro a hf
   refine o_v hf hh (y_ld Tryd.sc_22 rfl) ?_; clear hf a; intro a hf
   refine o_v hf hh (yv_len Tryd.se_22 rfl) ?_; clear hf a; intro a hf
   refine o_v hf hh (y_sub rfl rfl) ?_; clear hf a; intro a hf
   refine o_call hf Tryd.en_58 rfl rfl rfl (c58 _ _ _ _) ?_; clear hf a; intro v a w hR hf
   obtain ⟨rfl, hx⟩ := hR; replace hh := hh.more hx; clear hx
   refine o_v hf hh (y_pt rfl rfl) ?_; clear hf a; intro a hf
   refine o_v hf hh (yv_assign rfl) ?_; clear hf a; intro a hf
   refine o_end ?_
   refine sy_ret ?_
   refine ret_r hf rfl rfl ?_
   first
     | exact ⟨by unfold inB; rw [show (decide (0 ≤ l) && decide (l ≤ ((d.l.length : Nat) : Int) - 1)) = true from by assumption]; rfl, hh.ext⟩
     | exact ⟨by unfold inB; rw [show (decide (0 ≤ l) && decide (l ≤ ((d.l.length : Nat) : Int) - 1)) = false from by assumption]; rfl, hh.ext⟩
  ·have hG2 := hg2; try simp only [gS] at hG2
   refine o_off hf ?_; clear hf a; intro a hf
   refine o_off hf ?_; clear hf a; intro a hf
   refine o_off hf ?_; clear hf a; intro a hf
   refine o_off hf ?_; clear hf a; intro a hf
   refine o_off hf ?_; clear hf a; intro a hf
   refine o_off hf ?_; clear hf a; intro a hf
   refine o_v hf hh (y_pf rfl rfl) ?_; clear hf a; intro a hf
   refine o_v hf hh (yv_assign rfl) ?_; clear hf a; intro a hf
   refine o_end ?_
   refine sy_ret ?_
   refine ret_r hf rfl rfl ?_
   first
     | exact ⟨by unfold inB; rw [show (decide (0 ≤ l) && decide (l ≤ ((d.l.length : Nat) : Int) - 1)) = true from by assumption]; rfl, hh.ext⟩
     | exact ⟨by unfold inB; rw [show (decide (0 ≤ l) && decide (l ≤ ((d.l.length : Nat) : Int) - 1)) = false from by assumption]; rfl, hh.ext⟩
theorem c16 (d : RowsD) (sa sb : Option Addr) (ca cb : Nat) (u : World) (hA : MkAt u sa d.l) (hB : MkAt u sb d.r) (l r : Int) (hl : d.l.length ≤ 1000) (hr : d.r.length ≤ 1000) : Calls Tryd.prog 16 #[rowsV d sa sb ca cb, .int .i64 l, .int .i64 r] u (Ret fun v w' => v = .tuple #[.bool (fitsV d l r), .int .i64 (fitsE d l r)] ∧ Ext [] u w') := by
  refine calls_of Tryd.func16 rfl rfl (fun a hf => ?_)
  have hh := Hp.init u []
  refine sy_sq ?_
  refine o_box hf hh ?_; clear hf hh a; intro B3 a w hf hh
  refine o_v hf hh (yv_assign rfl) ?_; clear hf a; intro a hf
  refine o_v hf hh (yv_assign rfl) ?_; clear hf a; intro a hf
  refine o_end ?_
  refine sy_seq ?_
  refine sy_sq ?_
  refine o_v hf hh (y_lds Tryd.ag_26 rfl) ?_; clear hf a; intro a hf
  refine o_call hf Tryd.en_26 rfl rfl rfl (c26 d sa sb ca cb _ (hA.ext hh.ext) (hB.ext hh.ext) (by omega) (by omega)) ?_; clear hf a; intro v a w hR hf
  obtain ⟨rfl, hx⟩ := hR; replace hh := hh.more hx; clear hx
  refine o_v hf hh (yv_not rfl) ?_; clear hf a; intro a hf
  refine o_end ?_
  refine sy_cond hf rfl (fun hg2 => ?_) (fun hg2 => ?_)
  ·have hG2 := hg2; try simp only [gS] at hG2
   refine sy_sq ?_
   refine o_v hf hh (yv_assign rfl) ?_; clear hf a; intro a hf
   refine o_v hf hh (yv_assign rfl) ?_; clear hf a; intro a hf
   refine o_end ?_
   refine sy_ret ?_
   refine then_r ?_
   refine ret_r hf rfl rfl ?_
   have e : fitsE d l r = 1 := by unfold fitsE; rw [if_pos (by simp_all)]
   exact ⟨by unfold fitsV; rw [e]; rfl, hh.ext⟩
  ·have hG2 := hg2; try simp only [gS] at hG2
   refine sy_skip ?_
   refine then_n ?_
   refine sy_seq ?_
   refine sy_sq ?_
   refine o_v hf hh (y_lds Tryd.ag_26 rfl) ?_; clear hf a; intro a hf
   refine o_v hf hh (yv_move rfl) ?_; clear hf a; intro a hf
   refine o_v hf hh (yv_move rfl) ?_; clear hf a; intro a hf
   refine o_call hf Tryd.en_45 rfl rfl rfl (c45 d sa sb ca cb _ (hA.ext hh.ext) (hB.ext hh.ext) l r hl hr) ?_; clear hf a; intro v a w hR hf
   obtain ⟨rfl, hx⟩ := hR; replace hh := hh.more hx; clear hx
   refine o_v hf hh (yv_not rfl) ?_; clear hf a; intro a hf
   refine o_end ?_
   refine sy_cond hf rfl (fun hg4 => ?_) (fun hg4 => ?_)
   ·have hG4 := hg4; try simp only [gS] at hG4
    refine sy_sq ?_
    refine o_v hf hh (yv_assign rfl) ?_; clear hf a; intro a hf
    refine o_v hf hh (yv_assign rfl) ?_; clear hf a; intro a hf
    refine o_end ?_
    refine sy_ret ?_
    refine then_r ?_
    refine ret_r hf rfl rfl ?_
    have e : fitsE d l r = 2 := by unfold fitsE; rw [if_neg (by simp_all), if_pos (by simp_all)]
    exact ⟨by unfold fitsV; rw [e]; rfl, hh.ext⟩
   ·have hG4 := hg4; try simp only [gS] at hG4
    refine sy_skip ?_
    refine then_n ?_
    refine sy_seq ?_
    have hok : okRows d = true := by simp_all
    have hV := (okRows_iff d).1 hok
    have hin : (inB l d.l.length && inB r d.r.length) = true := by simp_all
    have hb := hin
    simp only [inB, Bool.and_eq_true, decide_eq_true_eq] at hb
    obtain ⟨hfE, hfV⟩ := fits_ok (d := d) hok (x := l.toNat) (y := r.toNat) (by omega) (by omega)
    rw [Int.toNat_of_nonneg hb.1.1, Int.toNat_of_nonneg hb.2.1] at hfE hfV
    refine sy_ops ?_
    refine o_v hf hh (y_lds Tryd.ag_26 rfl) ?_; clear hf a; intro a hf
    refine ops_v hf hh (yv_cast (yv_move rfl) (intv (b := ((l.toNat : Nat) : Int)) (by omega))) (.inl rfl) rfl rfl rfl ?_; clear hf a; intro a hf
    refine ops_v hf hh (yv_cast (yv_move rfl) (intv (b := ((r.toNat : Nat) : Int)) (by omega))) (.inl rfl) rfl rfl rfl ?_; clear hf a; intro a hf
    refine o_call hf Tryd.en_46 rfl rfl rfl (c46 d sa sb ca cb _ (hA.ext hh.ext) (hB.ext hh.ext) hV l.toNat r.toNat (by omega) (by omega)) ?_; clear hf a; intro v a w hR hf
    obtain ⟨rfl, hx⟩ := hR; replace hh := hh.more hx; clear hx
    refine o_v hf hh (yv_assign rfl) ?_; clear hf a; intro a hf
    refine o_v hf hh (yv_assign rfl) ?_; clear hf a; intro a hf
    refine o_end ?_
    refine sy_ret ?_
    refine ret_r hf rfl rfl ?_
    exact ⟨by rw [hfE, hfV]; rfl, hh.ext⟩
theorem c20 (d : RowsD) (sa sb : Option Addr) (ca cb : Nat) (u : World) (hA : MkAt u sa d.l) (hB : MkAt u sb d.r) (hl : d.l.length ≤ 1000) (hr : d.r.length ≤ 1000) : Calls Tryd.prog 20 #[rowsV d sa sb ca cb] u (Ret fun v w' => ∃ oa cp, v = .tuple #[.slice oa (fewL d).length cp, .int .i64 (fewH d), .int .i64 (opE d true)] ∧ ValsAt w' oa (encP (fewL d)) ∧ Ext [] u w') := by
  refine calls_of Tryd.func20 rfl rfl (fun a hf => ?_)
  have hh := Hp.init u []
  refine sy_sq ?_
  refine o_box hf hh ?_; clear hf hh a; intro B1 a w hf hh
  refine o_v hf hh (yv_assign rfl) ?_; clear hf a; intro a hf
  refine o_v hf hh (yv_assign rfl) ?_; clear hf a; intro a hf
  refine o_v hf hh (yv_assign rfl) ?_; clear hf a; intro a hf
  refine o_end ?_
  refine sy_sq ?_
  refine o_v hf hh (y_lds Tryd.ag_26 rfl) ?_; clear hf a; intro a hf
  refine o_call hf Tryd.en_52 rfl rfl rfl (c52 d sa sb ca cb _ (hA.ext hh.ext) (hB.ext hh.ext) hl hr true) ?_; clear hf a; intro v a w hR hf
  obtain ⟨s, hs, X, rfl, hop, hx⟩ := hR; have he1 := hh.ext.trans hx.ext
  have hb1 := hx.ext.get (hh.get (B1, .cells (rowsV d sa sb ca cb).cells 26) (.head _))
  have hA1 := (hA.ext hh.ext).ext hx.ext
  have hB1 := (hB.ext hh.ext).ext hx.ext
  obtain ⟨u1, rfl⟩ : ∃ z, z = w := ⟨_, rfl⟩
  replace hh := Hp.init u1 []
  
  refine o_v hf hh (yv_move rfl) ?_; clear hf a; intro a hf
  refine o_v hf hh (yv_extract rfl rfl) ?_; clear hf a; intro a hf
  refine o_v hf hh (yv_extract rfl rfl) ?_; clear hf a; intro a hf
  refine o_v hf hh (yv_assign rfl) ?_; clear hf a; intro a hf
  refine o_v hf hh (yv_assign rfl) ?_; clear hf a; intro a hf
  refine o_end ?_
  refine sy_seq ?_
  refine sy_sq ?_
  refine o_v hf hh (yv_move rfl) ?_; clear hf a; intro a hf
  refine o_v hf hh (yv_bin rfl rfl rfl) ?_; clear hf a; intro a hf
  refine o_end ?_
  refine sy_cond hf rfl (fun hg5 => ?_) (fun hg5 => ?_)
  ·have hG5 := hg5; try simp only [gS] at hG5
   refine sy_sq ?_
   refine o_v hf hh (yv_move rfl) ?_; clear hf a; intro a hf
   refine o_v hf hh (yv_assign rfl) ?_; clear hf a; intro a hf
   refine o_v hf hh (yv_assign rfl) ?_; clear hf a; intro a hf
   refine o_v hf hh (yv_assign rfl) ?_; clear hf a; intro a hf
   refine o_end ?_
   refine sy_ret ?_
   refine then_r ?_
   refine ret_r hf rfl rfl ?_
   have hne : opE d true ≠ 0 := by omega
   exact ⟨none, 0, by rw [fewL_none hne, fewH_none hne]; rfl, .inl (by rw [fewL_none hne]; rfl), he1.trans hh.ext⟩
  ·have hG5 := hg5; try simp only [gS] at hG5
   refine sy_skip ?_
   refine then_n ?_
   refine sy_seq ?_
   have h0 : opE d true = 0 := by omega
   have hV := (okRows_iff d).1 (opE_zero.1 h0).1
   obtain ⟨hO, hD⟩ := hop h0
   obtain ⟨c0, l0, hw0⟩ := wys_head h0
   have hwl := wys_long hV
   have hl0 : 0 < (wys d).length := by rw [hw0]; simp
   obtain ⟨oa, cp, rfl⟩ := OwnSl_val hO
   obtain ⟨sb0, cb0, hg0, hv0⟩ := hD.2 0 c0 (by rw [hw0]; rfl)
   obtain ⟨blk, off, c, T, fr, rfl, hbx, hcx⟩ := (valsAt_own hO fun x hq => hx.get x hq).resolve_left (by intro e; rw [e] at hg0; simp at hg0)
   have hc0 := hcx 0 _ hg0
   refine sy_ops ?_
   refine o_v hf hh (yv_move rfl) ?_; clear hf a; intro a hf
   refine o_v hf hh (y_ix Tryd.se_77 rfl rfl) ?_; clear hf a; intro a hf
   refine o_v hf hh (y_ld Tryd.sc_34 rfl) ?_; clear hf a; intro a hf
   refine o_v hf hh (yv_assign rfl) ?_; clear hf a; intro a hf
   refine o_end ?_
   refine sy_seq ?_
   refine sy_sq ?_
   refine o_v hf hh (yv_assign rfl) ?_; clear hf a; intro a hf
   refine o_end ?_
   refine sy_block ?_
   refine sy_loopF (σ := Nat × Option Addr × Nat) [7, 8, 20, 21, 22, 23, 24, 25, 26, 27, 28, 29, 30, 31, 32, 33, 34, 35, 36, 37] (fun q => [(8, .int .i64 (q.1 : Nat)), (7, .slice q.2.1 (bst c0 ((wys d).take q.1)).length q.2.2)]) (fun q => q.1 ≤ (wys d).length ∧ ValsAt u1 q.2.1 (encP (bst c0 ((wys d).take q.1)))) (fun q => (wys d).length - q.1) ((0, sb0, cb0)) hf hh ?_ ?_ ?_
   · repeat' (first | exact True.intro | refine And.intro rfl ?_)
   · exact ⟨Nat.zero_le _, hv0.vals⟩
   ·rintro q a w ⟨hi, hvq⟩ hf hh
    obtain ⟨i, sq, cq⟩ := q
    simp only at hi hvq hf ⊢
    refine sy_seq ?_
    refine sy_sq ?_
    refine o_v hf hh (yv_move rfl) ?_; clear hf a; intro a hf
    refine o_v hf hh (yv_move rfl) ?_; clear hf a; intro a hf
    refine o_v hf hh (yv_len Tryd.se_77 rfl) ?_; clear hf a; intro a hf
    refine o_v hf hh (yv_bin rfl rfl rfl) ?_; clear hf a; intro a hf
    refine o_end ?_
    refine sy_cond hf rfl (fun hg7 => ?_) (fun hg7 => ?_)
    ·have hG7 := hg7; try simp only [gS] at hG7
     refine sy_skip ?_
     refine then_n ?_
     refine sy_seq ?_
     refine sy_block ?_
     refine sy_seq ?_
     obtain ⟨ci, hci⟩ := ex_of (l := wys d) (i := i) (by omega)
     obtain ⟨sbi, cbi, hgi, hvi⟩ := hD.2 i ci hci
     have hcc : c[off + ((i : Nat) : Int).toNat * 1]? = some (.slice sbi ci.length cbi) := by rw [Int.toNat_natCast, Nat.mul_one]; exact hcx i _ hgi
     have hbs : bst c0 ((wys d).take (i + 1)) = if (bst c0 ((wys d).take i)).length < ci.length then ci else bst c0 ((wys d).take i) := by rw [List.take_add_one, hci]; exact bst_snoc _ _ _
     refine sy_ops ?_
     refine o_v hf hh (yv_move rfl) ?_; clear hf a; intro a hf
     refine o_v hf hh (yv_move rfl) ?_; clear hf a; intro a hf
     refine o_v hf hh (y_ix Tryd.se_77 rfl rfl) ?_; clear hf a; intro a hf
     refine o_v hf hh (y_ld Tryd.sc_34 rfl) ?_; clear hf a; intro a hf
     refine o_v hf hh (yv_len Tryd.se_34 rfl) ?_; clear hf a; intro a hf
     refine o_v hf hh (yv_move rfl) ?_; clear hf a; intro a hf
     refine o_v hf hh (yv_len Tryd.se_34 rfl) ?_; clear hf a; intro a hf
     refine o_v hf hh (yv_bin rfl rfl rfl) ?_; clear hf a; intro a hf
     refine o_end ?_
     refine sy_cond hf rfl (fun hg9 => ?_) (fun hg9 => ?_)
     ·have hG9 := hg9; try simp only [gS] at hG9
      refine sy_ops ?_
      refine o_v hf hh (yv_move rfl) ?_; clear hf a; intro a hf
      refine o_v hf hh (yv_move rfl) ?_; clear hf a; intro a hf
      refine o_v hf hh (y_ix Tryd.se_77 rfl rfl) ?_; clear hf a; intro a hf
      refine o_v hf hh (y_ld Tryd.sc_34 rfl) ?_; clear hf a; intro a hf
      refine o_v hf hh (yv_assign rfl) ?_; clear hf a; intro a hf
      refine ops_end ?_
      refine blk_n ?_
      refine then_n ?_
      refine sy_ops ?_
      refine o_v hf hh (yv_move rfl) ?_; clear hf a; intro a hf
      refine o_v hf hh (y_add rfl rfl) ?_; clear hf a; intro a hf
      refine o_v hf hh (yv_assign rfl) ?_; clear hf a; intro a hf
      refine ops_end ?_
      refine then_n ?_
      first
        | (rw [if_pos (by omega)] at hbs
           exact ⟨(i + 1, sbi, cbi), ⟨⟨by simp only; omega, by simp only [hbs]; exact hvi.vals⟩, hf.head ⟨rfl, (by simp only [hbs]; rfl), True.intro⟩ (Keep.cons rfl (Keep.cons rfl (Keep.cons rfl (Keep.cons rfl (Keep.cons rfl (Keep.cons rfl (Keep.cons rfl (Keep.cons rfl (Keep.cons rfl (Keep.cons rfl (Keep.cons rfl (Keep.cons rfl (Keep.cons rfl (Keep.cons rfl (Keep.cons rfl (Keep.cons rfl (Keep.cons rfl (Keep.cons rfl (Keep.cons rfl (Keep.cons rfl (Keep.app rfl (Keep.rm rfl Keep.base)))))))))))))))))))))), hh⟩, by simp only; omega⟩)
        | (rw [if_neg (by omega)] at hbs
           exact ⟨(i + 1, sq, cq), ⟨⟨by simp only; omega, by simp only [hbs]; exact hvq⟩, hf.head ⟨rfl, (by simp only [hbs]; rfl), True.intro⟩ (Keep.cons rfl (Keep.cons rfl (Keep.cons rfl (Keep.cons rfl (Keep.cons rfl (Keep.cons rfl (Keep.cons rfl (Keep.cons rfl (Keep.cons rfl (Keep.cons rfl (Keep.cons rfl (Keep.cons rfl (Keep.cons rfl (Keep.cons rfl (Keep.cons rfl (Keep.cons rfl (Keep.cons rfl (Keep.cons rfl (Keep.cons rfl (Keep.cons rfl (Keep.app rfl (Keep.rm rfl Keep.base)))))))))))))))))))))), hh⟩, by simp only; omega⟩)
     ·have hG9 := hg9; try simp only [gS] at hG9
      refine sy_skip ?_
      refine blk_n ?_
      refine then_n ?_
      refine sy_ops ?_
      refine o_v hf hh (yv_move rfl) ?_; clear hf a; intro a hf
      refine o_v hf hh (y_add rfl rfl) ?_; clear hf a; intro a hf
      refine o_v hf hh (yv_assign rfl) ?_; clear hf a; intro a hf
      refine ops_end ?_
      refine then_n ?_
      first
        | (rw [if_pos (by omega)] at hbs
           exact ⟨(i + 1, sbi, cbi), ⟨⟨by simp only; omega, by simp only [hbs]; exact hvi.vals⟩, hf.head ⟨rfl, (by simp only [hbs]; rfl), True.intro⟩ (Keep.cons rfl (Keep.cons rfl (Keep.cons rfl (Keep.cons rfl (Keep.cons rfl (Keep.cons rfl (Keep.cons rfl (Keep.cons rfl (Keep.cons rfl (Keep.cons rfl (Keep.cons rfl (Keep.cons rfl (Keep.cons rfl (Keep.cons rfl (Keep.cons rfl (Keep.app rfl (Keep.rm rfl Keep.base))))))))))))))))), hh⟩, by simp only; omega⟩)
        | (rw [if_neg (by omega)] at hbs
           exact ⟨(i + 1, sq, cq), ⟨⟨by simp only; omega, by simp only [hbs]; exact hvq⟩, hf.head ⟨rfl, (by simp only [hbs]; rfl), True.intro⟩ (Keep.cons rfl (Keep.cons rfl (Keep.cons rfl (Keep.cons rfl (Keep.cons rfl (Keep.cons rfl (Keep.cons rfl (Keep.cons rfl (Keep.cons rfl (Keep.cons rfl (Keep.cons rfl (Keep.cons rfl (Keep.cons rfl (Keep.cons rfl (Keep.cons rfl (Keep.app rfl (Keep.rm rfl Keep.base))))))))))))))))), hh⟩, by simp only; omega⟩)
    ·have hG7 := hg7; try simp only [gS] at hG7
     refine sy_exit ?_
     refine then_e ?_
     refine then_e ?_
     refine blk_e ?_
     refine then_n ?_
     refine sy_seq ?_
     have hbe : bst c0 ((wys d).take i) = fewL d := by rw [List.take_of_length_le (by omega)]; exact bst_wys h0 hw0
     have hbl := few_le d
     refine sy_ops ?_
     refine o_v hf hh (yv_move rfl) ?_; clear hf a; intro a hf
     refine o_v hf hh (y_lds Tryd.ag_26 rfl) ?_; clear hf a; intro a hf
     refine o_v hf hh (yv_move rfl) ?_; clear hf a; intro a hf
     refine o_call hf Tryd.en_53 rfl rfl rfl (c53 d sa sb ca cb (bst c0 ((wys d).take i)).length sq cq hl hr (by rw [hbe]; omega) _) ?_; clear hf a; intro v a w hR hf
     obtain ⟨rfl, hx⟩ := hR; replace hh := hh.more hx; clear hx
     refine o_v hf hh (yv_assign rfl) ?_; clear hf a; intro a hf
     refine o_v hf hh (yv_assign rfl) ?_; clear hf a; intro a hf
     refine o_v hf hh (yv_assign rfl) ?_; clear hf a; intro a hf
     refine o_end ?_
     refine sy_ret ?_
     refine ret_r hf rfl rfl ?_
     exact ⟨sq, cq, by rw [fewH_len h0, h0, ← hbe]; rfl, by rw [← hbe]; exact hvq.ext hh.ext, he1.trans hh.ext⟩
end Go.Proofs.YtemmhdgaagaglaaDoor
namespace Go.Proofs.YtemmhdgaagaglaaDoor
open Go Go.Sy Go.MatM
set_option maxRecDepth 100000 in
set_option maxHeartbeats 4000000 in
theorem c3 (d : RowsD) (sa sb : Option Addr) (ca cb : Nat) (u : World) (hA : MkAt u sa d.l) (hB : MkAt u sb d.r) (hT : GTab u) (l r : Int) (hl0 : -9223372036854775808 ≤ l ∧ l ≤ 9223372036854775807) (hr0 : -9223372036854775808 ≤ r ∧ r ≤ 9223372036854775807) : Calls Tryd.prog 3 #[rowsV d sa sb ca cb, .int .i64 l, .int .i64 r] u (Ret fun v w' => v = .bool true ∧ Ext [] u w') := by
  refine calls_of Tryd.func3 rfl rfl (fun a hf => ?_)
  have hh := Hp.init u []
  refine sy_sq ?_
  refine o_box hf hh ?_; clear hf hh a; intro B3 a w hf hh
  refine o_v hf hh (yv_assign rfl) ?_; clear hf a; intro a hf
  refine o_end ?_
  refine sy_seq ?_
  refine sy_sq ?_
  refine o_v hf hh (y_lds Tryd.ag_26 rfl) ?_; clear hf a; intro a hf
  refine o_call hf Tryd.en_13 rfl rfl rfl (c13 d sa sb ca cb _ (hA.ext hh.ext) (hB.ext hh.ext) 5) ?_; clear hf a; intro v a w hR hf
  obtain ⟨rfl, hx⟩ := hR; replace hh := hh.more hx; clear hx
  refine o_end ?_
  refine sy_cond hf rfl (fun hg2 => ?_) (fun hg2 => ?_)
  ·have hG2 := hg2; try simp only [gS] at hG2
   refine sy_sq ?_
   refine o_call hf Tryd.en_14 rfl rfl rfl (c14 _ (hT.ext hh.ext (by simp))) ?_; clear hf a; intro v a w hR hf
   obtain ⟨rfl, hx⟩ := hR; replace hh := hh.more hx; clear hx
   refine o_v hf hh (yv_assign rfl) ?_; clear hf a; intro a hf
   refine o_end ?_
   refine sy_ret ?_
   refine then_r ?_
   refine ret_r hf rfl rfl ?_
   exact ⟨rfl, hh.ext⟩
  ·have hG2 := hg2; try simp only [gS] at hG2
   refine sy_skip ?_
   refine then_n ?_
   refine sy_seq ?_
   have hlen : d.l.length ≤ 24 ∧ d.r.length ≤ 24 := by first | (simp_all; done) | (simp_all; omega)
   have hl : d.l.length ≤ 1000 := by omega
   have hr : d.r.length ≤ 1000 := by omega
   refine sy_ops ?_
   refine o_v hf hh (y_lds Tryd.ag_26 rfl) ?_; clear hf a; intro a hf
   refine o_v hf hh (yv_move rfl) ?_; clear hf a; intro a hf
   refine o_v hf hh (yv_move rfl) ?_; clear hf a; intro a hf
   refine o_call hf Tryd.en_15 rfl rfl rfl (c15 d sa sb ca cb _ (hA.ext hh.ext) (hB.ext hh.ext) l r hl0 hr0) ?_; clear hf a; intro v a w hR hf
   obtain ⟨rfl, hx⟩ := hR; replace hh := hh.more hx; clear hx
   refine o_v hf hh (yv_move rfl) ?_; clear hf a; intro a hf
   refine o_v hf hh (yv_extract rfl rfl) ?_; clear hf a; intro a hf
   refine o_v hf hh (yv_extract rfl rfl) ?_; clear hf a; intro a hf
   refine o_v hf hh (yv_assign rfl) ?_; clear hf a; intro a hf
   refine o_v hf hh (yv_assign rfl) ?_; clear hf a; intro a hf
   refine o_end ?_
   refine sy_sq ?_
   refine o_v hf hh (y_lds Tryd.ag_26 rfl) ?_; clear hf a; intro a hf
   refine o_v hf hh (yv_move rfl) ?_; clear hf a; intro a hf
   refine o_v hf hh (yv_move rfl) ?_; clear hf a; intro a hf
   refine o_call hf Tryd.en_16 rfl rfl rfl (c16 d sa sb ca cb _ (hA.ext hh.ext) (hB.ext hh.ext) l r hl hr) ?_; clear hf a; intro v a w hR hf
   obtain ⟨rfl, hx⟩ := hR; replace hh := hh.more hx; clear hx
   refine o_v hf hh (yv_move rfl) ?_; clear hf a; intro a hf
   refine o_v hf hh (yv_extract rfl rfl) ?_; clear hf a; intro a hf
   refine o_v hf hh (yv_extract rfl rfl) ?_; clear hf a; intro a hf
   refine o_v hf hh (yv_assign rfl) ?_; clear hf a; intro a hf
   refine o_v hf hh (yv_assign rfl) ?_; clear hf a; intro a hf
   refine o_end ?_
   refine sy_sq ?_
   refine o_v hf hh (y_lds Tryd.ag_26 rfl) ?_; clear hf a; intro a hf
   refine o_call hf Tryd.en_17 rfl rfl rfl (c17 d sa sb ca cb _ (hA.ext hh.ext) (hB.ext hh.ext)) ?_; clear hf a; intro v a w hR hf
   obtain ⟨rfl, hx⟩ := hR; replace hh := hh.more hx; clear hx
   refine o_v hf hh (yv_move rfl) ?_; clear hf a; intro a hf
   refine o_v hf hh (yv_extract rfl rfl) ?_; clear hf a; intro a hf
   refine o_v hf hh (yv_extract rfl rfl) ?_; clear hf a; intro a hf
   refine o_v hf hh (yv_assign rfl) ?_; clear hf a; intro a hf
   refine o_v hf hh (yv_assign rfl) ?_; clear hf a; intro a hf
   refine o_end ?_
   refine sy_sq ?_
   refine o_v hf hh (y_lds Tryd.ag_26 rfl) ?_; clear hf a; intro a hf
   refine o_call hf Tryd.en_18 rfl rfl rfl (c18 d sa sb ca cb _ (hA.ext hh.ext) (hB.ext hh.ext) hl hr) ?_; clear hf a; intro v a w hR hf
   obtain ⟨rfl, hx⟩ := hR; replace hh := hh.more hx; clear hx
   refine o_v hf hh (yv_move rfl) ?_; clear hf a; intro a hf
   refine o_v hf hh (yv_extract rfl rfl) ?_; clear hf a; intro a hf
   refine o_v hf hh (yv_extract rfl rfl) ?_; clear hf a; intro a hf
   refine o_v hf hh (yv_assign rfl) ?_; clear hf a; intro a hf
   refine o_v hf hh (yv_assign rfl) ?_; clear hf a; intro a hf
   refine o_end ?_
   refine sy_sq ?_
   refine o_v hf hh (y_lds Tryd.ag_26 rfl) ?_; clear hf a; intro a hf
   refine o_call hf Tryd.en_19 rfl rfl rfl (c19 d sa sb ca cb _ (hA.ext hh.ext) (hB.ext hh.ext)) ?_; clear hf a; intro v a w hR hf
   obtain ⟨sv, X, rfl, hown, hx⟩ := hR; replace hh := (hh.join hx).perm List.perm_append_comm; clear hx
   obtain ⟨oa1, cap1, rfl⟩ := OwnSl_val hown
   have hfl := few_le d
   refine o_v hf hh (yv_move rfl) ?_; clear hf a; intro a hf
   refine o_v hf hh (yv_extract rfl rfl) ?_; clear hf a; intro a hf
   refine o_v hf hh (yv_extract rfl rfl) ?_; clear hf a; intro a hf
   refine o_v hf hh (yv_extract rfl rfl) ?_; clear hf a; intro a hf
   refine o_v hf hh (yv_assign rfl) ?_; clear hf a; intro a hf
   refine o_v hf hh (yv_assign rfl) ?_; clear hf a; intro a hf
   refine o_v hf hh (yv_assign rfl) ?_; clear hf a; intro a hf
   refine o_end ?_
   refine sy_sq ?_
   refine o_v hf hh (y_lds Tryd.ag_26 rfl) ?_; clear hf a; intro a hf
   refine o_call hf Tryd.en_20 rfl rfl rfl (c20 d sa sb ca cb _ (hA.ext hh.ext) (hB.ext hh.ext) hl hr) ?_; clear hf a; intro v a w hR hf
   obtain ⟨oa2, cap2, rfl, hv2, hx⟩ := hR; replace hh := hh.more hx; clear hx
   refine o_v hf hh (yv_move rfl) ?_; clear hf a; intro a hf
   refine o_v hf hh (yv_extract rfl rfl) ?_; clear hf a; intro a hf
   refine o_v hf hh (yv_extract rfl rfl) ?_; clear hf a; intro a hf
   refine o_v hf hh (yv_extract rfl rfl) ?_; clear hf a; intro a hf
   refine o_v hf hh (yv_assign rfl) ?_; clear hf a; intro a hf
   refine o_v hf hh (yv_assign rfl) ?_; clear hf a; intro a hf
   refine o_v hf hh (yv_assign rfl) ?_; clear hf a; intro a hf
   refine o_end ?_
   refine sy_sq ?_
   refine o_v hf hh (yv_move rfl) ?_; clear hf a; intro a hf
   refine o_v hf hh (yv_move rfl) ?_; clear hf a; intro a hf
   refine o_v hf hh (yv_eqb Tryd.ub_4 rfl rfl) ?_; clear hf a; intro a hf
   refine o_v hf hh (yv_move rfl) ?_; clear hf a; intro a hf
   refine o_v hf hh (yv_move rfl) ?_; clear hf a; intro a hf
   refine o_v hf hh (yv_move rfl) ?_; clear hf a; intro a hf
   refine o_v hf hh (yv_bin rfl rfl rfl) ?_; clear hf a; intro a hf
   refine o_v hf hh (y_pt rfl rfl) ?_; clear hf a; intro a hf
   refine o_v hf hh (yv_move rfl) ?_; clear hf a; intro a hf
   refine o_v hf hh (yv_move rfl) ?_; clear hf a; intro a hf
   refine o_v hf hh (yv_move rfl) ?_; clear hf a; intro a hf
   refine o_v hf hh (yv_bin rfl rfl rfl) ?_; clear hf a; intro a hf
   refine o_v hf hh (y_pt rfl rfl) ?_; clear hf a; intro a hf
   refine o_v hf hh (yv_move rfl) ?_; clear hf a; intro a hf
   refine o_v hf hh (yv_move rfl) ?_; clear hf a; intro a hf
   refine o_v hf hh (yv_move rfl) ?_; clear hf a; intro a hf
   refine o_v hf hh (yv_bin rfl rfl rfl) ?_; clear hf a; intro a hf
   refine o_v hf hh (y_pt rfl rfl) ?_; clear hf a; intro a hf
   refine o_v hf hh (yv_move rfl) ?_; clear hf a; intro a hf
   refine o_v hf hh (yv_move rfl) ?_; clear hf a; intro a hf
   refine o_v hf hh (yv_move rfl) ?_; clear hf a; intro a hf
   refine o_call hf Tryd.en_21 rfl rfl rfl (c21 (fewL d) (fewL d) oa1 oa2 cap1 cap2 _ (valsAt_own hown fun x hx => hh.get x (by simp [hx])) hv2 (by omega)) ?_; clear hf a; intro v a w hR hf
   obtain ⟨rfl, hx⟩ := hR; replace hh := hh.more hx; clear hx
   refine o_v hf hh (y_pt rfl rfl) ?_; clear hf a; intro a hf
   refine o_v hf hh (yv_move rfl) ?_; clear hf a; intro a hf
   refine o_v hf hh (yv_move rfl) ?_; clear hf a; intro a hf
   refine o_v hf hh (yv_move rfl) ?_; clear hf a; intro a hf
   refine o_v hf hh (yv_bin rfl rfl rfl) ?_; clear hf a; intro a hf
   refine o_v hf hh (y_pt rfl rfl) ?_; clear hf a; intro a hf
   refine o_v hf hh (yv_move rfl) ?_; clear hf a; intro a hf
   refine o_v hf hh (yv_move rfl) ?_; clear hf a; intro a hf
   refine o_v hf hh (yv_move rfl) ?_; clear hf a; intro a hf
   refine o_v hf hh (yv_bin rfl rfl rfl) ?_; clear hf a; intro a hf
   refine o_v hf hh (y_pt rfl rfl) ?_; clear hf a; intro a hf
   refine o_v hf hh (yv_move rfl) ?_; clear hf a; intro a hf
   refine o_call hf Tryd.en_14 rfl rfl rfl (c14 _ (hT.ext hh.ext (by simp))) ?_; clear hf a; intro v a w hR hf
   obtain ⟨rfl, hx⟩ := hR; replace hh := hh.more hx; clear hx
   refine o_v hf hh (y_pt rfl rfl) ?_; clear hf a; intro a hf
   refine o_v hf hh (yv_assign rfl) ?_; clear hf a; intro a hf
   refine o_end ?_
   refine sy_ret ?_
   refine ret_r hf rfl rfl ?_
   exact ⟨rfl, hh.ext⟩
end Go.Proofs.YtemmhdgaagaglaaDoor
