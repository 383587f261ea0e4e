/- Lemmas, in order: Marks in memory, not in blocks that are turned. The reference's ways, walked. Plain laws: the longest way, the first one, as the reference finds it. The reference's first three answers, walked. Plain laws: partners in ways, how many ways are left, and the shift of all partners. Ways in memory. The reference's Ask, walked. Plain laws: sets by bits, as the reference makes them of all ways.. -/
import Derived.Test.YtemmhdgaagaglaaDoorQ17
namespace Go.MatM
open Go Go.Sy Go.Proofs Go.RowKit
def MkOff (w : World) (X : List (Nat × Obj)) (sa : Option Addr) (l : List Mk) : Prop := ∀ i s, l[i]? = some s → ∃ blk off c T fr, sa = some ⟨blk, off, none⟩ ∧ blk ∉ X.map Prod.fst ∧ w.heap[blk]? = some (.cells c T fr) ∧ cellsAt c (off + i * 4) 4 = some (mkC s)
theorem MkOff.mk {w : World} {X : List (Nat × Obj)} {sa : Option Addr} {l : List Mk} (h : MkOff w X sa l) : MkAt w sa l := fun i s hi => by
  obtain ⟨blk, off, c, T, fr, h1, _, h2, h3⟩ := h i s hi
  exact ⟨blk, off, c, T, fr, h1, h2, h3⟩
theorem MkOff.of {w : World} {sa : Option Addr} {l : List Mk} (h : MkAt w sa l) : MkOff w [] sa l := fun i s hi => by
  obtain ⟨blk, off, c, T, fr, h1, h2, h3⟩ := h i s hi
  exact ⟨blk, off, c, T, fr, h1, by simp, h2, h3⟩
theorem MkOff.keep {u w : World} {X X' : List (Nat × Obj)} {sa : Option Addr} {l : List Mk} (h : MkOff u X sa l) (hh : Hp u (X.map Prod.fst) X' w) : MkOff w X' sa l := fun i s hi => by
  obtain ⟨blk, off, c, T, fr, h1, h0, h2, h3⟩ := h i s hi
  have hlt := (Array.getElem?_eq_some_iff.1 h2).1
  refine ⟨blk, off, c, T, fr, h1, fun hx => ?_, by rw [hh.ext.block blk hlt h0]; exact h2, h3⟩
  obtain ⟨p, hp, rfl⟩ := List.mem_map.1 hx
  rcases hh.mine p hp with h4 | h4
  · omega
  · exact h0 h4
theorem encP_1c (l : List Pr) : (encP l).all (·.oneCell') = true := by
  rw [List.all_eq_true]
  intro v hv
  obtain ⟨p, _, hp⟩ := List.mem_flatMap.1 hv
  simp only [List.mem_cons, List.not_mem_nil, or_false] at hp
  rcases hp with rfl | rfl <;> rfl
theorem off_nodup {u w : World} {M : List Nat} {b : Nat} {o : Obj} {X : List (Nat × Obj)} (hh : Hp u M ((b, o) :: X) w) : b ∉ X.map Prod.fst := by
  have h := hh.nodup
  rw [List.map_cons, List.nodup_cons] at h
  exact h.1
end Go.MatM
namespace Go.Proofs.YtemmhdgaagaglaaDoor
open Go Go.Sy Go.MatM
theorem c53 (d : RowsD) (sa sb : Option Addr) (ca cb n : Nat) (ob : Option Addr) (cpb : Nat) (hl : d.l.length ≤ 1000) (hr : d.r.length ≤ 1000) (hn : n ≤ 1000) (u : World) : Calls Tryd.prog 53 #[rowsV d sa sb ca cb, .slice ob n cpb] u (Ret fun v w' => v = .int .i64 (((d.l.length : Nat) : Int) + ((d.r.length : Nat) : Int) - 2 * ((n : Nat) : Int)) ∧ Ext [] u w') := by
  refine calls_of Tryd.func53 rfl rfl (fun a hf => ?_)
  have hh := Hp.init u []
  refine sy_sq ?_
  refine o_box hf hh ?_; clear hf hh a; intro B2 a w hf hh
  refine o_v hf hh (yv_assign rfl) ?_; clear hf a; intro a hf
  refine o_end ?_
  refine sy_sq ?_
  refine o_v hf hh (yv_fieldAddr Tryd.fo_26_0 rfl) ?_; clear hf a; intro a hf
  refine o_v hf hh (y_ld Tryd.sc_22 rfl) ?_; clear hf a; intro a hf
  refine o_v hf hh (yv_len Tryd.se_22 rfl) ?_; clear hf a; intro a hf
  refine o_v hf hh (yv_fieldAddr Tryd.fo_26_1 rfl) ?_; clear hf a; intro a hf
  refine o_v hf hh (y_ld Tryd.sc_22 rfl) ?_; clear hf a; intro a hf
  refine o_v hf hh (yv_len Tryd.se_22 rfl) ?_; clear hf a; intro a hf
  refine o_v hf hh (y_add rfl rfl) ?_; clear hf a; intro a hf
  refine o_v hf hh (yv_move rfl) ?_; clear hf a; intro a hf
  refine o_v hf hh (yv_len Tryd.se_34 rfl) ?_; clear hf a; intro a hf
  refine o_v hf hh (y_mul rfl rfl) ?_; clear hf a; intro a hf
  refine o_v hf hh (y_sub rfl rfl) ?_; clear hf a; intro a hf
  refine o_v hf hh (yv_assign rfl) ?_; clear hf a; intro a hf
  refine o_end ?_
  refine sy_ret ?_
  refine ret_r hf rfl rfl ?_
  exact ⟨rfl, hh.ext⟩
set_option maxRecDepth 100000 in
set_option maxHeartbeats 4000000 in
theorem c87 (d : RowsD) (sa sb : Option Addr) (ca cb : Nat) (hV : Valid d) (f : Nat) : ∀ (u : World) (b : List Pr) (nb : Nat) (ob : Option Addr) (cpb i k : Nat) (v : Value) (m : Nat) (hs : List Value) (X : List (Nat × Obj)) (hf : d.l.length - i ≤ f) (hA : MkOff u X sa d.l) (hB : MkOff u X sb d.r) (hvb : ValsOff u X ob (encP b)) (hO : OwnSl 34 1 v m hs X) (hX : ∀ x ∈ X, u.heap[x.1]? = some x.2) (hnb : nb = b.length) (hbi : nb ≤ i) (hi : i ≤ d.l.length) (hk : k ≤ d.r.length) (hm : m + (wysF d b i k).length ≤ 1000000000), Calls Tryd.prog 87 #[rowsV d sa sb ca cb, .slice ob nb cpb, .int .i64 i, .int .i64 k, v] u (Ret fun v0 w' => ∃ hs' X', OwnSl 34 1 v0 (m + (wysF d b i k).length) (hs ++ hs') X' ∧ HdsAt encP List.length w' X' hs' (wysF d b i k) ∧ Hp u (X.map Prod.fst) X' w') := by
  induction f using Nat.strongRecOn with
  | _ f ih =>
  intro u b nb ob cpb i k v m hs X hfu hA hB hvb hO hX hnb hbi hi hk hm
  have hnl := hV.nl; have hnr := hV.nr; have hh1 := hV.h1; have hh2 := hV.h2
  refine calls_of Tryd.func87 rfl rfl (fun a hf => ?_)
  have hh := ownSl_hp hO hX
  refine sy_sq ?_
  refine o_box hf hh ?_; clear hf hh a; intro B5 a w hf hh
  refine o_v hf hh (yv_assign rfl) ?_; clear hf a; intro a hf
  refine o_end ?_
  refine sy_cut (σ := Value × List Value × List (Nat × Obj)) [4, 13, 14, 15, 16, 17, 18, 19, 20, 21, 22] (fun q => [(4, q.1)]) (fun q => fun w' => OwnSl 34 1 q.1 (m + (oneW d b).length) (hs ++ q.2.1) q.2.2 ∧ HdsAt encP List.length w' q.2.2 q.2.1 (oneW d b) ∧ Hp u (X.map Prod.fst) ((B5, .cells (rowsV d sa sb ca cb).cells 26) :: q.2.2) w') hf ?_ ?_
  ·refine sy_seq ?_
   have hnd := need_le (d := d) hV.h2 b.length
   refine sy_quiet (C := Hp _ _ _) Tryd.follows (by kernel_rfl) (hh.drawn _) ?_
   refine oq_v hf (y_lds Tryd.ag_26 rfl) ?_; clear hf a; intro a hf
   refine oq_v hf (yv_move rfl) ?_; clear hf a; intro a hf
   refine oq_call hf Tryd.en_53 rfl rfl rfl (fun w hh => c53 d sa sb ca cb nb ob cpb (by omega) (by omega) (by omega) w) ?_; clear hf a; intro a hf
   refine oq_v hf (yv_fieldAddr Tryd.fo_26_3 rfl) ?_; clear hf a; intro a hf
   refine oq_v hf (y_ld Tryd.sc_3 rfl) ?_; clear hf a; intro a hf
   refine oq_v hf (yv_bin rfl rfl rfl) ?_; clear hf a; intro a hf
   refine q_end fun w hh => ?_
   refine then_n ?_
   refine sy_cond hf rfl (fun hg3 => ?_) (fun hg3 => ?_)
   ·have hG3 := hg3; try simp only [gS] at hG3
    have hone : oneW d b = [b] := by unfold oneW; rw [if_pos (by rw [hnd]; omega)]
    have hw1 : 1 ≤ (wysF d b i k).length := by rw [wysF_all, hone]; simp
    refine sy_ops ?_
    refine o_v hf hh (yv_move rfl) ?_; clear hf a; intro a hf
    refine o_v hf hh (yv_move rfl) ?_; clear hf a; intro a hf
    refine ops_buildSl hf hh Tryd.bl_77_1 rfl rfl (.inl rfl) rfl ?_; clear hf hh; clear a; intro B21 a w hf hh
    refine ops_append (e := 34) (size := 1) (xs := hs) (X := X) (Z := [(B5, .cells (rowsV d sa sb ca cb).cells 26)]) (m := m) (q := 1) hf (hh.perm (.cons _ (List.perm_append_comm (l₁ := [(B5, Obj.cells (rowsV d sa sb ca cb).cells 26)]) (l₂ := X)))) Tryd.eb_77 rfl rfl hO rfl rfl rfl (by simp only [maxLen]; omega) (by omega) (.inl rfl) rfl ?_; clear hf hh a; intro v1 X1 a w hO1 hf hh
    replace hh : Hp u (X.map Prod.fst) ((B5, .cells (rowsV d sa sb ca cb).cells 26) :: X1) w := hh.perm List.perm_append_comm
    refine o_v hf hh (yv_assign rfl) ?_; clear hf a; intro a hf
    refine ops_end ?_
    refine then_n ?_
    first
      | exact ⟨(v1, [Value.slice ob nb cpb], X1), ⟨by rw [hone]; exact hO1, by rw [hone]; exact .one' (hvb.keep (hh.less (.cons _ (List.Sublist.refl _)))) hnb, hh⟩, hf.head ⟨rfl, True.intro⟩ (Keep.cons rfl (Keep.cons rfl (Keep.cons rfl (Keep.cons rfl (Keep.cons rfl (Keep.cons rfl (Keep.cons rfl (Keep.cons rfl (Keep.cons rfl (Keep.cons rfl (Keep.cons rfl (Keep.base))))))))))))⟩
      | (have hone : oneW d b = [] := by unfold oneW; rw [if_neg (by rw [hnd]; omega)]
         exact ⟨(v, [], X), ⟨by rw [hone, List.append_nil]; exact hO, by rw [hone]; exact .nil, hh⟩, hf.head ⟨rfl, True.intro⟩ (Keep.cons rfl (Keep.cons rfl (Keep.cons rfl (Keep.cons rfl (Keep.cons rfl (Keep.cons rfl (Keep.cons rfl (Keep.cons rfl (Keep.cons rfl (Keep.cons rfl (Keep.cons rfl (Keep.base))))))))))))⟩)
   ·have hG3 := hg3; try simp only [gS] at hG3
    refine sy_skip ?_
    refine then_n ?_
    first
      | exact ⟨(v1, [Value.slice ob nb cpb], X1), ⟨by rw [hone]; exact hO1, by rw [hone]; exact .one' (hvb.keep (hh.less (.cons _ (List.Sublist.refl _)))) hnb, hh⟩, hf.head ⟨rfl, True.intro⟩ (Keep.cons rfl (Keep.cons rfl (Keep.cons rfl (Keep.cons rfl (Keep.cons rfl (Keep.cons rfl (Keep.base)))))))⟩
      | (have hone : oneW d b = [] := by unfold oneW; rw [if_neg (by rw [hnd]; omega)]
         exact ⟨(v, [], X), ⟨by rw [hone, List.append_nil]; exact hO, by rw [hone]; exact .nil, hh⟩, hf.head ⟨rfl, True.intro⟩ (Keep.cons rfl (Keep.cons rfl (Keep.cons rfl (Keep.cons rfl (Keep.cons rfl (Keep.cons rfl (Keep.base)))))))⟩)
  ·rintro q a w ⟨hO1, hD1, hh⟩ hf
   obtain ⟨v1, hs1, X1⟩ := q
   simp only at hO1 hD1 hh hf
   have hc0 : curW d b i k 0 0 = oneW d b := by rw [curW_zero]; simp [allW]
   refine sy_seq ?_
   refine sy_sq ?_
   refine o_v hf hh (yv_move rfl) ?_; clear hf a; intro a hf
   refine o_v hf hh (yv_assign rfl) ?_; clear hf a; intro a hf
   refine o_end ?_
   refine sy_block ?_
   refine sy_loopH (σ := Nat × Value × List Value × List (Nat × Obj)) [4, 11, 12, 24, 25, 26, 27, 28, 29, 30, 31, 32, 33, 34, 35, 36, 37, 38, 39, 40, 41, 42, 43, 44, 45, 46, 47, 48, 49, 50, 51, 52, 53, 54, 55, 56, 57] (fun q => [(11, .int .i64 ((i + q.1 : Nat) : Int)), (4, q.2.1)]) (fun q => fun w' => q.1 ≤ d.l.length - i ∧ OwnSl 34 1 q.2.1 (m + (curW d b i k q.1 0).length) (hs ++ q.2.2.1) q.2.2.2 ∧ HdsAt encP List.length w' q.2.2.2 q.2.2.1 (curW d b i k q.1 0) ∧ Hp u (X.map Prod.fst) ((B5, .cells (rowsV d sa sb ca cb).cells 26) :: q.2.2.2) w') (fun q => d.l.length - i - q.1) ((0, v1, hs1, X1)) hf ?_ ?_ ?_
   · repeat' (first | exact True.intro | refine And.intro rfl ?_)
   · exact ⟨Nat.zero_le _, by rw [hc0]; exact hO1, by rw [hc0]; exact hD1, hh⟩
   ·rintro q a w ⟨hn1, hO1, hD1, hh⟩ hf
    obtain ⟨n1, v1, hs1, X1⟩ := q
    simp only at hn1 hO1 hD1 hh hf ⊢
    refine sy_seq ?_
    refine sy_sq ?_
    refine o_v hf hh (yv_move rfl) ?_; clear hf a; intro a hf
    refine o_v hf hh (yv_fieldAddr Tryd.fo_26_0 rfl) ?_; clear hf a; intro a hf
    refine o_v hf hh (y_ld Tryd.sc_22 rfl) ?_; clear hf a; intro a hf
    refine o_v hf hh (yv_len Tryd.se_22 rfl) ?_; clear hf a; intro a hf
    refine o_v hf hh (yv_bin rfl rfl rfl) ?_; clear hf a; intro a hf
    refine o_end ?_
    refine sy_cond hf rfl (fun hg6 => ?_) (fun hg6 => ?_)
    ·have hG6 := hg6; try simp only [gS] at hG6
     refine sy_skip ?_
     refine then_n ?_
     refine sy_seq ?_
     refine sy_block ?_
     refine sy_sq ?_
     refine o_v hf hh (yv_move rfl) ?_; clear hf a; intro a hf
     refine o_v hf hh (yv_assign rfl) ?_; clear hf a; intro a hf
     refine o_end ?_
     refine sy_block ?_
     refine sy_loopH (σ := Nat × Value × List Value × List (Nat × Obj)) [4, 12, 32, 33, 34, 35, 36, 37, 38, 39, 40, 41, 42, 43, 44, 45, 46, 47, 48, 49, 50, 51, 52, 53, 54, 55, 56, 57] (fun q => [(12, .int .i64 ((k + q.1 : Nat) : Int)), (4, q.2.1)]) (fun q => fun w' => q.1 ≤ d.r.length - k ∧ OwnSl 34 1 q.2.1 (m + (curW d b i k n1 q.1).length) (hs ++ q.2.2.1) q.2.2.2 ∧ HdsAt encP List.length w' q.2.2.2 q.2.2.1 (curW d b i k n1 q.1) ∧ Hp u (X.map Prod.fst) ((B5, .cells (rowsV d sa sb ca cb).cells 26) :: q.2.2.2) w') (fun q => d.r.length - k - q.1) ((0, v1, hs1, X1)) hf ?_ ?_ ?_
     · repeat' (first | exact True.intro | refine And.intro rfl ?_)
     · exact ⟨Nat.zero_le _, hO1, hD1, hh⟩
     ·rintro q a w ⟨hn2, hO2, hD2, hh⟩ hf
      obtain ⟨n2, v2, hs2, X2⟩ := q
      simp only at hn2 hO2 hD2 hh hf ⊢
      refine sy_seq ?_
      refine sy_sq ?_
      refine o_v hf hh (yv_move rfl) ?_; clear hf a; intro a hf
      refine o_v hf hh (yv_fieldAddr Tryd.fo_26_1 rfl) ?_; clear hf a; intro a hf
      refine o_v hf hh (y_ld Tryd.sc_22 rfl) ?_; clear hf a; intro a hf
      refine o_v hf hh (yv_len Tryd.se_22 rfl) ?_; clear hf a; intro a hf
      refine o_v hf hh (yv_bin rfl rfl rfl) ?_; clear hf a; intro a hf
      refine o_end ?_
      refine sy_cond hf rfl (fun hg8 => ?_) (fun hg8 => ?_)
      ·have hG8 := hg8; try simp only [gS] at hG8
       refine sy_skip ?_
       refine then_n ?_
       refine sy_cut (σ := Value × List Value × List (Nat × Obj)) [4, 39, 40, 41, 42, 43, 44, 45, 46, 47, 48, 49, 50, 51, 52, 53, 54, 55, 56, 57] (fun q => [(4, q.1)]) (fun q => fun w' => OwnSl 34 1 q.1 (m + (curW d b i k n1 (n2 + 1)).length) (hs ++ q.2.1) q.2.2 ∧ HdsAt encP List.length w' q.2.2 q.2.1 (curW d b i k n1 (n2 + 1)) ∧ Hp u (X.map Prod.fst) ((B5, .cells (rowsV d sa sb ca cb).cells 26) :: q.2.2) w') hf ?_ ?_
       ·refine sy_block ?_
        refine sy_seq ?_
        have hh0 := hh
        have hA1 := hA.keep (hh.less (.cons _ (List.Sublist.refl _)))
        have hB1 := hB.keep (hh.less (.cons _ (List.Sublist.refl _)))
        have hvb1 := hvb.keep (hh.less (.cons _ (List.Sublist.refl _)))
        have hb5 := hh.get (B5, .cells (rowsV d sa sb ca cb).cells 26) (.head _)
        have hb5n := off_nodup hh
        have hX2 : ∀ x ∈ X2, w.heap[x.1]? = some x.2 := fun x hx => hh.get x (.tail _ hx)
        obtain ⟨u1, rfl⟩ : ∃ z, z = w := ⟨_, rfl⟩
        replace hh := ownSl_hp hO2 hX2
        have hcl := curW_le (d := d) (b := b) (i := i) (k := k) (n := n1) (m := n2 + 1) (by omega) (by omega)
        refine sy_ops ?_
        refine o_v hf hh (y_lds Tryd.ag_26 rfl) ?_; clear hf a; intro a hf
        refine o_v hf hh (yv_move rfl) ?_; clear hf a; intro a hf
        refine o_v hf hh (yv_move rfl) ?_; clear hf a; intro a hf
        refine o_call hf Tryd.en_46 rfl rfl rfl (c46 d sa sb ca cb _ (hA1.keep hh).mk (hB1.keep hh).mk hV (i + n1) (k + n2) (by omega) (by omega)) ?_; clear hf a; intro v a w hR hf
        obtain ⟨rfl, hx⟩ := hR; replace hh := hh.more hx; clear hx
        refine o_end ?_
        refine sy_cond hf rfl (fun hg10 => ?_) (fun hg10 => ?_)
        ·have hG10 := hg10; try simp only [gS] at hG10
         refine sy_treeC (.q 0 0 (.p 2 (.p 4 (.p 5 (.p 6 (.p 9 (.p 10 (.p 11 (.p 12 (.p 13 (.e2 1 (.e2 3 (.e1 7 (.e1 8 (.e1 14 (.p 15 (.fin))))) 7 (.e1 3 (.e1 8 (.e1 14 (.p 15 (.fin)))))) 7 (.e1 1 (.e1 3 (.e1 8 (.e1 14 (.p 15 (.fin))))))))))))))))) [[]] [(AtE u1 (X2.map Prod.fst) [], [])] Tryd.follows (by kernel_rfl) rfl hh (fun w hh => ?_)
         refine mc_q rfl rfl (AtE.of hh (List.nil_subset _)) hf (y_lds Tryd.ag_26 rfl) (.inl rfl) rfl rfl ?_; clear hf a; intro a hf
         refine mc_p rfl   hf (yv_move rfl) (.inl rfl) rfl rfl ?_; clear hf a; intro a hf
         refine mc_p rfl   hf (yv_move rfl) (.inl rfl) rfl rfl ?_; clear hf a; intro a hf
         refine mc_p rfl   hf (yv_move rfl) (.inl rfl) rfl rfl ?_; clear hf a; intro a hf
         refine mc_p rfl   hf (yv_buildA Tryd.ba_45 rfl rfl) (.inl rfl) rfl rfl ?_; clear hf a; intro a hf
         refine mc_p rfl   hf (yv_move rfl) (.inl rfl) rfl rfl ?_; clear hf a; intro a hf
         refine mc_p rfl   hf (yv_cast (yv_add rfl rfl (by omega) (by omega)) (intv (b := ((i + n1 + 1 : Nat) : Int)) (by omega))) (.inl rfl) rfl rfl ?_; clear hf a; intro a hf
         refine mc_p rfl   hf (yv_move rfl) (.inl rfl) rfl rfl ?_; clear hf a; intro a hf
         refine mc_p rfl   hf (yv_cast (yv_add rfl rfl (by omega) (by omega)) (intv (b := ((k + n2 + 1 : Nat) : Int)) (by omega))) (.inl rfl) rfl rfl ?_; clear hf a; intro a hf
         refine mc_p rfl   hf (yv_move rfl) (.inl rfl) rfl rfl ?_; clear hf a; intro a hf
         refine ⟨?_, ?_⟩
         ·refine mc_e rfl fun Q1 => ?_
          refine ops_buildSl hf hh Tryd.bl_34_0 rfl rfl (.inl rfl) rfl ?_; clear hf hh; clear a; intro B44 a w hf hh
          refine ops_end ?_
          refine then_n ⟨⟨fun _ _ => (AtE.of hh (List.nil_subset _)), trivial⟩, ?_⟩
          refine ⟨?_, ?_⟩
          ·refine mc_e rfl fun Q1 => ?_
           first
             | (refine ops_appendV (e := 45) (size := 2) (xs := []) (news := encP b) (X := [(B44, .cells #[] 45)]) (m := 0) hf hh Tryd.eb_34 rfl rfl ⟨rfl, .inr ⟨B44, 0, #[], rfl, rfl, Nat.le_refl _, Nat.zero_le _, rfl, rfl⟩⟩ (hvb1.ext hh.ext).vals (by rw [encP_len, hnb]) (by omega) (encP_1c _) (by simp only [maxLen]; omega) (by omega) (.inl rfl) rfl ?_)
             | (refine ops_appendV (e := 45) (size := 2) (xs := []) (news := encP b) (X := [(B44, .cells #[] 45)]) (m := 0) hf (hh.perm (.swap _ _ _)) Tryd.eb_34 rfl rfl ⟨rfl, .inr ⟨B44, 0, #[], rfl, rfl, Nat.le_refl _, Nat.zero_le _, rfl, rfl⟩⟩ (hvb1.ext hh.ext).vals (by rw [encP_len, hnb]) (by omega) (encP_1c _) (by simp only [maxLen]; omega) (by omega) (.inl rfl) rfl ?_)
           clear hf hh a; intro v4 X4 a w hO4 hf hh
           rw [Nat.zero_add, List.nil_append] at hO4
           refine ops_end ?_
           refine then_n ⟨⟨fun _ _ => (AtE.of hh (List.nil_subset _)), trivial⟩, ?_⟩
           refine mc_e rfl fun Q1 => ?_
           refine ops_buildSl hf hh Tryd.bl_34_1 rfl rfl (.inl rfl) rfl ?_; clear hf hh; clear a; intro B50 a w hf hh
           refine ops_end ?_
           refine then_n ⟨⟨fun _ _ => (AtE.of hh (List.nil_subset _)), trivial⟩, ?_⟩
           refine mc_e rfl fun Q1 => ?_
           first
             | (refine ops_append (e := 45) (size := 2) (xs := encP b) (X := X4) (Z := X2) (m := nb) (q := 1) hf hh Tryd.eb_34 rfl rfl hO4 rfl rfl rfl (by simp only [maxLen]; omega) (by omega) (.inl rfl) rfl ?_)
             | (refine ops_append (e := 45) (size := 2) (xs := encP b) (X := X4) (Z := X2) (m := nb) (q := 1) hf (hh.perm List.perm_middle) Tryd.eb_34 rfl rfl hO4 rfl rfl rfl (by simp only [maxLen]; omega) (by omega) (.inl rfl) rfl ?_)
           clear hf hh a; intro v5 X5 a w hO5 hf hh
           replace hO5 : OwnSl 45 2 v5 (nb + 1) (encP (b ++ [(i + n1, k + n2)])) X5 := by rw [encP_snoc]; exact hO5
           obtain ⟨oa5, cp5, rfl⟩ := OwnSl_val hO5
           refine ops_end ?_
           refine then_n ⟨⟨fun _ _ => (AtE.of hh (List.nil_subset _)), trivial⟩, ?_⟩
           refine mc_e rfl fun Q1 => ?_
           have hcy := curW_yes (d := d) (b := b) (i := i) (k := k) (n := n1) (m := n2) (by assumption)
           have hly := congrArg List.length hcy
           rw [List.length_append] at hly
           have hs2' := hh.less (List.sublist_append_right X5 X2)
           refine o_call hf Tryd.en_87 rfl rfl rfl (ih (d.l.length - (i + n1 + 1)) (by omega) _ (b ++ [(i + n1, k + n2)]) (nb + 1) oa5 cp5 (i + n1 + 1) (k + n2 + 1) v2 (m + (curW d b i k n1 n2).length) (hs ++ hs2) X2 (Nat.le_refl _) (hA1.keep hs2') (hB1.keep hs2') (valsOff_own (Z := []) hO5 (by rw [List.append_nil]; exact hh)) hO2 (fun x hx => hh.get x (List.mem_append_right _ hx)) (by rw [List.length_append, hnb]; rfl) (by omega) (by omega) (by omega) (by omega)) ?_; clear hf a; intro v a w hR hf
           obtain ⟨hs3, X3, hO3, hD3, hx⟩ := hR; obtain ⟨v3, rfl⟩ : ∃ z, z = v := ⟨_, rfl⟩
           have hx2 := (hh.swap' List.perm_append_comm hx).less (List.sublist_append_left _ _)
           replace hh := hx2; clear hx
           refine ops_end ?_
           refine then_n ⟨⟨fun _ _ => (AtE.of hh (List.nil_subset _)), trivial⟩, ?_⟩
           refine mc_p rfl   hf (yv_assign rfl) (.inl rfl) rfl rfl ?_; clear hf a; intro a hf
           refine mc_end ?_
           refine blk_n ?_
           refine then_n ?_
           first
             | exact ⟨(v3, hs2 ++ hs3, X3), ⟨by rw [hcy, List.length_append, ← Nat.add_assoc, ← List.append_assoc]; exact hO3, by rw [hcy]; exact (hD2.keep hx2).app hD3, (hh0.swap' (List.perm_append_comm (l₁ := [(B5, Obj.cells (rowsV d sa sb ca cb).cells 26)])) hx2).perm List.perm_append_comm⟩, hf.head ⟨rfl, True.intro⟩ (Keep.cons rfl (Keep.cons rfl (Keep.cons rfl (Keep.cons rfl (Keep.cons rfl (Keep.cons rfl (Keep.cons rfl (Keep.cons rfl (Keep.cons rfl (Keep.cons rfl (Keep.cons rfl (Keep.cons rfl (Keep.cons rfl (Keep.cons rfl (Keep.cons rfl (Keep.cons rfl (Keep.cons rfl (Keep.cons rfl (Keep.cons rfl (Keep.cons rfl (Keep.base)))))))))))))))))))))⟩
             | (have hcn := curW_no (d := d) (b := b) (i := i) (k := k) (n := n1) (m := n2) (by assumption)
                exact ⟨(v2, hs2, X2), ⟨by rw [hcn]; exact hO2, by rw [hcn]; exact hD2.keep hh, (hh0.swap' (List.perm_append_comm (l₁ := [(B5, Obj.cells (rowsV d sa sb ca cb).cells 26)])) hh).perm List.perm_append_comm⟩, hf.head ⟨rfl, True.intro⟩ (Keep.cons rfl (Keep.cons rfl (Keep.cons rfl (Keep.cons rfl (Keep.cons rfl (Keep.cons rfl (Keep.cons rfl (Keep.cons rfl (Keep.cons rfl (Keep.cons rfl (Keep.cons rfl (Keep.cons rfl (Keep.cons rfl (Keep.cons rfl (Keep.cons rfl (Keep.cons rfl (Keep.cons rfl (Keep.cons rfl (Keep.cons rfl (Keep.cons rfl (Keep.base)))))))))))))))))))))⟩)
          ·refine mc_e rfl fun Q1 => ?_
           refine ops_buildSl hf hh Tryd.bl_34_1 rfl rfl (.inl rfl) rfl ?_; clear hf hh; clear a; intro B50 a w hf hh
           refine ops_end ?_
           refine then_n ⟨⟨fun _ _ => (AtE.of hh (List.nil_subset _)), trivial⟩, ?_⟩
           refine mc_e rfl fun Q1 => ?_
           first
             | (refine ops_appendV (e := 45) (size := 2) (xs := []) (news := encP b) (X := [(B44, .cells #[] 45)]) (m := 0) hf hh Tryd.eb_34 rfl rfl ⟨rfl, .inr ⟨B44, 0, #[], rfl, rfl, Nat.le_refl _, Nat.zero_le _, rfl, rfl⟩⟩ (hvb1.ext hh.ext).vals (by rw [encP_len, hnb]) (by omega) (encP_1c _) (by simp only [maxLen]; omega) (by omega) (.inl rfl) rfl ?_)
             | (refine ops_appendV (e := 45) (size := 2) (xs := []) (news := encP b) (X := [(B44, .cells #[] 45)]) (m := 0) hf (hh.perm (.swap _ _ _)) Tryd.eb_34 rfl rfl ⟨rfl, .inr ⟨B44, 0, #[], rfl, rfl, Nat.le_refl _, Nat.zero_le _, rfl, rfl⟩⟩ (hvb1.ext hh.ext).vals (by rw [encP_len, hnb]) (by omega) (encP_1c _) (by simp only [maxLen]; omega) (by omega) (.inl rfl) rfl ?_)
           clear hf hh a; intro v4 X4 a w hO4 hf hh
           rw [Nat.zero_add, List.nil_append] at hO4
           refine ops_end ?_
           refine then_n ⟨⟨fun _ _ => (AtE.of hh (List.nil_subset _)), trivial⟩, ?_⟩
           refine mc_e rfl fun Q1 => ?_
           first
             | (refine ops_append (e := 45) (size := 2) (xs := encP b) (X := X4) (Z := X2) (m := nb) (q := 1) hf hh Tryd.eb_34 rfl rfl hO4 rfl rfl rfl (by simp only [maxLen]; omega) (by omega) (.inl rfl) rfl ?_)
             | (refine ops_append (e := 45) (size := 2) (xs := encP b) (X := X4) (Z := X2) (m := nb) (q := 1) hf (hh.perm List.perm_middle) Tryd.eb_34 rfl rfl hO4 rfl rfl rfl (by simp only [maxLen]; omega) (by omega) (.inl rfl) rfl ?_)
           clear hf hh a; intro v5 X5 a w hO5 hf hh
           replace hO5 : OwnSl 45 2 v5 (nb + 1) (encP (b ++ [(i + n1, k + n2)])) X5 := by rw [encP_snoc]; exact hO5
           obtain ⟨oa5, cp5, rfl⟩ := OwnSl_val hO5
           refine ops_end ?_
           refine then_n ⟨⟨fun _ _ => (AtE.of hh (List.nil_subset _)), trivial⟩, ?_⟩
           refine mc_e rfl fun Q1 => ?_
           have hcy := curW_yes (d := d) (b := b) (i := i) (k := k) (n := n1) (m := n2) (by assumption)
           have hly := congrArg List.length hcy
           rw [List.length_append] at hly
           have hs2' := hh.less (List.sublist_append_right X5 X2)
           refine o_call hf Tryd.en_87 rfl rfl rfl (ih (d.l.length - (i + n1 + 1)) (by omega) _ (b ++ [(i + n1, k + n2)]) (nb + 1) oa5 cp5 (i + n1 + 1) (k + n2 + 1) v2 (m + (curW d b i k n1 n2).length) (hs ++ hs2) X2 (Nat.le_refl _) (hA1.keep hs2') (hB1.keep hs2') (valsOff_own (Z := []) hO5 (by rw [List.append_nil]; exact hh)) hO2 (fun x hx => hh.get x (List.mem_append_right _ hx)) (by rw [List.length_append, hnb]; rfl) (by omega) (by omega) (by omega) (by omega)) ?_; clear hf a; intro v a w hR hf
           obtain ⟨hs3, X3, hO3, hD3, hx⟩ := hR; obtain ⟨v3, rfl⟩ : ∃ z, z = v := ⟨_, rfl⟩
           have hx2 := (hh.swap' List.perm_append_comm hx).less (List.sublist_append_left _ _)
           replace hh := hx2; clear hx
           refine ops_end ?_
           refine then_n ⟨⟨fun _ _ => (AtE.of hh (List.nil_subset _)), trivial⟩, ?_⟩
           refine mc_p rfl   hf (yv_assign rfl) (.inl rfl) rfl rfl ?_; clear hf a; intro a hf
           refine mc_end ?_
           refine blk_n ?_
           refine then_n ?_
           first
             | exact ⟨(v3, hs2 ++ hs3, X3), ⟨by rw [hcy, List.length_append, ← Nat.add_assoc, ← List.append_assoc]; exact hO3, by rw [hcy]; exact (hD2.keep hx2).app hD3, (hh0.swap' (List.perm_append_comm (l₁ := [(B5, Obj.cells (rowsV d sa sb ca cb).cells 26)])) hx2).perm List.perm_append_comm⟩, hf.head ⟨rfl, True.intro⟩ (Keep.cons rfl (Keep.cons rfl (Keep.cons rfl (Keep.cons rfl (Keep.cons rfl (Keep.cons rfl (Keep.cons rfl (Keep.cons rfl (Keep.cons rfl (Keep.cons rfl (Keep.cons rfl (Keep.cons rfl (Keep.cons rfl (Keep.cons rfl (Keep.cons rfl (Keep.cons rfl (Keep.cons rfl (Keep.cons rfl (Keep.cons rfl (Keep.cons rfl (Keep.base)))))))))))))))))))))⟩
             | (have hcn := curW_no (d := d) (b := b) (i := i) (k := k) (n := n1) (m := n2) (by assumption)
                exact ⟨(v2, hs2, X2), ⟨by rw [hcn]; exact hO2, by rw [hcn]; exact hD2.keep hh, (hh0.swap' (List.perm_append_comm (l₁ := [(B5, Obj.cells (rowsV d sa sb ca cb).cells 26)])) hh).perm List.perm_append_comm⟩, hf.head ⟨rfl, True.intro⟩ (Keep.cons rfl (Keep.cons rfl (Keep.cons rfl (Keep.cons rfl (Keep.cons rfl (Keep.cons rfl (Keep.cons rfl (Keep.cons rfl (Keep.cons rfl (Keep.cons rfl (Keep.cons rfl (Keep.cons rfl (Keep.cons rfl (Keep.cons rfl (Keep.cons rfl (Keep.cons rfl (Keep.cons rfl (Keep.cons rfl (Keep.cons rfl (Keep.cons rfl (Keep.base)))))))))))))))))))))⟩)
         ·refine mc_e rfl fun Q1 => ?_
          refine ops_buildSl hf hh Tryd.bl_34_1 rfl rfl (.inl rfl) rfl ?_; clear hf hh; clear a; intro B50 a w hf hh
          refine ops_end ?_
          refine then_n ⟨⟨fun _ _ => (AtE.of hh (List.nil_subset _)), trivial⟩, ?_⟩
          refine mc_e rfl fun Q1 => ?_
          refine ops_buildSl hf hh Tryd.bl_34_0 rfl rfl (.inl rfl) rfl ?_; clear hf hh; clear a; intro B44 a w hf hh
          refine ops_end ?_
          refine then_n ⟨⟨fun _ _ => (AtE.of hh (List.nil_subset _)), trivial⟩, ?_⟩
          refine mc_e rfl fun Q1 => ?_
          first
            | (refine ops_appendV (e := 45) (size := 2) (xs := []) (news := encP b) (X := [(B44, .cells #[] 45)]) (m := 0) hf hh Tryd.eb_34 rfl rfl ⟨rfl, .inr ⟨B44, 0, #[], rfl, rfl, Nat.le_refl _, Nat.zero_le _, rfl, rfl⟩⟩ (hvb1.ext hh.ext).vals (by rw [encP_len, hnb]) (by omega) (encP_1c _) (by simp only [maxLen]; omega) (by omega) (.inl rfl) rfl ?_)
            | (refine ops_appendV (e := 45) (size := 2) (xs := []) (news := encP b) (X := [(B44, .cells #[] 45)]) (m := 0) hf (hh.perm (.swap _ _ _)) Tryd.eb_34 rfl rfl ⟨rfl, .inr ⟨B44, 0, #[], rfl, rfl, Nat.le_refl _, Nat.zero_le _, rfl, rfl⟩⟩ (hvb1.ext hh.ext).vals (by rw [encP_len, hnb]) (by omega) (encP_1c _) (by simp only [maxLen]; omega) (by omega) (.inl rfl) rfl ?_)
          clear hf hh a; intro v4 X4 a w hO4 hf hh
          rw [Nat.zero_add, List.nil_append] at hO4
          refine ops_end ?_
          refine then_n ⟨⟨fun _ _ => (AtE.of hh (List.nil_subset _)), trivial⟩, ?_⟩
          refine mc_e rfl fun Q1 => ?_
          first
            | (refine ops_append (e := 45) (size := 2) (xs := encP b) (X := X4) (Z := X2) (m := nb) (q := 1) hf hh Tryd.eb_34 rfl rfl hO4 rfl rfl rfl (by simp only [maxLen]; omega) (by omega) (.inl rfl) rfl ?_)
            | (refine ops_append (e := 45) (size := 2) (xs := encP b) (X := X4) (Z := X2) (m := nb) (q := 1) hf (hh.perm List.perm_middle) Tryd.eb_34 rfl rfl hO4 rfl rfl rfl (by simp only [maxLen]; omega) (by omega) (.inl rfl) rfl ?_)
          clear hf hh a; intro v5 X5 a w hO5 hf hh
          replace hO5 : OwnSl 45 2 v5 (nb + 1) (encP (b ++ [(i + n1, k + n2)])) X5 := by rw [encP_snoc]; exact hO5
          obtain ⟨oa5, cp5, rfl⟩ := OwnSl_val hO5
          refine ops_end ?_
          refine then_n ⟨⟨fun _ _ => (AtE.of hh (List.nil_subset _)), trivial⟩, ?_⟩
          refine mc_e rfl fun Q1 => ?_
          have hcy := curW_yes (d := d) (b := b) (i := i) (k := k) (n := n1) (m := n2) (by assumption)
          have hly := congrArg List.length hcy
          rw [List.length_append] at hly
          have hs2' := hh.less (List.sublist_append_right X5 X2)
          refine o_call hf Tryd.en_87 rfl rfl rfl (ih (d.l.length - (i + n1 + 1)) (by omega) _ (b ++ [(i + n1, k + n2)]) (nb + 1) oa5 cp5 (i + n1 + 1) (k + n2 + 1) v2 (m + (curW d b i k n1 n2).length) (hs ++ hs2) X2 (Nat.le_refl _) (hA1.keep hs2') (hB1.keep hs2') (valsOff_own (Z := []) hO5 (by rw [List.append_nil]; exact hh)) hO2 (fun x hx => hh.get x (List.mem_append_right _ hx)) (by rw [List.length_append, hnb]; rfl) (by omega) (by omega) (by omega) (by omega)) ?_; clear hf a; intro v a w hR hf
          obtain ⟨hs3, X3, hO3, hD3, hx⟩ := hR; obtain ⟨v3, rfl⟩ : ∃ z, z = v := ⟨_, rfl⟩
          have hx2 := (hh.swap' List.perm_append_comm hx).less (List.sublist_append_left _ _)
          replace hh := hx2; clear hx
          refine ops_end ?_
          refine then_n ⟨⟨fun _ _ => (AtE.of hh (List.nil_subset _)), trivial⟩, ?_⟩
          refine mc_p rfl   hf (yv_assign rfl) (.inl rfl) rfl rfl ?_; clear hf a; intro a hf
          refine mc_end ?_
          refine blk_n ?_
          refine then_n ?_
          first
            | exact ⟨(v3, hs2 ++ hs3, X3), ⟨by rw [hcy, List.length_append, ← Nat.add_assoc, ← List.append_assoc]; exact hO3, by rw [hcy]; exact (hD2.keep hx2).app hD3, (hh0.swap' (List.perm_append_comm (l₁ := [(B5, Obj.cells (rowsV d sa sb ca cb).cells 26)])) hx2).perm List.perm_append_comm⟩, hf.head ⟨rfl, True.intro⟩ (Keep.cons rfl (Keep.cons rfl (Keep.cons rfl (Keep.cons rfl (Keep.cons rfl (Keep.cons rfl (Keep.cons rfl (Keep.cons rfl (Keep.cons rfl (Keep.cons rfl (Keep.cons rfl (Keep.cons rfl (Keep.cons rfl (Keep.cons rfl (Keep.cons rfl (Keep.cons rfl (Keep.cons rfl (Keep.cons rfl (Keep.cons rfl (Keep.cons rfl (Keep.base)))))))))))))))))))))⟩
            | (have hcn := curW_no (d := d) (b := b) (i := i) (k := k) (n := n1) (m := n2) (by assumption)
               exact ⟨(v2, hs2, X2), ⟨by rw [hcn]; exact hO2, by rw [hcn]; exact hD2.keep hh, (hh0.swap' (List.perm_append_comm (l₁ := [(B5, Obj.cells (rowsV d sa sb ca cb).cells 26)])) hh).perm List.perm_append_comm⟩, hf.head ⟨rfl, True.intro⟩ (Keep.cons rfl (Keep.cons rfl (Keep.cons rfl (Keep.cons rfl (Keep.cons rfl (Keep.cons rfl (Keep.cons rfl (Keep.cons rfl (Keep.cons rfl (Keep.cons rfl (Keep.cons rfl (Keep.cons rfl (Keep.cons rfl (Keep.cons rfl (Keep.cons rfl (Keep.cons rfl (Keep.cons rfl (Keep.cons rfl (Keep.cons rfl (Keep.cons rfl (Keep.base)))))))))))))))))))))⟩)
        ·have hG10 := hg10; try simp only [gS] at hG10
         refine sy_skip ?_
         refine blk_n ?_
         refine then_n ?_
         first
           | exact ⟨(v3, hs2 ++ hs3, X3), ⟨by rw [hcy, List.length_append, ← Nat.add_assoc, ← List.append_assoc]; exact hO3, by rw [hcy]; exact (hD2.keep hx2).app hD3, (hh0.swap' (List.perm_append_comm (l₁ := [(B5, Obj.cells (rowsV d sa sb ca cb).cells 26)])) hx2).perm List.perm_append_comm⟩, hf.head ⟨rfl, True.intro⟩ (Keep.cons rfl (Keep.cons rfl (Keep.cons rfl (Keep.cons rfl (Keep.base)))))⟩
           | (have hcn := curW_no (d := d) (b := b) (i := i) (k := k) (n := n1) (m := n2) (by assumption)
              exact ⟨(v2, hs2, X2), ⟨by rw [hcn]; exact hO2, by rw [hcn]; exact hD2.keep hh, (hh0.swap' (List.perm_append_comm (l₁ := [(B5, Obj.cells (rowsV d sa sb ca cb).cells 26)])) hh).perm List.perm_append_comm⟩, hf.head ⟨rfl, True.intro⟩ (Keep.cons rfl (Keep.cons rfl (Keep.cons rfl (Keep.cons rfl (Keep.base)))))⟩)
       ·rintro q a w ⟨hO3, hD3, hh⟩ hf
        obtain ⟨v3, hs3, X3⟩ := q
        simp only at hO3 hD3 hh hf
        refine sy_ops ?_
        refine o_v hf hh (yv_move rfl) ?_; clear hf a; intro a hf
        refine o_v hf hh (y_add rfl rfl) ?_; clear hf a; intro a hf
        refine o_v hf hh (yv_assign rfl) ?_; clear hf a; intro a hf
        refine ops_end ?_
        refine then_n ?_
        exact ⟨(n2 + 1, v3, hs3, X3), ⟨⟨by simp only; omega, hO3, hD3, hh⟩, hf.head ⟨rfl, rfl, True.intro⟩ (Keep.cons rfl (Keep.cons rfl (Keep.cons rfl (Keep.app rfl (Keep.rm rfl (Keep.cons rfl (Keep.cons rfl (Keep.cons rfl (Keep.cons rfl (Keep.cons rfl (Keep.app rfl (Keep.rm rfl Keep.base))))))))))))⟩, by simp only; omega⟩
      ·have hG8 := hg8; try simp only [gS] at hG8
       refine sy_exit ?_
       refine then_e ?_
       refine then_e ?_
       refine blk_e ?_
       refine blk_n ?_
       refine then_n ?_
       refine sy_ops ?_
       refine o_v hf hh (yv_move rfl) ?_; clear hf a; intro a hf
       refine o_v hf hh (y_add rfl rfl) ?_; clear hf a; intro a hf
       refine o_v hf hh (yv_assign rfl) ?_; clear hf a; intro a hf
       refine ops_end ?_
       refine then_n ?_
       have hcn : curW d b i k (n1 + 1) 0 = curW d b i k n1 n2 := by rw [curW_zero, ← curW_next, show d.r.length - k = n2 by omega]
       exact ⟨(n1 + 1, v2, hs2, X2), ⟨⟨by simp only; omega, by simp only [hcn]; exact hO2, by simp only [hcn]; exact hD2, hh⟩, hf.head ⟨rfl, rfl, True.intro⟩ (Keep.cons rfl (Keep.cons rfl (Keep.cons rfl (Keep.cons rfl (Keep.cons rfl (Keep.cons rfl (Keep.cons rfl (Keep.cons rfl (Keep.app rfl (Keep.rm rfl (Keep.cons rfl (Keep.cons rfl (Keep.cons rfl (Keep.cons rfl (Keep.cons rfl (Keep.cons rfl (Keep.cons rfl (Keep.app rfl (Keep.rm rfl Keep.base)))))))))))))))))))⟩, by simp only; omega⟩
    ·have hG6 := hg6; try simp only [gS] at hG6
     refine sy_exit ?_
     refine then_e ?_
     refine then_e ?_
     refine blk_e ?_
     refine then_n ?_
     refine sy_sq ?_
     refine o_v hf hh (yv_move rfl) ?_; clear hf a; intro a hf
     refine o_v hf hh (yv_assign rfl) ?_; clear hf a; intro a hf
     refine o_end ?_
     refine sy_ret ?_
     refine ret_r hf rfl rfl ?_
     have hce : curW d b i k n1 0 = wysF d b i k := by rw [curW_zero, wysF_all, show d.l.length - i = n1 by omega]
     rw [hce] at hO1 hD1
     exact ⟨hs1, X1, hO1, hD1, hh.less (.cons _ (List.Sublist.refl _))⟩
end Go.Proofs.YtemmhdgaagaglaaDoor
namespace Go.MatM
open Go Go.Sy Go.Proofs
/-- The longest of some lists, the first one. -/
def bst (b : List Pr) (l : List (List Pr)) : List Pr := l.foldl (fun b c => if b.length < c.length then c else b) b
theorem bst_snoc (b c : List Pr) (l : List (List Pr)) : bst b (l ++ [c]) = if (bst b l).length < c.length then c else bst b l := by
  unfold bst; rw [List.foldl_append]; rfl
theorem bst_of {n : Nat} {g : List Pr} : ∀ (l : List (List Pr)) (b : List Pr), (∀ c ∈ l, c.length ≤ n) → (b.length = n → bst b l = b) ∧ (b.length < n → l.find? (fun c => decide (c.length = n)) = some g → bst b l = g)
  | [], b, _ => ⟨fun _ => rfl, fun _ h => by simp at h⟩
  | c :: l, b, h => by
    have hc := h c (.head _)
    have ih := fun b => bst_of (n := n) (g := g) l b fun x hx => h x (.tail _ hx)
    have e : bst b (c :: l) = bst (if b.length < c.length then c else b) l := rfl
    rw [e]
    constructor
    · intro hb
      rw [if_neg (by omega)]
      exact (ih b).1 hb
    · intro hb hf
      rw [List.find?_cons] at hf
      by_cases hn : c.length = n
      · rw [decide_eq_true hn] at hf
        have e2 : c = g := Option.some.inj hf
        rw [if_pos (by omega), ← e2]
        exact (ih c).1 hn
      · rw [decide_eq_false hn] at hf
        split
        · exact (ih c).2 (by omega) hf
        · exact (ih b).2 hb hf
theorem bst_wys {d : RowsD} (h : opE d true = 0) {c0 : List Pr} {l : List (List Pr)} (hw : wys d = c0 :: l) : bst c0 (wys d) = fewL d := by
  have hi := (opE_zero.1 h).2.2
  have hn := (isD_iff d).1 hi
  have hf : (chs (fitD d) d.l.length d.r.length 0 0).find? (fun c => decide (c.length = mosD d)) = some (fewL d) := by
    unfold fewL; rw [if_pos h]
    exact chF_find (F := fitD d) (L := d.l.length) (R := d.r.length) (f := d.l.length) (i := 0) (k := 0) (by omega) rfl
  have hf2 : (wys d).find? (fun c => decide (c.length = mosD d)) = some (fewL d) := by
    rw [wys_eq, List.find?_filter, ← hf]
    congr 1
    funext c
    rw [Bool.eq_iff_iff]
    simp only [Bool.and_eq_true, decide_eq_true_eq]
    omega
  have hall : ∀ c ∈ wys d, c.length ≤ mosD d := fun c hc => le_mos (mem_wys.1 hc).1
  obtain ⟨h1, h2⟩ := bst_of (n := mosD d) (g := fewL d) (wys d) c0 hall
  have hc0 := hall c0 (by rw [hw]; exact .head _)
  rcases Nat.lt_or_ge c0.length (mosD d) with h3 | h3
  · exact h2 h3 hf2
  · rw [hw, List.find?_cons, decide_eq_true (show c0.length = mosD d by omega)] at hf2
    rw [h1 (by omega)]
    exact Option.some.inj hf2
theorem wys_head {d : RowsD} (h : opE d true = 0) : ∃ c l, wys d = c :: l := by
  have h1 := (opE_zero.1 h).2.2
  have h2 := wys_none d
  match hw : wys d with
  | [] => rw [hw] at h2; have := h2.1 rfl; rw [h1] at this; cases this
  | c :: l => exact ⟨c, l, rfl⟩
theorem wys_long {d : RowsD} (hV : Valid d) : (wys d).length ≤ 1048576 := wysF_len hV [] 0 0
theorem wys_len {d : RowsD} {c : List Pr} (hV : Valid d) (hc : c ∈ wys d) : c.length ≤ 10 := by
  have h1 := le_mos (mem_wys.1 hc).1
  have h2 := (mos_le (fitD d) d.l.length d.r.length 0 0).1
  have := hV.nl
  omega
theorem few_le (d : RowsD) : (fewL d).length ≤ d.l.length := by
  by_cases h : opE d true = 0
  · rw [(fewL_eq h).2]; exact (mosD_le d).1
  · rw [fewL_none h]; exact Nat.zero_le _
theorem fewH_len {d : RowsD} (h : opE d true = 0) : fewH d = ((d.l.length : Nat) : Int) + ((d.r.length : Nat) : Int) - 2 * (((fewL d).length : Nat) : Int) := by
  rw [fewH_eq h, (fewL_eq h).2]; omega
end Go.MatM
namespace Go.Proofs.YtemmhdgaagaglaaDoor
open Go Go.Sy Go.MatM
theorem c48 (d : RowsD) (sa sb : Option Addr) (ca cb : Nat) (u : World) (hA : MkAt u sa d.l) (hB : MkAt u sb d.r) (hV : Valid d) : Calls Tryd.prog 48 #[rowsV d sa sb ca cb] u (Ret fun v w' => ∃ hs X, OwnSl 34 1 v (wys d).length hs X ∧ HdsAt encP List.length w' X hs (wys d) ∧ Hp u [] X w') := by
  refine calls_of Tryd.func48 rfl rfl (fun a hf => ?_)
  have hh := Hp.init u []
  have hlw := wys_long hV
  refine sy_sq ?_
  refine o_box hf hh ?_; clear hf hh a; intro B1 a w hf hh
  refine o_v hf hh (yv_assign rfl) ?_; clear hf a; intro a hf
  refine o_end ?_
  refine sy_sq ?_
  refine o_v hf hh (y_lds Tryd.ag_26 rfl) ?_; clear hf a; intro a hf
  refine o_call hf Tryd.en_87 rfl rfl rfl (c87 d sa sb ca cb hV d.l.length _ [] 0 none 0 0 0 (.slice none 0 0) 0 [] [] (by omega) (MkOff.of (hA.ext hh.ext)) (MkOff.of (hB.ext hh.ext)) (.inl rfl) (OwnSl.nil _ _) (by simp) rfl (by omega) (by omega) (by omega) (by show 0 + (wys d).length ≤ _; omega)) ?_; clear hf a; intro v a w hR hf
  obtain ⟨hs, X, hO, hD, hx⟩ := hR; obtain ⟨vo, rfl⟩ : ∃ z, z = v := ⟨_, rfl⟩
  replace hh := (hh.join hx).less (List.sublist_append_left _ _); clear hx
  replace hO : OwnSl 34 1 vo (wys d).length hs X := by rw [Nat.zero_add, List.nil_append] at hO; exact hO
  refine o_v hf hh (yv_assign rfl) ?_; clear hf a; intro a hf
  refine o_end ?_
  refine sy_ret ?_
  refine ret_r hf rfl rfl ?_
  exact ⟨hs, X, hO, hD, hh⟩
theorem c52 (d : RowsD) (sa sb : Option Addr) (ca cb : Nat) (u : World) (hA : MkAt u sa d.l) (hB : MkAt u sb d.r) (hl : d.l.length ≤ 1000) (hr : d.r.length ≤ 1000) (ok : Bool) : Calls Tryd.prog 52 #[rowsV d sa sb ca cb, .bool ok] u (Ret fun v w' => ∃ s hs X, v = .tuple #[s, .int .i64 (opE d ok)] ∧ (opE d ok = 0 → OwnSl 34 1 s (wys d).length hs X ∧ HdsAt encP List.length w' X hs (wys d)) ∧ Hp u [] X w') := by
  refine calls_of Tryd.func52 rfl rfl (fun a hf => ?_)
  have hh := Hp.init u []
  refine sy_sq ?_
  refine o_box hf hh ?_; clear hf hh a; intro B2 a w hf hh
  refine o_v hf hh (yv_assign rfl) ?_; clear hf a; intro a hf
  refine o_v hf hh (yv_assign rfl) ?_; clear hf a; intro a hf
  refine o_end ?_
  refine sy_seq ?_
  refine sy_sq ?_
  refine o_v hf hh (y_lds Tryd.ag_26 rfl) ?_; clear hf a; intro a hf
  refine o_call hf Tryd.en_26 rfl rfl rfl (c26 d sa sb ca cb _ (hA.ext hh.ext) (hB.ext hh.ext) (by omega) (by omega)) ?_; clear hf a; intro v a w hR hf
  obtain ⟨rfl, hx⟩ := hR; replace hh := hh.more hx; clear hx
  refine o_v hf hh (yv_not rfl) ?_; clear hf a; intro a hf
  refine o_end ?_
  refine sy_cond hf rfl (fun hg2 => ?_) (fun hg2 => ?_)
  ·have hG2 := hg2; try simp only [gS] at hG2
   refine sy_sq ?_
   refine o_v hf hh (yv_assign rfl) ?_; clear hf a; intro a hf
   refine o_v hf hh (yv_assign rfl) ?_; clear hf a; intro a hf
   refine o_end ?_
   refine sy_ret ?_
   refine then_r ?_
   refine ret_r hf rfl rfl ?_
   have e : opE d ok = 1 := by unfold opE; rw [if_pos (by simp_all)]
   rw [e]; exact ⟨_, [], [], rfl, fun h => absurd h (by decide), hh.less (List.nil_sublist _)⟩
  ·have hG2 := hg2; try simp only [gS] at hG2
   refine sy_skip ?_
   refine then_n ?_
   refine sy_seq ?_
   refine sy_sq ?_
   refine o_v hf hh (yv_move rfl) ?_; clear hf a; intro a hf
   refine o_v hf hh (yv_not rfl) ?_; clear hf a; intro a hf
   refine o_end ?_
   refine sy_cond hf rfl (fun hg4 => ?_) (fun hg4 => ?_)
   ·have hG4 := hg4; try simp only [gS] at hG4
    refine sy_sq ?_
    refine o_v hf hh (yv_assign rfl) ?_; clear hf a; intro a hf
    refine o_v hf hh (yv_assign rfl) ?_; clear hf a; intro a hf
    refine o_end ?_
    refine sy_ret ?_
    refine then_r ?_
    refine ret_r hf rfl rfl ?_
    have e : opE d ok = 2 := by unfold opE; rw [if_neg (by simp_all), if_pos (by simp_all)]
    rw [e]; exact ⟨_, [], [], rfl, fun h => absurd h (by decide), hh.less (List.nil_sublist _)⟩
   ·have hG4 := hg4; try simp only [gS] at hG4
    refine sy_skip ?_
    refine then_n ?_
    refine sy_seq ?_
    have hok : okRows d = true := by simp_all
    have hV := (okRows_iff d).1 hok
    refine sy_ops ?_
    refine o_v hf hh (y_lds Tryd.ag_26 rfl) ?_; clear hf a; intro a hf
    refine o_call hf Tryd.en_48 rfl rfl rfl (c48 d sa sb ca cb _ (hA.ext hh.ext) (hB.ext hh.ext) hV) ?_; clear hf a; intro v a w hR hf
    obtain ⟨hs, X, hO, hD, hx⟩ := hR; obtain ⟨vo, rfl⟩ : ∃ z, z = v := ⟨_, rfl⟩
    replace hh := (hh.join hx).less (List.sublist_append_left _ _); clear hx
    obtain ⟨oa, cp, rfl⟩ := OwnSl_val hO
    refine o_v hf hh (yv_assign rfl) ?_; clear hf a; intro a hf
    refine o_end ?_
    refine sy_seq ?_
    refine sy_sq ?_
    refine o_v hf hh (yv_move rfl) ?_; clear hf a; intro a hf
    refine o_v hf hh (yv_len Tryd.se_77 rfl) ?_; clear hf a; intro a hf
    refine o_v hf hh (yv_bin rfl rfl rfl) ?_; clear hf a; intro a hf
    refine o_end ?_
    refine sy_cond hf rfl (fun hg7 => ?_) (fun hg7 => ?_)
    ·have hG7 := hg7; try simp only [gS] at hG7
     refine sy_sq ?_
     refine o_v hf hh (yv_assign rfl) ?_; clear hf a; intro a hf
     refine o_v hf hh (yv_assign rfl) ?_; clear hf a; intro a hf
     refine o_end ?_
     refine sy_ret ?_
     refine then_r ?_
     refine ret_r hf rfl rfl ?_
     have hi := (wys_none d).1 (by omega)
     have e : opE d ok = 4 := by unfold opE; rw [if_neg (by simp_all), if_neg (by simp_all), if_pos hi]
     rw [e]; exact ⟨_, [], [], rfl, fun h => absurd h (by decide), hh.less (List.nil_sublist _)⟩
    ·have hG7 := hg7; try simp only [gS] at hG7
     refine sy_skip ?_
     refine then_n ?_
     refine sy_sq ?_
     refine o_v hf hh (yv_move rfl) ?_; clear hf a; intro a hf
     refine o_v hf hh (yv_assign rfl) ?_; clear hf a; intro a hf
     refine o_v hf hh (yv_assign rfl) ?_; clear hf a; intro a hf
     refine o_end ?_
     refine sy_ret ?_
     refine ret_r hf rfl rfl ?_
     have hi : isD d = true := by
       cases h : isD d with
       | true => rfl
       | false => have := (wys_none d).2 h; omega
     have e : opE d ok = 0 := opE_zero.2 ⟨hok, by simp_all, hi⟩
     rw [e]; exact ⟨_, hs, X, rfl, fun _ => ⟨hO, hD⟩, hh⟩
theorem c18 (d : RowsD) (sa sb : Option Addr) (ca cb : Nat) (u : World) (hA : MkAt u sa d.l) (hB : MkAt u sb d.r) (hl : d.l.length ≤ 1000) (hr : d.r.length ≤ 1000) : Calls Tryd.prog 18 #[rowsV d sa sb ca cb] u (Ret fun v w' => v = .tuple #[.int .i64 (countV d), .int .i64 (countE d)] ∧ Ext [] u w') := by
  refine calls_of Tryd.func18 rfl rfl (fun a hf => ?_)
  have hh := Hp.init u []
  refine sy_sq ?_
  refine o_box hf hh ?_; clear hf hh a; intro B1 a w hf hh
  refine o_v hf hh (yv_assign rfl) ?_; clear hf a; intro a hf
  refine o_v hf hh (yv_assign rfl) ?_; clear hf a; intro a hf
  refine o_end ?_
  refine sy_seq ?_
  refine sy_sq ?_
  refine o_v hf hh (y_lds Tryd.ag_26 rfl) ?_; clear hf a; intro a hf
  refine o_call hf Tryd.en_26 rfl rfl rfl (c26 d sa sb ca cb _ (hA.ext hh.ext) (hB.ext hh.ext) (by omega) (by omega)) ?_; clear hf a; intro v a w hR hf
  obtain ⟨rfl, hx⟩ := hR; replace hh := hh.more hx; clear hx
  refine o_v hf hh (yv_not rfl) ?_; clear hf a; intro a hf
  refine o_end ?_
  refine sy_cond hf rfl (fun hg2 => ?_) (fun hg2 => ?_)
  ·have hG2 := hg2; try simp only [gS] at hG2
   refine sy_sq ?_
   refine o_v hf hh (yv_assign rfl) ?_; clear hf a; intro a hf
   refine o_v hf hh (yv_assign rfl) ?_; clear hf a; intro a hf
   refine o_end ?_
   refine sy_ret ?_
   refine then_r ?_
   refine ret_r hf rfl rfl ?_
   have e : okRows d = false := by simp_all
   exact ⟨by unfold countV countE; simp [tup, e], hh.ext⟩
  ·have hG2 := hg2; try simp only [gS] at hG2
   refine sy_skip ?_
   refine then_n ?_
   refine sy_seq ?_
   have hok : okRows d = true := by simp_all
   have hV := (okRows_iff d).1 hok
   refine sy_ops ?_
   refine o_v hf hh (y_lds Tryd.ag_26 rfl) ?_; clear hf a; intro a hf
   refine o_call hf Tryd.en_48 rfl rfl rfl (c48 d sa sb ca cb _ (hA.ext hh.ext) (hB.ext hh.ext) hV) ?_; clear hf a; intro v a w hR hf
   obtain ⟨hs, X, hO, hD, hx⟩ := hR; obtain ⟨vo, rfl⟩ : ∃ z, z = v := ⟨_, rfl⟩
   replace hh := (hh.join hx).less (List.sublist_append_left _ _); clear hx
   obtain ⟨oa, cp, rfl⟩ := OwnSl_val hO
   refine o_v hf hh (yv_len Tryd.se_77 rfl) ?_; clear hf a; intro a hf
   refine o_v hf hh (yv_assign rfl) ?_; clear hf a; intro a hf
   refine o_v hf hh (yv_assign rfl) ?_; clear hf a; intro a hf
   refine o_end ?_
   refine sy_ret ?_
   refine ret_r hf rfl rfl ?_
   exact ⟨by unfold countV countE; rw [hok, if_pos rfl, if_pos rfl, ← wys_cnt]; rfl, hh.ext⟩
theorem c45 (d : RowsD) (sa sb : Option Addr) (ca cb : Nat) (u : World) (hA : MkAt u sa d.l) (hB : MkAt u sb d.r) (l r : Int) (hl : d.l.length ≤ 1000) (hr : d.r.length ≤ 1000) : Calls Tryd.prog 45 #[rowsV d sa sb ca cb, .int .i64 l, .int .i64 r] u (Ret fun v w' => v = .bool (inB l d.l.length && inB r d.r.length) ∧ Ext [] u w') := by
  refine calls_of Tryd.func45 rfl rfl (fun a hf => ?_)
  have hh := Hp.init u []
  refine sy_sq ?_
  refine o_box hf hh ?_; clear hf hh a; intro B3 a w hf hh
  refine o_v hf hh (yv_assign rfl) ?_; clear hf a; intro a hf
  refine o_end ?_
  refine sy_sq ?_
  refine o_v hf hh (yv_move rfl) ?_; clear hf a; intro a hf
  refine o_v hf hh (yv_fieldAddr Tryd.fo_26_0 rfl) ?_; clear hf a; intro a hf
  refine o_v hf hh (y_ld Tryd.sc_22 rfl) ?_; clear hf a; intro a hf
  refine o_v hf hh (yv_len Tryd.se_22 rfl) ?_; clear hf a; intro a hf
  refine o_v hf hh (y_sub rfl rfl) ?_; clear hf a; intro a hf
  refine o_call hf Tryd.en_58 rfl rfl rfl (c58 _ _ _ _) ?_; clear hf a; intro v a w hR hf
  obtain ⟨rfl, hx⟩ := hR; replace hh := hh.more hx; clear hx
  refine o_v hf hh (yv_move rfl) ?_; clear hf a; intro a hf
  refine guard_split hf (t := 13) rfl (fun hg2 => ?_) (fun hg2 => ?_)
  ·have hG2 := hg2; try simp only [gS] at hG2
   refine o_v hf hh (yv_move rfl) ?_; clear hf a; intro a hf
   refine o_v hf hh (yv_fieldAddr Tryd.fo_26_1 rfl) ?_; clear hf a; intro a hf
   refine o_v hf hh (y_ld Tryd.sc_22 rfl) ?_; clear hf a; intro a hf
   refine o_v hf hh (yv_len Tryd.se_22 rfl) ?_; clear hf a; intro a hf
   refine o_v hf hh (y_sub rfl rfl) ?_; clear hf a; intro a hf
   refine o_call hf Tryd.en_58 rfl rfl rfl (c58 _ _ _ _) ?_; clear hf a; intro v a w hR hf
   obtain ⟨rfl, hx⟩ := hR; replace hh := hh.more hx; clear hx
   refine o_v hf hh (y_pt rfl rfl) ?_; clear hf a; intro a hf
   refine o_v hf hh (yv_assign rfl) ?_; clear hf a; intro a hf
   refine o_end ?_
   refine sy_ret ?_
   refine ret_r hf rfl rfl ?_
   first
     | exact ⟨by unfold inB; rw [show (decide (0 ≤ l) && decide (l ≤ ((d.l.length : Nat) : Int) - 1)) = true from by assumption]; rfl, hh.ext⟩
     | exact ⟨by unfold inB; rw [show (decide (0 ≤ l) && decide (l ≤ ((d.l.length : Nat) : Int) - 1)) = false from by assumption]; rfl, hh.ext⟩
  ·have hG2 := hg2; try simp only [gS] at hG2
   refine o_off hf ?_; clear hf a; intro a hf
   refine o_off hf ?_; clear hf a; intro a hf
   refine o_off hf ?_; clear hf a; intro a hf
   refine o_off hf ?_; clear hf a; intro a hf
   refine o_off hf ?_; clear hf a; intro a hf
   refine o_off hf ?_; clear hf a; intro a hf
   refine o_v hf hh (y_pf rfl rfl) ?_; clear hf a; intro a hf
   refine o_v hf hh (yv_assign rfl) ?_; clear hf a; intro a hf
   refine o_end ?_
   refine sy_ret ?_
   refine ret_r hf rfl rfl ?_
   first
     | exact ⟨by unfold inB; rw [show (decide (0 ≤ l) && decide (l ≤ ((d.l.length : Nat) : Int) - 1)) = true from by assumption]; rfl, hh.ext⟩
     | exact ⟨by unfold inB; rw [show (decide (0 ≤ l) && decide (l ≤ ((d.l.length : Nat) : Int) - 1)) = false from by assumption]; rfl, hh.ext⟩
theorem c16 (d : RowsD) (sa sb : Option Addr) (ca cb : Nat) (u : World) (hA : MkAt u sa d.l) (hB : MkAt u sb d.r) (l r : Int) (hl : d.l.length ≤ 1000) (hr : d.r.length ≤ 1000) : Calls Tryd.prog 16 #[rowsV d sa sb ca cb, .int .i64 l, .int .i64 r] u (Ret fun v w' => v = .tuple #[.bool (fitsV d l r), .int .i64 (fitsE d l r)] ∧ Ext [] u w') := by
  refine calls_of Tryd.func16 rfl rfl (fun a hf => ?_)
  have hh := Hp.init u []
  refine sy_sq ?_
  refine o_box hf hh ?_; clear hf hh a; intro B3 a w hf hh
  refine o_v hf hh (yv_assign rfl) ?_; clear hf a; intro a hf
  refine o_v hf hh (yv_assign rfl) ?_; clear hf a; intro a hf
  refine o_end ?_
  refine sy_seq ?_
  refine sy_sq ?_
  refine o_v hf hh (y_lds Tryd.ag_26 rfl) ?_; clear hf a; intro a hf
  refine o_call hf Tryd.en_26 rfl rfl rfl (c26 d sa sb ca cb _ (hA.ext hh.ext) (hB.ext hh.ext) (by omega) (by omega)) ?_; clear hf a; intro v a w hR hf
  obtain ⟨rfl, hx⟩ := hR; replace hh := hh.more hx; clear hx
  refine o_v hf hh (yv_not rfl) ?_; clear hf a; intro a hf
  refine o_end ?_
  refine sy_cond hf rfl (fun hg2 => ?_) (fun hg2 => ?_)
  ·have hG2 := hg2; try simp only [gS] at hG2
   refine sy_sq ?_
   refine o_v hf hh (yv_assign rfl) ?_; clear hf a; intro a hf
   refine o_v hf hh (yv_assign rfl) ?_; clear hf a; intro a hf
   refine o_end ?_
   refine sy_ret ?_
   refine then_r ?_
   refine ret_r hf rfl rfl ?_
   have e : fitsE d l r = 1 := by unfold fitsE; rw [if_pos (by simp_all)]
   exact ⟨by unfold fitsV; rw [e]; rfl, hh.ext⟩
  ·have hG2 := hg2; try simp only [gS] at hG2
   refine sy_skip ?_
   refine then_n ?_
   refine sy_seq ?_
   refine sy_sq ?_
   refine o_v hf hh (y_lds Tryd.ag_26 rfl) ?_; clear hf a; intro a hf
   refine o_v hf hh (yv_move rfl) ?_; clear hf a; intro a hf
   refine o_v hf hh (yv_move rfl) ?_; clear hf a; intro a hf
   refine o_call hf Tryd.en_45 rfl rfl rfl (c45 d sa sb ca cb _ (hA.ext hh.ext) (hB.ext hh.ext) l r hl hr) ?_; clear hf a; intro v a w hR hf
   obtain ⟨rfl, hx⟩ := hR; replace hh := hh.more hx; clear hx
   refine o_v hf hh (yv_not rfl) ?_; clear hf a; intro a hf
   refine o_end ?_
   refine sy_cond hf rfl (fun hg4 => ?_) (fun hg4 => ?_)
   ·have hG4 := hg4; try simp only [gS] at hG4
    refine sy_sq ?_
    refine o_v hf hh (yv_assign rfl) ?_; clear hf a; intro a hf
    refine o_v hf hh (yv_assign rfl) ?_; clear hf a; intro a hf
    refine o_end ?_
    refine sy_ret ?_
    refine then_r ?_
    refine ret_r hf rfl rfl ?_
    have e : fitsE d l r = 2 := by unfold fitsE; rw [if_neg (by simp_all), if_pos (by simp_all)]
    exact ⟨by unfold fitsV; rw [e]; rfl, hh.ext⟩
   ·have hG4 := hg4; try simp only [gS] at hG4
    refine sy_skip ?_
    refine then_n ?_
    refine sy_seq ?_
    have hok : okRows d = true := by simp_all
    have hV := (okRows_iff d).1 hok
    have hin : (inB l d.l.length && inB r d.r.length) = true := by simp_all
    have hb := hin
    simp only [inB, Bool.and_eq_true, decide_eq_true_eq] at hb
    obtain ⟨hfE, hfV⟩ := fits_ok (d := d) hok (x := l.toNat) (y := r.toNat) (by omega) (by omega)
    rw [Int.toNat_of_nonneg hb.1.1, Int.toNat_of_nonneg hb.2.1] at hfE hfV
    refine sy_ops ?_
    refine o_v hf hh (y_lds Tryd.ag_26 rfl) ?_; clear hf a; intro a hf
    refine ops_v hf hh (yv_cast (yv_move rfl) (intv (b := ((l.toNat : Nat) : Int)) (by omega))) (.inl rfl) rfl rfl rfl ?_; clear hf a; intro a hf
    refine ops_v hf hh (yv_cast (yv_move rfl) (intv (b := ((r.toNat : Nat) : Int)) (by omega))) (.inl rfl) rfl rfl rfl ?_; clear hf a; intro a hf
    refine o_call hf Tryd.en_46 rfl rfl rfl (c46 d sa sb ca cb _ (hA.ext hh.ext) (hB.ext hh.ext) hV l.toNat r.toNat (by omega) (by omega)) ?_; clear hf a; intro v a w hR hf
    obtain ⟨rfl, hx⟩ := hR; replace hh := hh.more hx; clear hx
    refine o_v hf hh (yv_assign rfl) ?_; clear hf a; intro a hf
    refine o_v hf hh (yv_assign rfl) ?_; clear hf a; intro a hf
    refine o_end ?_
    refine sy_ret ?_
    refine ret_r hf rfl rfl ?_
    exact ⟨by rw [hfE, hfV]; rfl, hh.ext⟩
theorem c20 (d : RowsD) (sa sb : Option Addr) (ca cb : Nat) (u : World) (hA : MkAt u sa d.l) (hB : MkAt u sb d.r) (hl : d.l.length ≤ 1000) (hr : d.r.length ≤ 1000) : Calls Tryd.prog 20 #[rowsV d sa sb ca cb] u (Ret fun v w' => ∃ oa cp, v = .tuple #[.slice oa (fewL d).length cp, .int .i64 (fewH d), .int .i64 (opE d true)] ∧ ValsAt w' oa (encP (fewL d)) ∧ Ext [] u w') := by
  refine calls_of Tryd.func20 rfl rfl (fun a hf => ?_)
  have hh := Hp.init u []
  refine sy_sq ?_
  refine o_box hf hh ?_; clear hf hh a; intro B1 a w hf hh
  refine o_v hf hh (yv_assign rfl) ?_; clear hf a; intro a hf
  refine o_v hf hh (yv_assign rfl) ?_; clear hf a; intro a hf
  refine o_v hf hh (yv_assign rfl) ?_; clear hf a; intro a hf
  refine o_end ?_
  refine sy_sq ?_
  refine o_v hf hh (y_lds Tryd.ag_26 rfl) ?_; clear hf a; intro a hf
  refine o_call hf Tryd.en_52 rfl rfl rfl (c52 d sa sb ca cb _ (hA.ext hh.ext) (hB.ext hh.ext) hl hr true) ?_; clear hf a; intro v a w hR hf
  obtain ⟨s, hs, X, rfl, hop, hx⟩ := hR; have he1 := hh.ext.trans hx.ext
  have hb1 := hx.ext.get (hh.get (B1, .cells (rowsV d sa sb ca cb).cells 26) (.head _))
  have hA1 := (hA.ext hh.ext).ext hx.ext
  have hB1 := (hB.ext hh.ext).ext hx.ext
  obtain ⟨u1, rfl⟩ : ∃ z, z = w := ⟨_, rfl⟩
  replace hh := Hp.init u1 []
  
  refine o_v hf hh (yv_move rfl) ?_; clear hf a; intro a hf
  refine o_v hf hh (yv_extract rfl rfl) ?_; clear hf a; intro a hf
  refine o_v hf hh (yv_extract rfl rfl) ?_; clear hf a; intro a hf
  refine o_v hf hh (yv_assign rfl) ?_; clear hf a; intro a hf
  refine o_v hf hh (yv_assign rfl) ?_; clear hf a; intro a hf
  refine o_end ?_
  refine sy_seq ?_
  refine sy_sq ?_
  refine o_v hf hh (yv_move rfl) ?_; clear hf a; intro a hf
  refine o_v hf hh (yv_bin rfl rfl rfl) ?_; clear hf a; intro a hf
  refine o_end ?_
  refine sy_cond hf rfl (fun hg5 => ?_) (fun hg5 => ?_)
  ·have hG5 := hg5; try simp only [gS] at hG5
   refine sy_sq ?_
   refine o_v hf hh (yv_move rfl) ?_; clear hf a; intro a hf
   refine o_v hf hh (yv_assign rfl) ?_; clear hf a; intro a hf
   refine o_v hf hh (yv_assign rfl) ?_; clear hf a; intro a hf
   refine o_v hf hh (yv_assign rfl) ?_; clear hf a; intro a hf
   refine o_end ?_
   refine sy_ret ?_
   refine then_r ?_
   refine ret_r hf rfl rfl ?_
   have hne : opE d true ≠ 0 := by omega
   exact ⟨none, 0, by rw [fewL_none hne, fewH_none hne]; rfl, .inl (by rw [fewL_none hne]; rfl), he1.trans hh.ext⟩
  ·have hG5 := hg5; try simp only [gS] at hG5
   refine sy_skip ?_
   refine then_n ?_
   refine sy_seq ?_
   have h0 : opE d true = 0 := by omega
   have hV := (okRows_iff d).1 (opE_zero.1 h0).1
   obtain ⟨hO, hD⟩ := hop h0
   obtain ⟨c0, l0, hw0⟩ := wys_head h0
   have hwl := wys_long hV
   have hl0 : 0 < (wys d).length := by rw [hw0]; simp
   obtain ⟨oa, cp, rfl⟩ := OwnSl_val hO
   obtain ⟨sb0, cb0, hg0, hv0⟩ := hD.2 0 c0 (by rw [hw0]; rfl)
   obtain ⟨blk, off, c, T, fr, rfl, hbx, hcx⟩ := (valsAt_own hO fun x hq => hx.get x hq).resolve_left (by intro e; rw [e] at hg0; simp at hg0)
   have hc0 := hcx 0 _ hg0
   refine sy_ops ?_
   refine o_v hf hh (yv_move rfl) ?_; clear hf a; intro a hf
   refine o_v hf hh (y_ix Tryd.se_77 rfl rfl) ?_; clear hf a; intro a hf
   refine o_v hf hh (y_ld Tryd.sc_34 rfl) ?_; clear hf a; intro a hf
   refine o_v hf hh (yv_assign rfl) ?_; clear hf a; intro a hf
   refine o_end ?_
   refine sy_seq ?_
   refine sy_sq ?_
   refine o_v hf hh (yv_assign rfl) ?_; clear hf a; intro a hf
   refine o_end ?_
   refine sy_block ?_
   refine sy_loopF (σ := Nat × Option Addr × Nat) [7, 8, 20, 21, 22, 23, 24, 25, 26, 27, 28, 29, 30, 31, 32, 33, 34, 35, 36, 37] (fun q => [(8, .int .i64 (q.1 : Nat)), (7, .slice q.2.1 (bst c0 ((wys d).take q.1)).length q.2.2)]) (fun q => q.1 ≤ (wys d).length ∧ ValsAt u1 q.2.1 (encP (bst c0 ((wys d).take q.1)))) (fun q => (wys d).length - q.1) ((0, sb0, cb0)) hf hh ?_ ?_ ?_
   · repeat' (first | exact True.intro | refine And.intro rfl ?_)
   · exact ⟨Nat.zero_le _, hv0.vals⟩
   ·rintro q a w ⟨hi, hvq⟩ hf hh
    obtain ⟨i, sq, cq⟩ := q
    simp only at hi hvq hf ⊢
    refine sy_seq ?_
    refine sy_sq ?_
    refine o_v hf hh (yv_move rfl) ?_; clear hf a; intro a hf
    refine o_v hf hh (yv_move rfl) ?_; clear hf a; intro a hf
    refine o_v hf hh (yv_len Tryd.se_77 rfl) ?_; clear hf a; intro a hf
    refine o_v hf hh (yv_bin rfl rfl rfl) ?_; clear hf a; intro a hf
    refine o_end ?_
    refine sy_cond hf rfl (fun hg7 => ?_) (fun hg7 => ?_)
    ·have hG7 := hg7; try simp only [gS] at hG7
     refine sy_skip ?_
     refine then_n ?_
     refine sy_seq ?_
     refine sy_block ?_
     refine sy_seq ?_
     obtain ⟨ci, hci⟩ := ex_of (l := wys d) (i := i) (by omega)
     obtain ⟨sbi, cbi, hgi, hvi⟩ := hD.2 i ci hci
     have hcc : c[off + ((i : Nat) : Int).toNat * 1]? = some (.slice sbi ci.length cbi) := by rw [Int.toNat_natCast, Nat.mul_one]; exact hcx i _ hgi
     have hbs : bst c0 ((wys d).take (i + 1)) = if (bst c0 ((wys d).take i)).length < ci.length then ci else bst c0 ((wys d).take i) := by rw [List.take_add_one, hci]; exact bst_snoc _ _ _
     refine sy_ops ?_
     refine o_v hf hh (yv_move rfl) ?_; clear hf a; intro a hf
     refine o_v hf hh (yv_move rfl) ?_; clear hf a; intro a hf
     refine o_v hf hh (y_ix Tryd.se_77 rfl rfl) ?_; clear hf a; intro a hf
     refine o_v hf hh (y_ld Tryd.sc_34 rfl) ?_; clear hf a; intro a hf
     refine o_v hf hh (yv_len Tryd.se_34 rfl) ?_; clear hf a; intro a hf
     refine o_v hf hh (yv_move rfl) ?_; clear hf a; intro a hf
     refine o_v hf hh (yv_len Tryd.se_34 rfl) ?_; clear hf a; intro a hf
     refine o_v hf hh (yv_bin rfl rfl rfl) ?_; clear hf a; intro a hf
     refine o_end ?_
     refine sy_cond hf rfl (fun hg9 => ?_) (fun hg9 => ?_)
     ·have hG9 := hg9; try simp only [gS] at hG9
      refine sy_ops ?_
      refine o_v hf hh (yv_move rfl) ?_; clear hf a; intro a hf
      refine o_v hf hh (yv_move rfl) ?_; clear hf a; intro a hf
      refine o_v hf hh (y_ix Tryd.se_77 rfl rfl) ?_; clear hf a; intro a hf
      refine o_v hf hh (y_ld Tryd.sc_34 rfl) ?_; clear hf a; intro a hf
      refine o_v hf hh (yv_assign rfl) ?_; clear hf a; intro a hf
      refine ops_end ?_
      refine blk_n ?_
      refine then_n ?_
      refine sy_ops ?_
      refine o_v hf hh (yv_move rfl) ?_; clear hf a; intro a hf
      refine o_v hf hh (y_add rfl rfl) ?_; clear hf a; intro a hf
      refine o_v hf hh (yv_assign rfl) ?_; clear hf a; intro a hf
      refine ops_end ?_
      refine then_n ?_
      first
        | (rw [if_pos (by omega)] at hbs
           exact ⟨(i + 1, sbi, cbi), ⟨⟨by simp only; omega, by simp only [hbs]; exact hvi.vals⟩, hf.head ⟨rfl, (by simp only [hbs]; rfl), True.intro⟩ (Keep.cons rfl (Keep.cons rfl (Keep.cons rfl (Keep.cons rfl (Keep.cons rfl (Keep.cons rfl (Keep.cons rfl (Keep.cons rfl (Keep.cons rfl (Keep.cons rfl (Keep.cons rfl (Keep.cons rfl (Keep.cons rfl (Keep.cons rfl (Keep.cons rfl (Keep.cons rfl (Keep.cons rfl (Keep.cons rfl (Keep.cons rfl (Keep.cons rfl (Keep.app rfl (Keep.rm rfl Keep.base)))))))))))))))))))))), hh⟩, by simp only; omega⟩)
        | (rw [if_neg (by omega)] at hbs
           exact ⟨(i + 1, sq, cq), ⟨⟨by simp only; omega, by simp only [hbs]; exact hvq⟩, hf.head ⟨rfl, (by simp only [hbs]; rfl), True.intro⟩ (Keep.cons rfl (Keep.cons rfl (Keep.cons rfl (Keep.cons rfl (Keep.cons rfl (Keep.cons rfl (Keep.cons rfl (Keep.cons rfl (Keep.cons rfl (Keep.cons rfl (Keep.cons rfl (Keep.cons rfl (Keep.cons rfl (Keep.cons rfl (Keep.cons rfl (Keep.cons rfl (Keep.cons rfl (Keep.cons rfl (Keep.cons rfl (Keep.cons rfl (Keep.app rfl (Keep.rm rfl Keep.base)))))))))))))))))))))), hh⟩, by simp only; omega⟩)
     ·have hG9 := hg9; try simp only [gS] at hG9
      refine sy_skip ?_
      refine blk_n ?_
      refine then_n ?_
      refine sy_ops ?_
      refine o_v hf hh (yv_move rfl) ?_; clear hf a; intro a hf
      refine o_v hf hh (y_add rfl rfl) ?_; clear hf a; intro a hf
      refine o_v hf hh (yv_assign rfl) ?_; clear hf a; intro a hf
      refine ops_end ?_
      refine then_n ?_
      first
        | (rw [if_pos (by omega)] at hbs
           exact ⟨(i + 1, sbi, cbi), ⟨⟨by simp only; omega, by simp only [hbs]; exact hvi.vals⟩, hf.head ⟨rfl, (by simp only [hbs]; rfl), True.intro⟩ (Keep.cons rfl (Keep.cons rfl (Keep.cons rfl (Keep.cons rfl (Keep.cons rfl (Keep.cons rfl (Keep.cons rfl (Keep.cons rfl (Keep.cons rfl (Keep.cons rfl (Keep.cons rfl (Keep.cons rfl (Keep.cons rfl (Keep.cons rfl (Keep.cons rfl (Keep.app rfl (Keep.rm rfl Keep.base))))))))))))))))), hh⟩, by simp only; omega⟩)
        | (rw [if_neg (by omega)] at hbs
           exact ⟨(i + 1, sq, cq), ⟨⟨by simp only; omega, by simp only [hbs]; exact hvq⟩, hf.head ⟨rfl, (by simp only [hbs]; rfl), True.intro⟩ (Keep.cons rfl (Keep.cons rfl (Keep.cons rfl (Keep.cons rfl (Keep.cons rfl (Keep.cons rfl (Keep.cons rfl (Keep.cons rfl (Keep.cons rfl (Keep.cons rfl (Keep.cons rfl (Keep.cons rfl (Keep.cons rfl (Keep.cons rfl (Keep.cons rfl (Keep.app rfl (Keep.rm rfl Keep.base))))))))))))))))), hh⟩, by simp only; omega⟩)
    ·have hG7 := hg7; try simp only [gS] at hG7
     refine sy_exit ?_
     refine then_e ?_
     refine then_e ?_
     refine blk_e ?_
     refine then_n ?_
     refine sy_seq ?_
     have hbe : bst c0 ((wys d).take i) = fewL d := by rw [List.take_of_length_le (by omega)]; exact bst_wys h0 hw0
     have hbl := few_le d
     refine sy_ops ?_
     refine o_v hf hh (yv_move rfl) ?_; clear hf a; intro a hf
     refine o_v hf hh (y_lds Tryd.ag_26 rfl) ?_; clear hf a; intro a hf
     refine o_v hf hh (yv_move rfl) ?_; clear hf a; intro a hf
     refine o_call hf Tryd.en_53 rfl rfl rfl (c53 d sa sb ca cb (bst c0 ((wys d).take i)).length sq cq hl hr (by rw [hbe]; omega) _) ?_; clear hf a; intro v a w hR hf
     obtain ⟨rfl, hx⟩ := hR; replace hh := hh.more hx; clear hx
     refine o_v hf hh (yv_assign rfl) ?_; clear hf a; intro a hf
     refine o_v hf hh (yv_assign rfl) ?_; clear hf a; intro a hf
     refine o_v hf hh (yv_assign rfl) ?_; clear hf a; intro a hf
     refine o_end ?_
     refine sy_ret ?_
     refine ret_r hf rfl rfl ?_
     exact ⟨sq, cq, by rw [fewH_len h0, h0, ← hbe]; rfl, by rw [← hbe]; exact hvq.ext hh.ext, he1.trans hh.ext⟩
end Go.Proofs.YtemmhdgaagaglaaDoor
namespace Go.MatM
open Go Go.Sy Go.Proofs
/-- With which right mark a left one is a pair in a way; -1: with none. -/
def pN (c : List Pr) (x : Int) : Int := match c.find? (fun p => decide ((p.1 : Int) = x)) with
  | some p => (p.2 : Int)
  | none => -1
theorem pN_nil (x : Int) : pN [] x = -1 := rfl
theorem pN_cons (p : Pr) (c : List Pr) (x : Int) : pN (p :: c) x = if (p.1 : Int) = x then (p.2 : Int) else pN c x := by
  unfold pN
  rw [List.find?_cons]
  by_cases h : (p.1 : Int) = x
  · rw [decide_eq_true h, if_pos h]
  · rw [decide_eq_false h, if_neg h]
theorem pN_none {x : Nat} : ∀ {c : List Pr}, pN c x = -1 ↔ ∀ p ∈ c, p.1 ≠ x
  | [] => by simp [pN_nil]
  | p :: c => by
    rw [pN_cons]
    by_cases h : (p.1 : Int) = (x : Int)
    · rw [if_pos h]
      constructor
      · intro e; omega
      · intro e; exact absurd (by omega : p.1 = x) (e p (.head _))
    · rw [if_neg h, pN_none (c := c)]
      simp only [List.mem_cons, forall_eq_or_imp]
      constructor
      · intro e; exact ⟨by omega, e⟩
      · intro e; exact e.2
theorem pN_mem {F : Nat → Nat → Bool} {L R i0 k0 x k : Nat} {c : List Pr} (hc : Ch F L R i0 k0 c) : pN c x = (k : Int) ↔ (x, k) ∈ c := by
  constructor
  · intro h
    unfold pN at h
    cases hf : c.find? (fun p => decide ((p.1 : Int) = x)) with
    | none => rw [hf] at h; simp only at h; omega
    | some p =>
      rw [hf] at h
      have h1 := List.mem_of_find?_eq_some hf
      have h2 := List.find?_some hf
      simp only [decide_eq_true_eq] at h2
      have e : p = (x, k) := Prod.ext (by omega) (by simp only at h ⊢; omega)
      rw [← e]; exact h1
  · intro h
    unfold pN
    cases hf : c.find? (fun p => decide ((p.1 : Int) = x)) with
    | none =>
      have := List.find?_eq_none.1 hf _ h
      simp at this
    | some p =>
      have h1 := List.mem_of_find?_eq_some hf
      have h2 := List.find?_some hf
      simp only [decide_eq_true_eq] at h2
      have e := Ch_same hc h1 h (by simp only; omega)
      rw [e]
theorem pN_bd {c : List Pr} {x : Nat} : -1 ≤ pN c x := by
  unfold pN
  split <;> omega
theorem left_oW {d : RowsD} {i k : Nat} : (((wys d).countP fun c => decide (pN c i = ((k : Int) - 1)) : Nat) : Int) = oW d i k := by
  rw [wys_eq, List.countP_filter]
  match k with
  | 0 =>
    show _ = hidN d i
    unfold hidN
    rw [wH_eq]
    unfold wH
    congr 1
    refine countP_congr' fun c _ => ?_
    rw [Bool.eq_iff_iff]
    simp only [Bool.and_eq_true, decide_eq_true_eq, List.all_eq_true, Bool.not_eq_true', decide_eq_false_iff_not]
    rw [show (((0 : Nat) : Int) - 1) = -1 by omega, pN_none]
    exact ⟨fun h => ⟨h.2, h.1⟩, fun h => ⟨h.2, h.1⟩⟩
  | k + 1 =>
    show _ = pairN d i k
    rw [pairN_eq]
    unfold wP
    congr 1
    refine countP_congr' fun c hc => ?_
    rw [Bool.eq_iff_iff]
    simp only [Bool.and_eq_true, decide_eq_true_eq]
    rw [show (((k + 1 : Nat) : Int) - 1) = (k : Int) by omega, pN_mem (mem_chs.1 hc)]
    exact ⟨fun h => ⟨h.2, h.1⟩, fun h => ⟨h.2, h.1⟩⟩
/-- What ends tell of a set of numbers. -/
def EndsOf (S : Nat → Prop) (f : Nat → Int × Int) (o : Option (Int × Int)) : Prop := match o with
  | none => ∀ k, ¬ S k
  | some e => (∀ k, S k → e.1 ≤ (f k).1 ∧ (f k).2 ≤ e.2) ∧ (∃ k, S k ∧ (f k).1 = e.1) ∧ ∃ k, S k ∧ (f k).2 = e.2
theorem EndsOf.uniq {S S' : Nat → Prop} {f : Nat → Int × Int} {o o' : Option (Int × Int)} (h : EndsOf S f o) (h' : EndsOf S' f o') (e : ∀ k, S k ↔ S' k) : o = o' := by
  match o, o', h, h' with
  | none, none, _, _ => rfl
  | none, some _, h, h' => obtain ⟨_, ⟨k, hk, _⟩, _⟩ := h'; exact absurd ((e k).2 hk) (h k)
  | some _, none, h, h' => obtain ⟨_, ⟨k, hk, _⟩, _⟩ := h; exact absurd ((e k).1 hk) (h' k)
  | some a, some b, h, h' =>
    obtain ⟨h1, ⟨k1, h2, h3⟩, ⟨k2, h4, h5⟩⟩ := h
    obtain ⟨g1, ⟨m1, g2, g3⟩, ⟨m2, g4, g5⟩⟩ := h'
    have a1 := (h1 m1 ((e _).2 g2)).1
    have a2 := (h1 m2 ((e _).2 g4)).2
    have a3 := (g1 k1 ((e _).1 h2)).1
    have a4 := (g1 k2 ((e _).1 h4)).2
    exact congrArg some (Prod.ext (by omega) (by omega))
theorem EndsOf.add {S S' : Nat → Prop} {f : Nat → Int × Int} {o : Option (Int × Int)} (h : EndsOf S f o) {k : Nat} (e : ∀ j, S' j ↔ S j ∨ j = k) : EndsOf S' f (endsA o (f k)) := by
  match o, h with
  | none, h =>
    refine ⟨fun j hj => ?_, ⟨k, (e k).2 (.inr rfl), rfl⟩, ⟨k, (e k).2 (.inr rfl), rfl⟩⟩
    rcases (e j).1 hj with h1 | h1
    · exact absurd h1 (h j)
    · subst h1; exact ⟨Int.le_refl _, Int.le_refl _⟩
  | some a, h =>
    obtain ⟨h1, ⟨k1, h2, h3⟩, ⟨k2, h4, h5⟩⟩ := h
    refine ⟨fun j hj => ?_, ?_, ?_⟩
    · simp only
      rcases (e j).1 hj with h6 | h6
      · have := h1 j h6; omega
      · subst h6; omega
    · simp only
      by_cases hm : a.1 ≤ (f k).1
      · exact ⟨k1, (e _).2 (.inl h2), by omega⟩
      · exact ⟨k, (e _).2 (.inr rfl), by omega⟩
    · simp only
      by_cases hm : (f k).2 ≤ a.2
      · exact ⟨k2, (e _).2 (.inl h4), by omega⟩
      · exact ⟨k, (e _).2 (.inr rfl), by omega⟩
theorem EndsOf.same {S S' : Nat → Prop} {f : Nat → Int × Int} {o : Option (Int × Int)} (h : EndsOf S f o) (e : ∀ k, S' k ↔ S k) : EndsOf S' f o := by
  have : S' = S := funext fun k => propext (e k)
  rw [this]; exact h
theorem endsF_of {p : Nat → Bool} {f : Nat → Int × Int} : ∀ n, EndsOf (fun k => k < n ∧ p k = true) f (endsF p f n)
  | 0 => fun k h => absurd h.1 (by omega)
  | n + 1 => by
    have ih := endsF_of (p := p) (f := f) n
    rw [endsF_step]
    by_cases h : p n = true
    · rw [if_pos h]
      refine ih.add fun j => ?_
      constructor
      · intro hj
        by_cases e : j = n
        · exact .inr e
        · exact .inl ⟨by omega, hj.2⟩
      · rintro (hj | hj)
        · exact ⟨by omega, hj.2⟩
        · subst hj; exact ⟨by omega, h⟩
    · rw [if_neg h]
      refine ih.same fun j => ?_
      constructor
      · intro hj
        have : j ≠ n := fun e => h (by rw [← e]; exact hj.2)
        exact ⟨by omega, hj.2⟩
      · intro hj; exact ⟨by omega, hj.2⟩
/-- The shift of all partners in some ways. -/
def shW (d : RowsD) (x : Nat) (ws : List (List Pr)) : Option (Int × Int) := ws.foldl (fun o c => if pN c x = -1 then o else endsA o (shiftD d x (pN c x).toNat)) none
theorem shW_snoc {d : RowsD} {x : Nat} {ws : List (List Pr)} {c : List Pr} : shW d x (ws ++ [c]) = if pN c x = -1 then shW d x ws else endsA (shW d x ws) (shiftD d x (pN c x).toNat) := by
  unfold shW; rw [List.foldl_append]; rfl
theorem shW_of {d : RowsD} {x : Nat} (ws : List (List Pr)) : EndsOf (fun k => ∃ c ∈ ws, pN c x = (k : Int)) (shiftD d x) (shW d x ws) := by
  have key : ∀ n, EndsOf (fun k => ∃ c ∈ ws.take n, pN c x = (k : Int)) (shiftD d x) (shW d x (ws.take n)) := by
    intro n
    induction n with
    | zero => intro k; simp
    | succ n ih =>
      rcases Nat.lt_or_ge n ws.length with hn | hn
      · have e : ws.take (n + 1) = ws.take n ++ [ws[n]] := by rw [List.take_add_one, List.getElem?_eq_getElem hn]; rfl
        rw [e, shW_snoc]
        have hb := pN_bd (c := ws[n]) (x := x)
        split
        · rename_i h0
          refine ih.same fun k => ?_
          simp only [List.mem_append, List.mem_singleton]
          constructor
          · rintro ⟨c, hc | hc, h⟩
            · exact ⟨c, hc, h⟩
            · subst hc; omega
          · rintro ⟨c, hc, h⟩; exact ⟨c, .inl hc, h⟩
        · rename_i h0
          refine ih.add fun j => ?_
          simp only [List.mem_append, List.mem_singleton]
          constructor
          · rintro ⟨c, hc | hc, h⟩
            · exact .inl ⟨c, hc, h⟩
            · subst hc; exact .inr (by omega)
          · rintro (⟨c, hc, h⟩ | h)
            · exact ⟨c, .inl hc, h⟩
            · exact ⟨_, .inr rfl, by omega⟩
      · rw [List.take_of_length_le (by omega)] at ih ⊢
        exact ih
  have := key ws.length
  rwa [List.take_of_length_le (Nat.le_refl _)] at this
theorem shW_all {d : RowsD} {x : Nat} (hx : x < d.l.length) : shW d x (wys d) = shiftO d x := by
  refine (shW_of (wys d)).uniq (endsF_of _) fun k => ?_
  rw [canS_bit]
  simp only [Bool.and_eq_true, decide_eq_true_eq]
  constructor
  · rintro ⟨c, hc, h⟩
    obtain ⟨h1, h2⟩ := mem_wys.1 hc
    have hm := (pN_mem h1).1 h
    have hk := ((Ch_iff.1 h1).1 _ hm).2.2.2.1
    exact ⟨hk, hk, (canB_iff hx hk).2 ⟨c, h1, h2, hm⟩⟩
  · rintro ⟨hk, _, h⟩
    obtain ⟨c, h1, h2, hm⟩ := (canB_iff hx hk).1 h
    exact ⟨c, mem_wys.2 ⟨h1, h2⟩, (pN_mem h1).2 hm⟩
end Go.MatM
namespace Go.MatM
open Go Go.Sy Go.Proofs Go.RowKit
def WaysAt (w : World) (oa : Option Addr) (ws : List (List Pr)) : Prop := ∃ hs, ValsAt w oa hs ∧ HdsAt encP List.length w [] hs ws
theorem WaysAt.ext {u w : World} {oa : Option Addr} {ws : List (List Pr)} (h : WaysAt u oa ws) (e : Ext [] u w) : WaysAt w oa ws := by
  obtain ⟨hs, h1, h2⟩ := h
  exact ⟨hs, h1.ext e, h2.ext e⟩
theorem HdsAt.off {α : Type} {enc : α → List Value} {len : α → Nat} {w : World} {X : List (Nat × Obj)} {hs : List Value} {ws : List α} (h : HdsAt enc len w X hs ws) : HdsAt enc len w [] hs ws :=
  ⟨h.1, fun j c hj => by obtain ⟨sb, cb, h1, h2⟩ := h.2 j c hj; exact ⟨sb, cb, h1, ValsOff.of h2.vals⟩⟩
theorem WaysAt.mk {w : World} {n cap : Nat} {oa : Option Addr} {hs : List Value} {X : List (Nat × Obj)} {ws : List (List Pr)} (hO : OwnSl 34 1 (.slice oa n cap) n hs X) (hX : ∀ x ∈ X, w.heap[x.1]? = some x.2) (hD : HdsAt encP List.length w X hs ws) : WaysAt w oa ws :=
  ⟨hs, valsAt_own hO hX, HdsAt.off hD⟩
theorem WaysAt.get {w : World} {oa : Option Addr} {ws : List (List Pr)} (h : WaysAt w oa ws) {i : Nat} {c : List Pr} (hc : ws[i]? = some c) :
    ∃ blk off cs T fr sb cb, oa = some ⟨blk, off, none⟩ ∧ w.heap[blk]? = some (.cells cs T fr) ∧ cs[off + ((i : Nat) : Int).toNat * 1]? = some (.slice sb c.length cb) ∧ ValsAt w sb (encP c) := by
  obtain ⟨hs, h1, h2⟩ := h
  obtain ⟨sb, cb, h3, h4⟩ := h2.2 i c hc
  rcases h1 with h1 | ⟨blk, off, cs, T, fr, e1, h5, h6⟩
  · rw [h1] at h3; simp at h3
  · exact ⟨blk, off, cs, T, fr, sb, cb, e1, h5, by rw [Int.toNat_natCast, Nat.mul_one]; exact h6 i _ h3, h4.vals⟩
end Go.MatM
namespace Go.Proofs.YtemmhdgaagaglaaDoor
open Go Go.Sy Go.MatM
theorem c59 (c : List Pr) (sc : Option Addr) (cc : Nat) (x : Int) (u : World) (hC : ValsAt u sc (encP c)) (hl : c.length ≤ 1000) : Calls Tryd.prog 59 #[.slice sc c.length cc, .int .i64 x] u (Ret fun v w' => v = .int .i64 (pN c x) ∧ Ext [] u w') := by
  refine calls_of Tryd.func59 rfl rfl (fun a hf => ?_)
  have hh := Hp.init u []
  refine sy_sq ?_
  refine o_v hf hh (yv_assign rfl) ?_; clear hf a; intro a hf
  refine o_end ?_
  refine sy_seq ?_
  refine sy_sq ?_
  refine o_v hf hh (yv_assign rfl) ?_; clear hf a; intro a hf
  refine o_end ?_
  refine sy_block ?_
  refine sy_loopF (σ := Nat) [4, 5, 6, 7, 8, 9, 10, 11, 12, 13, 14, 15, 16, 17, 18, 19, 20, 21, 22, 23] (fun i => [(5, .int .i64 (i : Nat))]) (fun i => i ≤ c.length ∧ pN (c.drop i) x = pN c x) (fun i => c.length - i) (0) hf hh ?_ ?_ ?_
  · repeat' (first | exact True.intro | refine And.intro rfl ?_)
  · exact ⟨Nat.zero_le _, rfl⟩
  ·rintro i a w ⟨hi, hpn⟩ hf hh
   refine sy_seq ?_
   refine sy_sq ?_
   refine o_v hf hh (yv_move rfl) ?_; clear hf a; intro a hf
   refine o_v hf hh (yv_move rfl) ?_; clear hf a; intro a hf
   refine o_v hf hh (yv_len Tryd.se_34 rfl) ?_; clear hf a; intro a hf
   refine o_v hf hh (yv_bin rfl rfl rfl) ?_; clear hf a; intro a hf
   refine o_end ?_
   refine sy_cond hf rfl (fun hg2 => ?_) (fun hg2 => ?_)
   ·have hG2 := hg2; try simp only [gS] at hG2
    refine sy_skip ?_
    refine then_n ?_
    refine sy_seq ?_
    refine sy_block ?_
    refine sy_seq ?_
    obtain ⟨p, hp⟩ := ex_of (l := c) (i := i) (by omega)
    obtain ⟨g1, g2⟩ := encP_get c i p hp
    obtain ⟨blk, off, cs, T, fr, rfl, hbx, hcx⟩ := hC.resolve_left (by intro e; rw [e] at g1; simp at g1)
    have e1 : cs[off + ((i : Nat) : Int).toNat * 2 + (0 : Int).toNat * 1]? = some (.int .i64 p.1) := by rw [Int.toNat_natCast]; exact hcx _ _ g1
    have e2 : cs[off + ((i : Nat) : Int).toNat * 2 + (1 : Int).toNat * 1]? = some (.int .i64 p.2) := by rw [Int.toNat_natCast]; exact hcx _ _ g2
    have hdr : c.drop i = p :: c.drop (i + 1) := by rw [List.drop_eq_getElem_cons (by omega)]; congr 1; rw [List.getElem?_eq_getElem (by omega)] at hp; exact Option.some.inj hp
    rw [hdr, pN_cons] at hpn
    refine sy_ops ?_
    refine o_v hf hh (yv_move rfl) ?_; clear hf a; intro a hf
    refine o_v hf hh (yv_move rfl) ?_; clear hf a; intro a hf
    refine o_v hf hh (y_ix Tryd.se_34 rfl rfl) ?_; clear hf a; intro a hf
    refine o_v hf hh (y_ia Tryd.ae_45 rfl rfl) ?_; clear hf a; intro a hf
    refine o_v hf hh (y_ld Tryd.sc_3 rfl) ?_; clear hf a; intro a hf
    refine o_v hf hh (yv_move rfl) ?_; clear hf a; intro a hf
    refine o_v hf hh (yv_bin rfl rfl rfl) ?_; clear hf a; intro a hf
    refine o_end ?_
    refine sy_cond hf rfl (fun hg4 => ?_) (fun hg4 => ?_)
    ·have hG4 := hg4; try simp only [gS] at hG4
     refine sy_sq ?_
     refine o_v hf hh (yv_move rfl) ?_; clear hf a; intro a hf
     refine o_v hf hh (yv_move rfl) ?_; clear hf a; intro a hf
     refine o_v hf hh (y_ix Tryd.se_34 rfl rfl) ?_; clear hf a; intro a hf
     refine o_v hf hh (y_ia Tryd.ae_45 rfl rfl) ?_; clear hf a; intro a hf
     refine o_v hf hh (y_ld Tryd.sc_3 rfl) ?_; clear hf a; intro a hf
     refine o_v hf hh (yv_assign rfl) ?_; clear hf a; intro a hf
     refine o_end ?_
     refine sy_ret ?_
     refine blk_r ?_
     refine then_r ?_
     refine then_r ?_
     refine blk_r ?_
     refine then_r ?_
     refine ret_r hf rfl rfl ?_
     first
       | (rw [if_pos (by assumption)] at hpn; rw [← hpn]; exact ⟨rfl, hh.ext⟩)
       | (rw [List.drop_of_length_le (by omega), pN_nil] at hpn; rw [← hpn]; exact ⟨rfl, hh.ext⟩)
    ·have hG4 := hg4; try simp only [gS] at hG4
     refine sy_skip ?_
     refine blk_n ?_
     refine then_n ?_
     refine sy_ops ?_
     refine o_v hf hh (yv_move rfl) ?_; clear hf a; intro a hf
     refine o_v hf hh (y_add rfl rfl) ?_; clear hf a; intro a hf
     refine o_v hf hh (yv_assign rfl) ?_; clear hf a; intro a hf
     refine ops_end ?_
     refine then_n ?_
     exact ⟨i + 1, ⟨⟨by omega, by rw [← hpn, if_neg (by assumption)]⟩, (hf.head (by repeat' (first | exact True.intro | refine And.intro rfl ?_)) (Keep.cons rfl (Keep.cons rfl (Keep.cons rfl (Keep.cons rfl (Keep.cons rfl (Keep.cons rfl (Keep.cons rfl (Keep.cons rfl (Keep.cons rfl (Keep.cons rfl (Keep.cons rfl (Keep.cons rfl (Keep.cons rfl (Keep.cons rfl (Keep.app rfl (Keep.rm rfl Keep.base))))))))))))))))), hh⟩, by omega⟩
   ·have hG2 := hg2; try simp only [gS] at hG2
    refine sy_exit ?_
    refine then_e ?_
    refine then_e ?_
    refine blk_e ?_
    refine then_n ?_
    refine sy_sq ?_
    refine o_v hf hh (yv_assign rfl) ?_; clear hf a; intro a hf
    refine o_end ?_
    refine sy_ret ?_
    refine ret_r hf rfl rfl ?_
    first
      | (rw [if_pos (by assumption)] at hpn; rw [← hpn]; exact ⟨rfl, hh.ext⟩)
      | (rw [List.drop_of_length_le (by omega), pN_nil] at hpn; rw [← hpn]; exact ⟨rfl, hh.ext⟩)
theorem c63 (ws : List (List Pr)) (oa : Option Addr) (cp : Nat) (x k : Int) (u : World) (hW : WaysAt u oa ws) (hl : ws.length ≤ 1048576) (hc : ∀ c ∈ ws, c.length ≤ 1000) : Calls Tryd.prog 63 #[.slice oa ws.length cp, .int .i64 x, .int .i64 k] u (Ret fun v w' => v = .int .i64 ((ws.countP fun c => decide (pN c x = k) : Nat) : Int) ∧ Ext [] u w') := by
  refine calls_of Tryd.func63 rfl rfl (fun a hf => ?_)
  have hh := Hp.init u []
  refine sy_sq ?_
  refine o_v hf hh (yv_assign rfl) ?_; clear hf a; intro a hf
  refine o_end ?_
  refine sy_sq ?_
  refine o_v hf hh (yv_assign rfl) ?_; clear hf a; intro a hf
  refine o_end ?_
  refine sy_seq ?_
  refine sy_sq ?_
  refine o_v hf hh (yv_assign rfl) ?_; clear hf a; intro a hf
  refine o_end ?_
  refine sy_block ?_
  refine sy_loopF (σ := Nat) [7, 8, 9, 10, 11, 12, 13, 14, 15, 16, 17, 18, 19, 20, 21, 22, 23, 24] (fun i => [(8, .int .i64 (i : Nat)), (7, .int .i64 (((ws.take i).countP fun c => decide (pN c x = k) : Nat) : Int))]) (fun i => i ≤ ws.length) (fun i => ws.length - i) (0) hf hh ?_ ?_ ?_
  · repeat' (first | exact True.intro | refine And.intro rfl ?_)
  · exact Nat.zero_le _
  ·rintro i a w hi hf hh
   refine sy_seq ?_
   refine sy_sq ?_
   refine o_v hf hh (yv_move rfl) ?_; clear hf a; intro a hf
   refine o_v hf hh (yv_move rfl) ?_; clear hf a; intro a hf
   refine o_v hf hh (yv_len Tryd.se_77 rfl) ?_; clear hf a; intro a hf
   refine o_v hf hh (yv_bin rfl rfl rfl) ?_; clear hf a; intro a hf
   refine o_end ?_
   refine sy_cond hf rfl (fun hg2 => ?_) (fun hg2 => ?_)
   ·have hG2 := hg2; try simp only [gS] at hG2
    refine sy_skip ?_
    refine then_n ?_
    refine sy_seq ?_
    refine sy_block ?_
    refine sy_seq ?_
    obtain ⟨ci, hci⟩ := ex_of (l := ws) (i := i) (by omega)
    obtain ⟨blk, off, cs, T, fr, sb1, cb1, rfl, hbx, hcc, hvi⟩ := WaysAt.get hW hci
    have hcl := hc ci (List.mem_of_getElem? hci)
    have htk : (ws.take (i + 1)).countP (fun c => decide (pN c x = k)) = (ws.take i).countP (fun c => decide (pN c x = k)) + if pN ci x = k then 1 else 0 := by
      rw [List.take_add_one, hci, List.countP_append]; simp [List.countP_cons]
    have hcb : (ws.take i).countP (fun c => decide (pN c x = k)) ≤ i := Nat.le_trans List.countP_le_length (by rw [List.length_take]; omega)
    refine sy_ops ?_
    refine o_v hf hh (yv_move rfl) ?_; clear hf a; intro a hf
    refine o_v hf hh (yv_move rfl) ?_; clear hf a; intro a hf
    refine o_v hf hh (y_ix Tryd.se_77 rfl rfl) ?_; clear hf a; intro a hf
    refine o_v hf hh (y_ld Tryd.sc_34 rfl) ?_; clear hf a; intro a hf
    refine o_v hf hh (yv_move rfl) ?_; clear hf a; intro a hf
    refine o_call hf Tryd.en_59 rfl rfl rfl (c59 ci sb1 cb1 x _ (hvi.ext hh.ext) hcl) ?_; clear hf a; intro v a w hR hf
    obtain ⟨rfl, hx⟩ := hR; replace hh := hh.more hx; clear hx
    refine o_v hf hh (yv_move rfl) ?_; clear hf a; intro a hf
    refine o_v hf hh (yv_bin rfl rfl rfl) ?_; clear hf a; intro a hf
    refine o_end ?_
    refine sy_cond hf rfl (fun hg5 => ?_) (fun hg5 => ?_)
    ·have hG5 := hg5; try simp only [gS] at hG5
     refine sy_ops ?_
     refine o_v hf hh (yv_move rfl) ?_; clear hf a; intro a hf
     refine o_v hf hh (y_add rfl rfl) ?_; clear hf a; intro a hf
     refine o_v hf hh (yv_assign rfl) ?_; clear hf a; intro a hf
     refine ops_end ?_
     refine blk_n ?_
     refine then_n ?_
     refine sy_ops ?_
     refine o_v hf hh (yv_move rfl) ?_; clear hf a; intro a hf
     refine o_v hf hh (y_add rfl rfl) ?_; clear hf a; intro a hf
     refine o_v hf hh (yv_assign rfl) ?_; clear hf a; intro a hf
     refine ops_end ?_
     refine then_n ?_
     first
       | (rw [if_pos (by assumption)] at htk
          exact ⟨i + 1, ⟨by omega, hf.head ⟨rfl, (by rw [htk]; rfl), True.intro⟩ (Keep.cons rfl (Keep.cons rfl (Keep.cons rfl (Keep.cons rfl (Keep.cons rfl (Keep.cons rfl (Keep.cons rfl (Keep.cons rfl (Keep.cons rfl (Keep.cons rfl (Keep.cons rfl (Keep.cons rfl (Keep.cons rfl (Keep.cons rfl (Keep.cons rfl (Keep.cons rfl (Keep.cons rfl (Keep.cons rfl (Keep.app rfl (Keep.rm rfl Keep.base)))))))))))))))))))), hh⟩, by omega⟩)
       | (rw [if_neg (by assumption), Nat.add_zero] at htk
          exact ⟨i + 1, ⟨by omega, hf.head ⟨rfl, (by rw [htk]; rfl), True.intro⟩ (Keep.cons rfl (Keep.cons rfl (Keep.cons rfl (Keep.cons rfl (Keep.cons rfl (Keep.cons rfl (Keep.cons rfl (Keep.cons rfl (Keep.cons rfl (Keep.cons rfl (Keep.cons rfl (Keep.cons rfl (Keep.cons rfl (Keep.cons rfl (Keep.cons rfl (Keep.cons rfl (Keep.cons rfl (Keep.cons rfl (Keep.app rfl (Keep.rm rfl Keep.base)))))))))))))))))))), hh⟩, by omega⟩)
    ·have hG5 := hg5; try simp only [gS] at hG5
     refine sy_skip ?_
     refine blk_n ?_
     refine then_n ?_
     refine sy_ops ?_
     refine o_v hf hh (yv_move rfl) ?_; clear hf a; intro a hf
     refine o_v hf hh (y_add rfl rfl) ?_; clear hf a; intro a hf
     refine o_v hf hh (yv_assign rfl) ?_; clear hf a; intro a hf
     refine ops_end ?_
     refine then_n ?_
     first
       | (rw [if_pos (by assumption)] at htk
          exact ⟨i + 1, ⟨by omega, hf.head ⟨rfl, (by rw [htk]; rfl), True.intro⟩ (Keep.cons rfl (Keep.cons rfl (Keep.cons rfl (Keep.cons rfl (Keep.cons rfl (Keep.cons rfl (Keep.cons rfl (Keep.cons rfl (Keep.cons rfl (Keep.cons rfl (Keep.cons rfl (Keep.cons rfl (Keep.cons rfl (Keep.cons rfl (Keep.cons rfl (Keep.app rfl (Keep.rm rfl Keep.base))))))))))))))))), hh⟩, by omega⟩)
       | (rw [if_neg (by assumption), Nat.add_zero] at htk
          exact ⟨i + 1, ⟨by omega, hf.head ⟨rfl, (by rw [htk]; rfl), True.intro⟩ (Keep.cons rfl (Keep.cons rfl (Keep.cons rfl (Keep.cons rfl (Keep.cons rfl (Keep.cons rfl (Keep.cons rfl (Keep.cons rfl (Keep.cons rfl (Keep.cons rfl (Keep.cons rfl (Keep.cons rfl (Keep.cons rfl (Keep.cons rfl (Keep.cons rfl (Keep.app rfl (Keep.rm rfl Keep.base))))))))))))))))), hh⟩, by omega⟩)
   ·have hG2 := hg2; try simp only [gS] at hG2
    refine sy_exit ?_
    refine then_e ?_
    refine then_e ?_
    refine blk_e ?_
    refine then_n ?_
    refine sy_sq ?_
    refine o_v hf hh (yv_move rfl) ?_; clear hf a; intro a hf
    refine o_v hf hh (yv_assign rfl) ?_; clear hf a; intro a hf
    refine o_end ?_
    refine sy_ret ?_
    refine ret_r hf rfl rfl ?_
    rw [List.take_of_length_le (by omega)]
    exact ⟨rfl, hh.ext⟩
set_option maxHeartbeats 4000000 in
theorem c25 (d : RowsD) (sa sb : Option Addr) (ca cb : Nat) (u : World) (hA : MkAt u sa d.l) (hB : MkAt u sb d.r) (hl : d.l.length ≤ 1000) (hr : d.r.length ≤ 1000) : Calls Tryd.prog 25 #[rowsV d sa sb ca cb] u (Ret fun v w' => v = .tuple #[.int .i64 (askV d).1, .int .i64 (askV d).2, .int .i64 (askE d)] ∧ Ext [] u w') := by
  refine calls_of Tryd.func25 rfl rfl (fun a hf => ?_)
  have hh := Hp.init u []
  refine sy_sq ?_
  refine o_box hf hh ?_; clear hf hh a; intro B1 a w hf hh
  refine o_v hf hh (yv_assign rfl) ?_; clear hf a; intro a hf
  refine o_v hf hh (yv_assign rfl) ?_; clear hf a; intro a hf
  refine o_v hf hh (yv_assign rfl) ?_; clear hf a; intro a hf
  refine o_end ?_
  refine sy_sq ?_
  refine o_v hf hh (y_lds Tryd.ag_26 rfl) ?_; clear hf a; intro a hf
  refine o_call hf Tryd.en_52 rfl rfl rfl (c52 d sa sb ca cb _ (hA.ext hh.ext) (hB.ext hh.ext) hl hr true) ?_; clear hf a; intro v a w hR hf
  obtain ⟨s, hs, X, rfl, hop, hx⟩ := hR; have he1 := hh.ext.trans hx.ext
  have hb1 := hx.ext.get (hh.get (B1, .cells (rowsV d sa sb ca cb).cells 26) (by simp))
  have hA1 := (hA.ext hh.ext).ext hx.ext
  have hB1 := (hB.ext hh.ext).ext hx.ext
  obtain ⟨u1, rfl⟩ : ∃ z, z = w := ⟨_, rfl⟩
  replace hh := Hp.init u1 []
  
  refine o_v hf hh (yv_move rfl) ?_; clear hf a; intro a hf
  refine o_v hf hh (yv_extract rfl rfl) ?_; clear hf a; intro a hf
  refine o_v hf hh (yv_extract rfl rfl) ?_; clear hf a; intro a hf
  refine o_v hf hh (yv_assign rfl) ?_; clear hf a; intro a hf
  refine o_v hf hh (yv_assign rfl) ?_; clear hf a; intro a hf
  refine o_end ?_
  refine sy_seq ?_
  refine sy_sq ?_
  refine o_v hf hh (yv_move rfl) ?_; clear hf a; intro a hf
  refine o_v hf hh (yv_bin rfl rfl rfl) ?_; clear hf a; intro a hf
  refine o_end ?_
  refine sy_cond hf rfl (fun hg5 => ?_) (fun hg5 => ?_)
  ·have hG5 := hg5; try simp only [gS] at hG5
   refine sy_sq ?_
   refine o_v hf hh (yv_move rfl) ?_; clear hf a; intro a hf
   refine o_v hf hh (yv_assign rfl) ?_; clear hf a; intro a hf
   refine o_v hf hh (yv_assign rfl) ?_; clear hf a; intro a hf
   refine o_v hf hh (yv_assign rfl) ?_; clear hf a; intro a hf
   refine o_end ?_
   refine sy_ret ?_
   refine then_r ?_
   refine ret_r hf rfl rfl ?_
   have hne : opE d true ≠ 0 := by omega
   have e : askE d = opE d true := by unfold askE; rw [if_neg hne]
   exact ⟨by unfold askV; rw [e, if_neg hne]; rfl, he1.trans hh.ext⟩
  ·have hG5 := hg5; try simp only [gS] at hG5
   refine sy_skip ?_
   refine then_n ?_
   refine sy_seq ?_
   refine sy_seq ?_
   have h0 : opE d true = 0 := by omega
   have hV := (okRows_iff d).1 (opE_zero.1 h0).1
   obtain ⟨hO, hD⟩ := hop h0
   have hwl := wys_long hV
   have hwc : ∀ c ∈ wys d, c.length ≤ 1000 := fun c hc => by have := wys_len hV hc; omega
   have hnl := hV.nl; have hnr := hV.nr
   obtain ⟨oa, cp, rfl⟩ := OwnSl_val hO
   have hW := WaysAt.mk hO (fun x hq => hx.get x hq) hD
   refine sy_ops ?_
   refine o_v hf hh (yv_move rfl) ?_; clear hf a; intro a hf
   refine o_v hf hh (yv_len Tryd.se_77 rfl) ?_; clear hf a; intro a hf
   refine o_v hf hh (yv_bin rfl rfl rfl) ?_; clear hf a; intro a hf
   refine o_end ?_
   refine sy_cond hf rfl (fun hg7 => ?_) (fun hg7 => ?_)
   ·have hG7 := hg7; try simp only [gS] at hG7
    refine sy_sq ?_
    refine o_v hf hh (yv_assign rfl) ?_; clear hf a; intro a hf
    refine o_v hf hh (yv_assign rfl) ?_; clear hf a; intro a hf
    refine o_v hf hh (yv_assign rfl) ?_; clear hf a; intro a hf
    refine o_end ?_
    refine sy_ret ?_
    refine then_r ?_
    refine ret_r hf rfl rfl ?_
    have e : askE d = 4 := by unfold askE; rw [if_pos h0, if_pos (by rw [← wys_cnt]; omega)]
    exact ⟨by unfold askV; rw [e]; rfl, he1.trans hh.ext⟩
   ·have hG7 := hg7; try simp only [gS] at hG7
    refine sy_skip ?_
    refine then_n ?_
    refine sy_sq ?_
    refine o_v hf hh (yv_move rfl) ?_; clear hf a; intro a hf
    refine o_v hf hh (yv_len Tryd.se_77 rfl) ?_; clear hf a; intro a hf
    refine ops_v hf hh (yv_cast (yv_add rfl rfl (by omega) (by omega)) (intv (b := (askN d 0).2) (by rw [wys_cnt]; rfl))) (.inl rfl) rfl rfl rfl ?_; clear hf a; intro a hf
    refine o_v hf hh (yv_assign rfl) ?_; clear hf a; intro a hf
    refine o_v hf hh (yv_assign rfl) ?_; clear hf a; intro a hf
    refine o_end ?_
    refine sy_seq ?_
    refine sy_sq ?_
    refine o_v hf hh (yv_assign rfl) ?_; clear hf a; intro a hf
    refine o_end ?_
    refine sy_block ?_
    refine sy_loopF (σ := Nat) [7, 8, 9, 10, 11, 26, 27, 28, 29, 30, 31, 32, 33, 34, 35, 36, 37, 38, 39, 40, 41, 42, 43, 44, 45, 46, 47, 48, 49, 50] (fun i => [(9, .int .i64 (i : Nat)), (7, .int .i64 (askN d i).1), (8, .int .i64 (askN d i).2)]) (fun i => i ≤ d.l.length) (fun i => d.l.length - i) (0) hf hh ?_ ?_ ?_
    · repeat' (first | exact True.intro | refine And.intro rfl ?_)
    · exact Nat.zero_le _
    ·rintro i a w hi hf hh
     refine sy_seq ?_
     refine sy_sq ?_
     refine o_v hf hh (yv_move rfl) ?_; clear hf a; intro a hf
     refine o_v hf hh (yv_fieldAddr Tryd.fo_26_0 rfl) ?_; clear hf a; intro a hf
     refine o_v hf hh (y_ld Tryd.sc_22 rfl) ?_; clear hf a; intro a hf
     refine o_v hf hh (yv_len Tryd.se_22 rfl) ?_; clear hf a; intro a hf
     refine o_v hf hh (yv_bin rfl rfl rfl) ?_; clear hf a; intro a hf
     refine o_end ?_
     refine sy_cond hf rfl (fun hg10 => ?_) (fun hg10 => ?_)
     ·have hG10 := hg10; try simp only [gS] at hG10
      refine sy_skip ?_
      refine then_n ?_
      refine sy_seq ?_
      refine sy_block ?_
      refine sy_sq ?_
      refine o_v hf hh (yv_assign rfl) ?_; clear hf a; intro a hf
      refine o_end ?_
      refine sy_seq ?_
      refine sy_sq ?_
      refine o_v hf hh (yv_assign rfl) ?_; clear hf a; intro a hf
      refine o_end ?_
      refine sy_block ?_
      refine sy_loopF (σ := Nat) [10, 11, 33, 34, 35, 36, 37, 38, 39, 40, 41, 42, 43, 44, 45] (fun k => [(11, .int .i64 ((k : Int) - 1)), (10, .int .i64 (nW d i k))]) (fun k => k ≤ d.r.length + 1) (fun k => d.r.length + 1 - k) (0) hf hh ?_ ?_ ?_
      · repeat' (first | exact True.intro | refine And.intro rfl ?_)
      · exact Nat.zero_le _
      ·rintro k a w hk hf hh
       refine sy_seq ?_
       refine sy_sq ?_
       refine o_v hf hh (yv_move rfl) ?_; clear hf a; intro a hf
       refine o_v hf hh (yv_fieldAddr Tryd.fo_26_1 rfl) ?_; clear hf a; intro a hf
       refine o_v hf hh (y_ld Tryd.sc_22 rfl) ?_; clear hf a; intro a hf
       refine o_v hf hh (yv_len Tryd.se_22 rfl) ?_; clear hf a; intro a hf
       refine o_v hf hh (yv_bin rfl rfl rfl) ?_; clear hf a; intro a hf
       refine o_end ?_
       refine sy_cond hf rfl (fun hg12 => ?_) (fun hg12 => ?_)
       ·have hG12 := hg12; try simp only [gS] at hG12
        refine sy_skip ?_
        refine then_n ?_
        refine sy_seq ?_
        refine sy_block ?_
        have hnb := nW_bd hV i k
        refine sy_ops ?_
        refine o_v hf hh (yv_move rfl) ?_; clear hf a; intro a hf
        refine o_v hf hh (yv_move rfl) ?_; clear hf a; intro a hf
        refine o_v hf hh (yv_move rfl) ?_; clear hf a; intro a hf
        refine o_v hf hh (yv_move rfl) ?_; clear hf a; intro a hf
        refine o_call hf Tryd.en_63 rfl rfl rfl (c63 (wys d) oa cp i ((k : Int) - 1) _ (hW.ext hh.ext) hwl hwc) ?_; clear hf a; intro v a w hR hf
        obtain ⟨rfl, hx⟩ := hR; replace hh := hh.more hx; clear hx
        refine ops_v hf hh (yv_cast (yv_max rfl rfl) (intv (b := nW d i (k + 1)) (by rw [nW_step hV, left_oW]))) (.inl rfl) rfl rfl rfl ?_; clear hf a; intro a hf
        refine o_v hf hh (yv_assign rfl) ?_; clear hf a; intro a hf
        refine ops_end ?_
        refine blk_n ?_
        refine then_n ?_
        refine sy_ops ?_
        refine o_v hf hh (yv_move rfl) ?_; clear hf a; intro a hf
        refine ops_v hf hh (yv_cast (yv_add rfl rfl (by omega) (by omega)) (intv (b := (((k + 1 : Nat) : Int) - 1)) (by omega))) (.inl rfl) rfl rfl rfl ?_; clear hf a; intro a hf
        refine o_v hf hh (yv_assign rfl) ?_; clear hf a; intro a hf
        refine ops_end ?_
        refine then_n ?_
        exact ⟨k + 1, ⟨by omega, (hf.head (by repeat' (first | exact True.intro | refine And.intro rfl ?_)) (Keep.cons rfl (Keep.cons rfl (Keep.cons rfl (Keep.cons rfl (Keep.cons rfl (Keep.cons rfl (Keep.cons rfl (Keep.cons rfl (Keep.cons rfl (Keep.cons rfl (Keep.cons rfl (Keep.cons rfl (Keep.cons rfl (Keep.cons rfl (Keep.cons rfl (Keep.app rfl (Keep.rm rfl Keep.base)))))))))))))))))), hh⟩, by omega⟩
       ·have hG12 := hg12; try simp only [gS] at hG12
        refine sy_exit ?_
        refine then_e ?_
        refine then_e ?_
        refine blk_e ?_
        refine then_n ?_
        refine sy_seq ?_
        have hkw : nW d i k = worstN d i d.r.length := by rw [show k = d.r.length + 1 by omega]; rfl
        refine sy_ops ?_
        refine o_v hf hh (yv_move rfl) ?_; clear hf a; intro a hf
        refine o_v hf hh (yv_move rfl) ?_; clear hf a; intro a hf
        refine o_v hf hh (yv_bin rfl rfl rfl) ?_; clear hf a; intro a hf
        refine o_end ?_
        refine sy_cond hf rfl (fun hg17 => ?_) (fun hg17 => ?_)
        ·have hG17 := hg17; try simp only [gS] at hG17
         refine sy_ops ?_
         refine o_v hf hh (yv_move rfl) ?_; clear hf a; intro a hf
         refine o_v hf hh (yv_move rfl) ?_; clear hf a; intro a hf
         refine o_v hf hh (yv_assign rfl) ?_; clear hf a; intro a hf
         refine o_v hf hh (yv_assign rfl) ?_; clear hf a; intro a hf
         refine ops_end ?_
         refine blk_n ?_
         refine then_n ?_
         refine sy_ops ?_
         refine o_v hf hh (yv_move rfl) ?_; clear hf a; intro a hf
         refine o_v hf hh (y_add rfl rfl) ?_; clear hf a; intro a hf
         refine o_v hf hh (yv_assign rfl) ?_; clear hf a; intro a hf
         refine ops_end ?_
         refine then_n ?_
         have hst : askN d (i + 1) = if worstN d i d.r.length < (askN d i).2 then ((i : Int), worstN d i d.r.length) else askN d i := rfl
         rw [← hkw] at hst
         first
           | (rw [if_pos (by assumption)] at hst
              exact ⟨i + 1, ⟨by omega, hf.head ⟨rfl, (by rw [hst]; rfl), (by rw [hst]; rfl), True.intro⟩ (Keep.cons rfl (Keep.cons rfl (Keep.cons rfl (Keep.cons rfl (Keep.cons rfl (Keep.cons rfl (Keep.cons rfl (Keep.cons rfl (Keep.cons rfl (Keep.cons rfl (Keep.cons rfl (Keep.cons rfl (Keep.cons rfl (Keep.cons rfl (Keep.cons rfl (Keep.app rfl (Keep.rm rfl (Keep.cons rfl (Keep.cons rfl (Keep.cons rfl (Keep.cons rfl (Keep.cons rfl (Keep.cons rfl (Keep.cons rfl (Keep.app rfl (Keep.rm rfl Keep.base)))))))))))))))))))))))))), hh⟩, by omega⟩)
           | (rw [if_neg (by omega)] at hst
              exact ⟨i + 1, ⟨by omega, hf.head ⟨rfl, (by rw [hst]; rfl), (by rw [hst]; rfl), True.intro⟩ (Keep.cons rfl (Keep.cons rfl (Keep.cons rfl (Keep.cons rfl (Keep.cons rfl (Keep.cons rfl (Keep.cons rfl (Keep.cons rfl (Keep.cons rfl (Keep.cons rfl (Keep.cons rfl (Keep.cons rfl (Keep.cons rfl (Keep.cons rfl (Keep.cons rfl (Keep.app rfl (Keep.rm rfl (Keep.cons rfl (Keep.cons rfl (Keep.cons rfl (Keep.cons rfl (Keep.cons rfl (Keep.cons rfl (Keep.cons rfl (Keep.app rfl (Keep.rm rfl Keep.base)))))))))))))))))))))))))), hh⟩, by omega⟩)
        ·have hG17 := hg17; try simp only [gS] at hG17
         refine sy_skip ?_
         refine blk_n ?_
         refine then_n ?_
         refine sy_ops ?_
         refine o_v hf hh (yv_move rfl) ?_; clear hf a; intro a hf
         refine o_v hf hh (y_add rfl rfl) ?_; clear hf a; intro a hf
         refine o_v hf hh (yv_assign rfl) ?_; clear hf a; intro a hf
         refine ops_end ?_
         refine then_n ?_
         have hst : askN d (i + 1) = if worstN d i d.r.length < (askN d i).2 then ((i : Int), worstN d i d.r.length) else askN d i := rfl
         rw [← hkw] at hst
         first
           | (rw [if_pos (by assumption)] at hst
              exact ⟨i + 1, ⟨by omega, hf.head ⟨rfl, (by rw [hst]; rfl), (by rw [hst]; rfl), True.intro⟩ (Keep.cons rfl (Keep.cons rfl (Keep.cons rfl (Keep.cons rfl (Keep.cons rfl (Keep.cons rfl (Keep.cons rfl (Keep.cons rfl (Keep.cons rfl (Keep.cons rfl (Keep.cons rfl (Keep.app rfl (Keep.rm rfl (Keep.cons rfl (Keep.cons rfl (Keep.cons rfl (Keep.cons rfl (Keep.cons rfl (Keep.cons rfl (Keep.cons rfl (Keep.app rfl (Keep.rm rfl Keep.base)))))))))))))))))))))), hh⟩, by omega⟩)
           | (rw [if_neg (by omega)] at hst
              exact ⟨i + 1, ⟨by omega, hf.head ⟨rfl, (by rw [hst]; rfl), (by rw [hst]; rfl), True.intro⟩ (Keep.cons rfl (Keep.cons rfl (Keep.cons rfl (Keep.cons rfl (Keep.cons rfl (Keep.cons rfl (Keep.cons rfl (Keep.cons rfl (Keep.cons rfl (Keep.cons rfl (Keep.cons rfl (Keep.app rfl (Keep.rm rfl (Keep.cons rfl (Keep.cons rfl (Keep.cons rfl (Keep.cons rfl (Keep.cons rfl (Keep.cons rfl (Keep.cons rfl (Keep.app rfl (Keep.rm rfl Keep.base)))))))))))))))))))))), hh⟩, by omega⟩)
     ·have hG10 := hg10; try simp only [gS] at hG10
      refine sy_exit ?_
      refine then_e ?_
      refine then_e ?_
      refine blk_e ?_
      refine then_n ?_
      refine sy_sq ?_
      refine o_v hf hh (yv_move rfl) ?_; clear hf a; intro a hf
      refine o_v hf hh (yv_move rfl) ?_; clear hf a; intro a hf
      refine o_v hf hh (yv_assign rfl) ?_; clear hf a; intro a hf
      refine o_v hf hh (yv_assign rfl) ?_; clear hf a; intro a hf
      refine o_v hf hh (yv_assign rfl) ?_; clear hf a; intro a hf
      refine o_end ?_
      refine sy_ret ?_
      refine ret_r hf rfl rfl ?_
      have e : askE d = 0 := by unfold askE; rw [if_pos h0, if_neg (by rw [← wys_cnt]; omega)]
      exact ⟨by unfold askV; rw [e, if_pos rfl, show i = d.l.length by omega]; rfl, he1.trans hh.ext⟩
end Go.Proofs.YtemmhdgaagaglaaDoor
namespace Go.MatM
open Go Go.Sy Go.Proofs
theorem has_bit (s n : Nat) : decide (((s / 2 ^ n % 2 : Nat) : Int) = 1) = s.testBit n := by
  rw [Nat.testBit_eq_decide_div_mod_eq, decide_eq_decide]; omega
theorem or_pow {s n : Nat} (h : s.testBit n = false) : s ||| 2 ^ n = s + 2 ^ n := by
  have hs : s = 2 ^ (n + 1) * (s / 2 ^ (n + 1)) + s % 2 ^ (n + 1) := (Nat.div_add_mod ..).symm
  have hr : s % 2 ^ (n + 1) < 2 ^ n := by
    have h1 : s % 2 ^ (n + 1) < 2 ^ (n + 1) := Nat.mod_lt _ (Nat.two_pow_pos _)
    have h2 : (s % 2 ^ (n + 1)).testBit n = false := by rw [Nat.testBit_mod_two_pow, h]; simp
    rw [Nat.testBit_eq_decide_div_mod_eq] at h2
    have h3 : s % 2 ^ (n + 1) / 2 ^ n < 2 := by rw [Nat.div_lt_iff_lt_mul (Nat.two_pow_pos _)]; rw [Nat.pow_succ] at h1; omega
    have h4 : s % 2 ^ (n + 1) / 2 ^ n = 0 := by
      simp only [decide_eq_false_iff_not] at h2
      generalize s % 2 ^ (n + 1) / 2 ^ n = y at h2 h3 ⊢
      omega
    exact (Nat.div_eq_zero_iff_lt (Nat.two_pow_pos _)).1 h4
  have e : s + 2 ^ n = 2 ^ (n + 1) * (s / 2 ^ (n + 1)) + (2 ^ n + s % 2 ^ (n + 1)) := by omega
  apply Nat.eq_of_testBit_eq
  intro j
  have hlt : 2 ^ n + s % 2 ^ (n + 1) < 2 ^ (n + 1) := by rw [Nat.pow_succ]; rw [Nat.pow_succ] at hr; omega
  rw [e, Nat.testBit_two_pow_mul_add _ hlt, Nat.testBit_or, Nat.testBit_two_pow]
  by_cases hj : j < n + 1
  · rw [if_pos hj, show 2 ^ n + s % 2 ^ (n + 1) = 2 ^ n ||| s % 2 ^ (n + 1) from by have := Nat.two_pow_add_eq_or_of_lt hr 1; rwa [Nat.mul_one] at this, Nat.testBit_or, Nat.testBit_two_pow, Nat.testBit_mod_two_pow]
    simp only [decide_eq_true hj, Bool.true_and]
    exact Bool.or_comm _ _
  · rw [if_neg hj]
    have : decide (n = j) = false := decide_eq_false (by omega)
    rw [this, Bool.or_false]
    conv => lhs; rw [hs, Nat.testBit_two_pow_mul_add _ (by omega), if_neg hj]
theorem or_same {s n : Nat} (h : s.testBit n = true) : s ||| 2 ^ n = s := by
  apply Nat.eq_of_testBit_eq
  intro j
  rw [Nat.testBit_or, Nat.testBit_two_pow]
  by_cases e : n = j
  · subst e; simp [h]
  · simp [e]
/-- The partners of a left mark in a way, as a set. -/
def orC (x : Nat) (s : Nat) (c : List Pr) : Nat := c.foldl (fun s p => if p.1 = x then s ||| 2 ^ p.2 else s) s
def orW (x : Nat) (ws : List (List Pr)) : Nat := ws.foldl (orC x) 0
theorem orC_snoc (x s : Nat) (c : List Pr) (p : Pr) : orC x s (c ++ [p]) = if p.1 = x then orC x s c ||| 2 ^ p.2 else orC x s c := by unfold orC; rw [List.foldl_append]; rfl
theorem orW_snoc (x : Nat) (ws : List (List Pr)) (c : List Pr) : orW x (ws ++ [c]) = orC x (orW x ws) c := by unfold orW; rw [List.foldl_append]; rfl
theorem orC_bit (x k : Nat) : ∀ (c : List Pr) (s : Nat), (orC x s c).testBit k = (s.testBit k || decide ((x, k) ∈ c))
  | [], s => by simp [orC]
  | p :: c, s => by
    have ih := orC_bit x k c (if p.1 = x then s ||| 2 ^ p.2 else s)
    have e : orC x s (p :: c) = orC x (if p.1 = x then s ||| 2 ^ p.2 else s) c := rfl
    rw [e, ih]
    have hd : decide ((x, k) ∈ p :: c) = (decide ((x, k) = p) || decide ((x, k) ∈ c)) := by rw [Bool.eq_iff_iff]; simp [List.mem_cons]
    rw [hd, ← Bool.or_assoc]
    congr 1
    obtain ⟨a, b⟩ := p
    by_cases h : a = x
    · rw [if_pos h, Nat.testBit_or, Nat.testBit_two_pow]
      congr 1
      rw [decide_eq_decide]
      simp only [Prod.mk.injEq]
      omega
    · rw [if_neg h]
      have : decide ((x, k) = (a, b)) = false := decide_eq_false (fun e => h (congrArg Prod.fst e).symm)
      rw [this, Bool.or_false]
theorem orW_bit (x k : Nat) (ws : List (List Pr)) : ∀ s, (ws.foldl (orC x) s).testBit k = (s.testBit k || decide (∃ c ∈ ws, (x, k) ∈ c)) := by
  induction ws with
  | nil => intro s; simp
  | cons c ws ih =>
    intro s
    rw [List.foldl_cons, ih, orC_bit, Bool.or_assoc]
    congr 1
    rw [Bool.eq_iff_iff]
    simp [List.mem_cons]
theorem orW_all {d : RowsD} {x : Nat} (hx : x < d.l.length) : orW x (wys d) = canS d x := by
  apply Nat.eq_of_testBit_eq
  intro k
  unfold orW
  rw [orW_bit, canS_bit, Nat.zero_testBit, Bool.false_or, Bool.eq_iff_iff]
  simp only [decide_eq_true_eq, Bool.and_eq_true]
  constructor
  · rintro ⟨c, hc, hm⟩
    obtain ⟨h1, h2⟩ := mem_wys.1 hc
    have hk : k < d.r.length := ((Ch_iff.1 h1).1 _ hm).2.2.2.1
    exact ⟨hk, (canB_iff hx hk).2 ⟨c, h1, h2, hm⟩⟩
  · rintro ⟨hk, h⟩
    obtain ⟨c, h1, h2, hm⟩ := (canB_iff hx hk).1 h
    exact ⟨c, mem_wys.2 ⟨h1, h2⟩, hm⟩
theorem orC_lt {x n : Nat} : ∀ {c : List Pr} {s : Nat}, s < 2 ^ n → (∀ p ∈ c, p.2 < n) → orC x s c < 2 ^ n
  | [], _, h, _ => h
  | p :: c, s, h, hc => by
    have e : orC x s (p :: c) = orC x (if p.1 = x then s ||| 2 ^ p.2 else s) c := rfl
    rw [e]
    refine orC_lt ?_ fun q hq => hc q (.tail _ hq)
    split
    · exact Nat.or_lt_two_pow h (Nat.pow_lt_pow_right (by decide) (hc p (.head _)))
    · exact h
/-- The right marks of a way, as a set. -/
def seenC (s : Nat) (c : List Pr) : Nat := c.foldl (fun s p => s ||| 2 ^ p.2) s
theorem seenC_snoc (s : Nat) (c : List Pr) (p : Pr) : seenC s (c ++ [p]) = seenC s c ||| 2 ^ p.2 := by unfold seenC; rw [List.foldl_append]; rfl
theorem seenC_bit (k : Nat) : ∀ (c : List Pr) (s : Nat), (seenC s c).testBit k = (s.testBit k || decide (∃ p ∈ c, p.2 = k))
  | [], s => by simp [seenC]
  | p :: c, s => by
    have ih := seenC_bit k c (s ||| 2 ^ p.2)
    have e : seenC s (p :: c) = seenC (s ||| 2 ^ p.2) c := rfl
    rw [e, ih, Nat.testBit_or, Nat.testBit_two_pow, Bool.or_assoc]
    congr 1
    rw [Bool.eq_iff_iff]
    simp [List.mem_cons]
theorem seenC_lt {n : Nat} : ∀ {c : List Pr} {s : Nat}, s < 2 ^ n → (∀ p ∈ c, p.2 < n) → seenC s c < 2 ^ n
  | [], _, h, _ => h
  | p :: c, s, h, hc => seenC_lt (c := c) (s := s ||| 2 ^ p.2) (Nat.or_lt_two_pow h (Nat.pow_lt_pow_right (by decide) (hc p (.head _)))) fun q hq => hc q (.tail _ hq)
/-- What is added to a set, number by number. -/
def addF (q : Nat → Bool) (s : Nat) : Nat → Nat
  | 0 => s
  | n + 1 => if q n then addF q s n ||| 2 ^ n else addF q s n
theorem addF_bit (q : Nat → Bool) (s k : Nat) : ∀ n, (addF q s n).testBit k = (s.testBit k || (decide (k < n) && q k))
  | 0 => by simp [addF]
  | n + 1 => by
    rw [addF]
    have ih := addF_bit q s k n
    by_cases h : q n = true
    · rw [if_pos h, Nat.testBit_or, Nat.testBit_two_pow, ih, Bool.or_assoc]
      congr 1
      by_cases e : n = k
      · subst e; simp [h]
      · simp only [decide_eq_false e, Bool.or_false]
        congr 1
        rw [decide_eq_decide]; omega
    · rw [if_neg h, ih]
      congr 1
      by_cases e : n = k
      · subst e; simp [show q n = false by simpa using h]
      · congr 1
        rw [decide_eq_decide]; omega
theorem addF_lt {q : Nat → Bool} {s m : Nat} (h : s < 2 ^ m) : ∀ {n}, n ≤ m → addF q s n < 2 ^ m
  | 0, _ => h
  | n + 1, hn => by
    rw [addF]
    split
    · exact Nat.or_lt_two_pow (addF_lt h (by omega)) (Nat.pow_lt_pow_right (by decide) (by omega))
    · exact addF_lt h (by omega)
def hidLW (L : Nat) (ws : List (List Pr)) : Nat := ws.foldl (fun s c => addF (fun i => decide (pN c i = -1)) s L) 0
def hidRW (R : Nat) (ws : List (List Pr)) : Nat := ws.foldl (fun s c => addF (fun k => !(seenC 0 c).testBit k) s R) 0
theorem hidLW_snoc (L : Nat) (ws : List (List Pr)) (c : List Pr) : hidLW L (ws ++ [c]) = addF (fun i => decide (pN c i = -1)) (hidLW L ws) L := by unfold hidLW; rw [List.foldl_append]; rfl
theorem hidRW_snoc (R : Nat) (ws : List (List Pr)) (c : List Pr) : hidRW R (ws ++ [c]) = addF (fun k => !(seenC 0 c).testBit k) (hidRW R ws) R := by unfold hidRW; rw [List.foldl_append]; rfl
theorem fold_bit {q : List Pr → Nat → Bool} {n k : Nat} (ws : List (List Pr)) : ∀ s, (ws.foldl (fun s c => addF (q c) s n) s).testBit k = (s.testBit k || (decide (k < n) && decide (∃ c ∈ ws, q c k = true))) := by
  induction ws with
  | nil => intro s; simp
  | cons c ws ih =>
    intro s
    rw [List.foldl_cons, ih, addF_bit, Bool.or_assoc]
    congr 1
    rw [← Bool.and_or_distrib_left]
    congr 1
    rw [Bool.eq_iff_iff]
    simp [List.mem_cons]
theorem fold_lt {q : List Pr → Nat → Bool} {n : Nat} (ws : List (List Pr)) : ∀ s, s < 2 ^ n → ws.foldl (fun s c => addF (q c) s n) s < 2 ^ n := by
  induction ws with
  | nil => intro s h; exact h
  | cons c ws ih => intro s h; exact ih _ (addF_lt h (Nat.le_refl _))
theorem hidLW_lt (L : Nat) (ws : List (List Pr)) : hidLW L ws < 2 ^ L := fold_lt ws 0 (Nat.two_pow_pos _)
theorem hidRW_lt (R : Nat) (ws : List (List Pr)) : hidRW R ws < 2 ^ R := fold_lt ws 0 (Nat.two_pow_pos _)
theorem hidLW_all (d : RowsD) : hidLW d.l.length (wys d) = hideA d := by
  apply Nat.eq_of_testBit_eq
  intro i
  unfold hidLW
  rw [fold_bit, hideA_bit, Nat.zero_testBit, Bool.false_or]
  congr 1
  rw [Bool.eq_iff_iff]
  simp only [decide_eq_true_eq]
  unfold hidD
  rw [hidB_l]
  constructor
  · rintro ⟨c, hc, h⟩
    obtain ⟨h1, h2⟩ := mem_wys.1 hc
    exact ⟨c, h1, h2, pN_none.1 h⟩
  · rintro ⟨c, h1, h2, h⟩
    exact ⟨c, mem_wys.2 ⟨h1, h2⟩, pN_none.2 h⟩
theorem hidRW_all (d : RowsD) : hidRW d.r.length (wys d) = hideB d := by
  apply Nat.eq_of_testBit_eq
  intro k
  unfold hidRW
  rw [fold_bit, hideB_bit, Nat.zero_testBit, Bool.false_or]
  congr 1
  rw [Bool.eq_iff_iff]
  simp only [decide_eq_true_eq]
  unfold hidD
  rw [hidB_r]
  constructor
  · rintro ⟨c, hc, h⟩
    obtain ⟨h1, h2⟩ := mem_wys.1 hc
    rw [seenC_bit] at h
    simp at h
    exact ⟨c, h1, h2, fun p hp e => h p.1 (by rw [← e]; exact hp)⟩
  · rintro ⟨c, h1, h2, h⟩
    refine ⟨c, mem_wys.2 ⟨h1, h2⟩, ?_⟩
    rw [seenC_bit]
    simp
    exact fun a hp => h (a, k) hp rfl
/-- What is sure, as the reference tells it. -/
def sureR (c0 : List Pr) (x : Nat) (ws : List (List Pr)) : Int := ws.foldl (fun n c => if pN c x = n then n else -1) (pN c0 x)
theorem sureR_snoc (c0 : List Pr) (x : Nat) (ws : List (List Pr)) (c : List Pr) : sureR c0 x (ws ++ [c]) = if pN c x = sureR c0 x ws then sureR c0 x ws else -1 := by unfold sureR; rw [List.foldl_append]; rfl
theorem fold_sure {x : Nat} (ws : List (List Pr)) : ∀ n, (∀ c ∈ ws, pN c x = n) ∧ ws.foldl (fun n c => if pN c x = n then n else -1) n = n ∨ (∃ c ∈ ws, pN c x ≠ n) ∧ ws.foldl (fun n c => if pN c x = n then n else -1) n = -1 := by
  have keep : ∀ ws : List (List Pr), ws.foldl (fun n c => if pN c x = n then n else -1) (-1) = -1 := by
    intro ws
    induction ws with
    | nil => rfl
    | cons c ws ih => rw [List.foldl_cons]; split <;> exact ih
  induction ws with
  | nil => intro n; exact .inl ⟨by simp, rfl⟩
  | cons c ws ih =>
    intro n
    rw [List.foldl_cons]
    by_cases h : pN c x = n
    · rw [if_pos h]
      rcases ih n with ⟨h1, h2⟩ | ⟨⟨b, hb, h1⟩, h2⟩
      · exact .inl ⟨fun b hb => by rcases List.mem_cons.1 hb with e | e; rw [e]; exact h; exact h1 b e, h2⟩
      · exact .inr ⟨⟨b, .tail _ hb, h1⟩, h2⟩
    · rw [if_neg h, keep]
      exact .inr ⟨⟨c, .head _, h⟩, rfl⟩
theorem sureR_all {d : RowsD} (hr : d.r.length ≤ 10) {c0 : List Pr} {l : List (List Pr)} (hw : wys d = c0 :: l) {x : Nat} (hx : x < d.l.length) : sureR c0 x (wys d) = sureN d x := by
  have hc0 : c0 ∈ wys d := by rw [hw]; exact .head _
  obtain ⟨g1, g2⟩ := mem_wys.1 hc0
  have hs := sure_iff (d := d) hr x
  have hb := canS_1024 hr x
  have hcan : ∀ k, (canS d x).testBit k = true ↔ ∃ c ∈ wys d, pN c x = (k : Int) := fun k => by
    rw [← orW_all hx]
    unfold orW
    rw [orW_bit, Nat.zero_testBit, Bool.false_or, decide_eq_true_eq]
    constructor
    · rintro ⟨c, hc, hm⟩; exact ⟨c, hc, (pN_mem (mem_wys.1 hc).1).2 hm⟩
    · rintro ⟨c, hc, hm⟩; exact ⟨c, hc, (pN_mem (mem_wys.1 hc).1).1 hm⟩
  have hhid : hidD d x (-1) = true ↔ ∃ c ∈ wys d, pN c x = -1 := by
    unfold hidD
    rw [hidB_l]
    constructor
    · rintro ⟨c, h1, h2, h⟩; exact ⟨c, mem_wys.2 ⟨h1, h2⟩, pN_none.2 h⟩
    · rintro ⟨c, hc, h⟩
      obtain ⟨h1, h2⟩ := mem_wys.1 hc
      exact ⟨c, h1, h2, pN_none.1 h⟩
  unfold sureR
  rcases fold_sure (x := x) (wys d) (pN c0 x) with ⟨h1, h2⟩ | ⟨⟨c, hc, h1⟩, h2⟩
  · rw [h2]
    have hb0 := pN_bd (c := c0) (x := x)
    by_cases hn : pN c0 x = -1
    · rw [hn]
      by_cases he : sureN d x = -1
      · exact he.symm
      · obtain ⟨_, _, h3⟩ := hs.1.1 he
        have := hhid.2 ⟨c0, hc0, hn⟩
        rw [h3] at this; cases this
    · obtain ⟨k, hk⟩ : ∃ k : Nat, pN c0 x = (k : Int) := ⟨(pN c0 x).toNat, by omega⟩
      have hone : canS d x = 2 ^ k := by
        apply Nat.eq_of_testBit_eq
        intro j
        rw [Nat.testBit_two_pow, Bool.eq_iff_iff, hcan, decide_eq_true_eq]
        constructor
        · rintro ⟨c, hc, h⟩; have := h1 c hc; omega
        · intro e; subst e; exact ⟨c0, hc0, hk⟩
      have hne : sureN d x ≠ -1 := by
        refine hs.1.2 ⟨by rw [hone]; exact Nat.ne_of_gt (Nat.two_pow_pos _), by rw [hone]; exact Nat.and_two_pow_sub_one_eq_mod (2 ^ k) k ▸ Nat.mod_self _, ?_⟩
        cases h : hidD d x (-1) with
        | false => rfl
        | true => obtain ⟨c, hc, e⟩ := hhid.1 h; have := h1 c hc; omega
      obtain ⟨h3, h4, h5⟩ := hs.2 hne
      rw [h3, hk]
      rw [hone] at h4
      have := (Nat.pow_right_inj (a := 2) (by decide)).1 h4
      rw [hone, ← this]
  · rw [h2]
    by_cases he : sureN d x = -1
    · exact he.symm
    · obtain ⟨h3, h4, h5⟩ := hs.1.1 he
      obtain ⟨_, h6, _⟩ := hs.2 he
      have hall : ∀ b ∈ wys d, pN b x = ((Lib.ctz 64 (canS d x) : Nat) : Int) := fun b hb => by
        have hb1 := pN_bd (c := b) (x := x)
        by_cases hn : pN b x = -1
        · have := hhid.2 ⟨b, hb, hn⟩; rw [h5] at this; cases this
        · have hbit := (hcan (pN b x).toNat).2 ⟨b, hb, by omega⟩
          rw [h6, Nat.testBit_two_pow, decide_eq_true_eq] at hbit
          omega
      have h7 := hall c hc
      have h8 := hall c0 hc0
      exact absurd (h7.trans h8.symm) h1
end Go.MatM
