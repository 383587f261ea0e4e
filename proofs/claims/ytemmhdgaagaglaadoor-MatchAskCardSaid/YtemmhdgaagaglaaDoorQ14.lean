/- Lemmas, in order: Marks in memory: a part of a row, from its end or from its beginning. Rows of which something is known. Plain laws: what the law of asking sums up, mark by mark. What is left if one asks about a mark, walked. MatchAsk, walked. Rows that a law is handed, opened; the library's table.. -/
import Derived.Test.YtemmhdgaagaglaaDoorQ13
import Derived.Test.YtemmhdgaagaglaaDoorRows
import Derived.Test.YtemmhdgaagaglaaDoorChecked
import Derived.JoinedOf
import Derived.LaidLaws
import Derived.Lib.LaidU8
import Derived.RowKit
import Derived.RowKitTokens
import Derived.LaidHandle
import Derived.Stop.Joined
import Derived.Lay
namespace Go.MatM
open Go Go.Sy Go.Proofs Go.RowKit
theorem mkAt_take {w : World} {sa : Option Addr} {l : List Mk} (h : MkAt w sa l) (m : Nat) : MkAt w sa (l.take m) := fun i s hi => by
  rw [List.getElem?_take] at hi
  split at hi
  · exact h i s hi
  · cases hi
theorem mkAt_drop {w : World} {sa : Option Addr} {l : List Mk} (h : MkAt w sa l) {c m : Nat} (hc : l.length ≤ c) : MkAt w (if c = m then sa else sa.map (·.add (m * 4))) (l.drop m) := by
  by_cases e : c = m
  · rw [List.drop_eq_nil_of_le (by omega)]; exact MkAt.nil _ _
  · rw [if_neg e]
    intro i s hi
    rw [List.getElem?_drop] at hi
    obtain ⟨blk, off, c, T, fr, e1, e2, e3⟩ := h _ s hi
    subst e1
    refine ⟨blk, off + m * 4, c, T, fr, ?_, e2, by rw [show off + m * 4 + i * 4 = off + (m + i) * 4 by omega]; exact e3⟩
    show some (Addr.add ⟨blk, off, none⟩ (m * 4)) = _
    rw [add_spot]
theorem ownSl_cut {e size m m' cap : Nat} {oa : Option Addr} {xs : List Value} {X : List (Nat × Obj)} (h : OwnSl e size (.slice oa m cap) m xs X) (hm : m' ≤ m) : OwnSl e size (.slice oa m' cap) m' (xs.take (m' * size)) X := by
  have hle : m' * size ≤ m * size := Nat.mul_le_mul_right _ hm
  refine ⟨by rw [List.length_take, h.1]; omega, ?_⟩
  rcases h.2 with ⟨h1, h2, h3⟩ | ⟨B, cp, cur, h1, h2, h3, h4, h5, h6⟩
  · cases h1
    exact .inl ⟨by rw [show m' = 0 by omega], by omega, h3⟩
  · cases h1
    exact .inr ⟨B, _, cur, rfl, h2, by omega, h4, h5, by rw [← h6, List.take_take]; congr 1; omega⟩
theorem encM_take : ∀ (l : List Mk) (m : Nat), (encM l).take (m * 4) = encM (l.take m)
  | [], m => by simp [encM]
  | x :: l, 0 => by simp [encM]
  | x :: l, m + 1 => by
    have ih := encM_take l m
    unfold encM at *
    rw [List.take_succ_cons, List.flatMap_cons, List.flatMap_cons, ← ih, show (m + 1) * 4 = (mkC x).length + m * 4 by simp; omega, List.take_length_add_append]
theorem ownSl_capM {cap n : Nat} {oa : Option Addr} {xs : List Value} {X : List (Nat × Obj)} (h : OwnSl 53 4 (.slice oa n cap) n xs X) : n ≤ cap := by
  rcases h.2 with ⟨h1, h2, _⟩ | ⟨B, cp, cur, h1, _, h3, _⟩
  · omega
  · cases h1; exact h3
end Go.MatM
namespace Go.Proofs.YtemmhdgaagaglaaDoor
open Go Go.Sy Go.MatM
theorem perm_two {α : Type} {A B C : List α} : (A ++ (B ++ C)).Perm (C ++ (B ++ A)) := by
  refine List.perm_append_comm.trans ?_
  rw [← List.append_assoc C B A]
  exact List.Perm.append_right _ List.perm_append_comm
theorem perm_pull {α : Type} {A B C : List α} : (A ++ (B ++ C)).Perm (B ++ (A ++ C)) := by
  rw [← List.append_assoc, ← List.append_assoc]
  exact List.Perm.append_right _ List.perm_append_comm
theorem c28a (d : RowsD) (sa sb : Option Addr) (ca cb : Nat) (u : World) (hA : MkAt u sa d.l) (hB : MkAt u sb d.r) (hV : Valid d) (i : Nat) (hi : i < d.l.length)  : Calls Tryd.prog 28 #[rowsV d sa sb ca cb, .int .i64 i, .int .i64 (-1)] u (Ret fun v w' => ∃ oa ob cpa cpb, v = .tuple #[rowsV (rmD d i) oa ob cpa cpb, .bool (decide (0 ≤ d.hid - 1))] ∧ MkAt w' oa (rmD d i).l ∧ MkAt w' ob d.r ∧ Ext [] u w') := by
  refine calls_of Tryd.func28 rfl rfl (fun a hf => ?_)
  have hh := Hp.init u []
  have hnl := hV.nl; have hnr := hV.nr; have hh1 := hV.h1; have hh2 := hV.h2
  refine sy_sq ?_
  refine o_box hf hh ?_; clear hf hh a; intro B3 a w hf hh
  refine o_alloc hf hh Tryd.ze_26 ?_; clear hf hh a; intro B6 a w hf hh
  refine o_v hf hh (yv_assign rfl) ?_; clear hf a; intro a hf
  refine o_end ?_
  refine sy_sq ?_
  refine o_v hf hh (y_lds Tryd.ag_26 rfl) ?_; clear hf a; intro a hf
  refine o_alloc hf hh Tryd.ze_26 ?_; clear hf hh a; intro B8 a w hf hh
  refine o_store hf hh Tryd.sz_26 fun w hh => ?_
  refine o_end ?_
  refine sy_cut (σ := Option Addr × Option Addr × Nat × Nat × List (Nat × Obj) × List (Nat × Obj)) [10, 11, 12, 13, 14, 15, 16, 17, 18, 19] (fun q => []) (fun q => fun w' => OwnSl 53 4 (.slice q.1 d.l.length q.2.2.1) d.l.length (encM d.l) q.2.2.2.2.1 ∧ OwnSl 53 4 (.slice q.2.1 d.r.length q.2.2.2.1) d.r.length (encM d.r) q.2.2.2.2.2 ∧ Hp u [] ([(B8, .cells (rowsV d q.1 q.2.1 q.2.2.1 q.2.2.2.1).cells 26), (B6, .cells #[.slice none 0 0, .slice none 0 0, .int .i64 0, .int .i64 0, .int .i64 0] 26), (B3, .cells (rowsV d sa sb ca cb).cells 26)] ++ (q.2.2.2.2.1 ++ q.2.2.2.2.2)) w') hf ?_ ?_
  ·refine sy_treeC (.p 1 (.q 0 2 (.p 5 (.q 0 6 (.e2 0 (.e2 3 (.p 8 (.e1 4 (.e1 7 (.e1 9 (.p 10 (.e1 11 (.fin))))))) 4 (.e1 3 (.p 8 (.e1 7 (.e1 9 (.p 10 (.e1 11 (.fin)))))))) 4 (.e1 0 (.e1 3 (.p 8 (.e1 7 (.e1 9 (.p 10 (.e1 11 (.fin))))))))))))) [[]] [(AtE u [] [(B3, .cells (rowsV d sa sb ca cb).cells 26)], [])] Tryd.follows (by kernel_rfl) rfl hh (fun w hh => ?_)
   refine mc_p rfl   hf (yv_fieldAddr Tryd.fo_26_0 rfl) (.inl rfl) rfl rfl ?_; clear hf a; intro a hf
   refine mc_q rfl rfl (AtE.mk1 hh.ext (hh.get (B3, .cells (rowsV d sa sb ca cb).cells 26) (by simp))) hf (y_ld Tryd.sc_22 rfl) (.inl rfl) rfl rfl ?_; clear hf a; intro a hf
   refine mc_p rfl   hf (yv_fieldAddr Tryd.fo_26_1 rfl) (.inl rfl) rfl rfl ?_; clear hf a; intro a hf
   refine mc_q rfl rfl (AtE.mk1 hh.ext (hh.get (B3, .cells (rowsV d sa sb ca cb).cells 26) (by simp))) hf (y_ld Tryd.sc_22 rfl) (.inl rfl) rfl rfl ?_; clear hf a; intro a hf
   refine ⟨?_, ?_⟩
   ·refine mc_e rfl fun Q1 => ?_
    refine ops_buildSl hf hh Tryd.bl_22_0 rfl rfl (.inl rfl) rfl ?_; clear hf hh; clear a; intro B10 a w hf hh
    refine ops_end ?_
    refine then_n ⟨⟨fun _ _ => (AtE.mk1 hh.ext (hh.get (B3, .cells (rowsV d sa sb ca cb).cells 26) (by simp))), trivial⟩, ?_⟩
    refine ⟨?_, ?_⟩
    ·refine mc_e rfl fun Q1 => ?_
     first | (refine ops_appendM (A := []) (B := d.l) (X := [(B10, .cells #[] 53)]) (m := 0) hf hh Tryd.eb_22 rfl rfl ⟨rfl, .inr ⟨B10, 0, #[], rfl, rfl, Nat.le_refl _, Nat.zero_le _, rfl, rfl⟩⟩ (hA.ext hh.ext) (by simp only [maxLen]; omega) (by omega) (.inl rfl) rfl ?_) | (refine ops_appendM (A := []) (B := d.l) (X := [(B10, .cells #[] 53)]) (m := 0) hf (hh.perm (.swap _ _ _)) Tryd.eb_22 rfl rfl ⟨rfl, .inr ⟨B10, 0, #[], rfl, rfl, Nat.le_refl _, Nat.zero_le _, rfl, rfl⟩⟩ (hA.ext hh.ext) (by simp only [maxLen]; omega) (by omega) (.inl rfl) rfl ?_) | (refine ops_appendM (A := []) (B := d.l) (X := [(B10, .cells #[] 53)]) (m := 0) hf (hh.perm List.perm_middle) Tryd.eb_22 rfl rfl ⟨rfl, .inr ⟨B10, 0, #[], rfl, rfl, Nat.le_refl _, Nat.zero_le _, rfl, rfl⟩⟩ (hA.ext hh.ext) (by simp only [maxLen]; omega) (by omega) (.inl rfl) rfl ?_)
     clear hf hh; clear a
     intro v1 X1 a w hO1 hf hh
     rw [Nat.zero_add, List.nil_append] at hO1
     obtain ⟨oa1, cp1, rfl⟩ := OwnSl_val hO1
     have hcp1 := ownSl_capM hO1
     refine ops_end ?_
     refine then_n ⟨⟨fun _ _ => (AtE.mk1 hh.ext (hh.get (B3, .cells (rowsV d sa sb ca cb).cells 26) (by simp))), trivial⟩, ?_⟩
     refine mc_p rfl   hf (yv_fieldAddr Tryd.fo_26_0 rfl) (.inl rfl) rfl rfl ?_; clear hf a; intro a hf
     refine mc_e rfl fun Q1 => ?_
     refine ops_buildSl hf hh Tryd.bl_22_0 rfl rfl (.inl rfl) rfl ?_; clear hf hh; clear a; intro B14 a w hf hh
     refine ops_end ?_
     refine then_n ⟨⟨fun _ _ => (AtE.mk1 hh.ext (hh.get (B3, .cells (rowsV d sa sb ca cb).cells 26) (by simp))), trivial⟩, ?_⟩
     refine mc_e rfl fun Q1 => ?_
     first | (refine ops_appendM (A := []) (B := d.r) (X := [(B14, .cells #[] 53)]) (m := 0) hf hh Tryd.eb_22 rfl rfl ⟨rfl, .inr ⟨B14, 0, #[], rfl, rfl, Nat.le_refl _, Nat.zero_le _, rfl, rfl⟩⟩ (hB.ext hh.ext) (by simp only [maxLen]; omega) (by omega) (.inl rfl) rfl ?_) | (refine ops_appendM (A := []) (B := d.r) (X := [(B14, .cells #[] 53)]) (m := 0) hf (hh.perm (.swap _ _ _)) Tryd.eb_22 rfl rfl ⟨rfl, .inr ⟨B14, 0, #[], rfl, rfl, Nat.le_refl _, Nat.zero_le _, rfl, rfl⟩⟩ (hB.ext hh.ext) (by simp only [maxLen]; omega) (by omega) (.inl rfl) rfl ?_) | (refine ops_appendM (A := []) (B := d.r) (X := [(B14, .cells #[] 53)]) (m := 0) hf (hh.perm List.perm_middle) Tryd.eb_22 rfl rfl ⟨rfl, .inr ⟨B14, 0, #[], rfl, rfl, Nat.le_refl _, Nat.zero_le _, rfl, rfl⟩⟩ (hB.ext hh.ext) (by simp only [maxLen]; omega) (by omega) (.inl rfl) rfl ?_)
     clear hf hh; clear a
     intro v2 X2 a w hO2 hf hh
     rw [Nat.zero_add, List.nil_append] at hO2
     obtain ⟨oa2, cp2, rfl⟩ := OwnSl_val hO2
     have hcp2 := ownSl_capM hO2
     replace hh : Hp u [] ([(B8, .cells (rowsV d sa sb ca cb).cells 26), (B6, .cells #[.slice none 0 0, .slice none 0 0, .int .i64 0, .int .i64 0, .int .i64 0] 26), (B3, .cells (rowsV d sa sb ca cb).cells 26)] ++ (X1 ++ X2)) w := hh.perm perm_two
     refine ops_end ?_
     refine then_n ⟨⟨fun _ _ => (AtE.mk1 hh.ext (hh.get (B3, .cells (rowsV d sa sb ca cb).cells 26) (by simp))), trivial⟩, ?_⟩
     refine mc_e rfl fun Q1 => ?_
     refine o_store hf hh Tryd.sz_22 fun w hh => ?_
     refine ops_end ?_
     refine then_n ⟨⟨fun _ _ => (AtE.mk1 hh.ext (hh.get (B3, .cells (rowsV d sa sb ca cb).cells 26) (by simp))), trivial⟩, ?_⟩
     refine mc_p rfl   hf (yv_fieldAddr Tryd.fo_26_1 rfl) (.inl rfl) rfl rfl ?_; clear hf a; intro a hf
     refine mc_e rfl fun Q1 => ?_
     refine o_store hf hh Tryd.sz_22 fun w hh => ?_
     refine ops_end ?_
     refine then_n ⟨⟨fun _ _ => (AtE.mk1 hh.ext (hh.get (B3, .cells (rowsV d sa sb ca cb).cells 26) (by simp))), trivial⟩, ?_⟩
     refine mc_end ?_
     refine then_n ?_
     exact ⟨(oa1, oa2, cp1, cp2, X1, X2), ⟨hO1, hO2, hh⟩, hf.head True.intro (Keep.cons rfl (Keep.cons rfl (Keep.cons rfl (Keep.cons rfl (Keep.cons rfl (Keep.cons rfl (Keep.cons rfl (Keep.cons rfl (Keep.cons rfl (Keep.cons rfl (Keep.base)))))))))))⟩
    ·refine mc_e rfl fun Q1 => ?_
     refine ops_buildSl hf hh Tryd.bl_22_0 rfl rfl (.inl rfl) rfl ?_; clear hf hh; clear a; intro B14 a w hf hh
     refine ops_end ?_
     refine then_n ⟨⟨fun _ _ => (AtE.mk1 hh.ext (hh.get (B3, .cells (rowsV d sa sb ca cb).cells 26) (by simp))), trivial⟩, ?_⟩
     refine mc_e rfl fun Q1 => ?_
     first | (refine ops_appendM (A := []) (B := d.l) (X := [(B10, .cells #[] 53)]) (m := 0) hf hh Tryd.eb_22 rfl rfl ⟨rfl, .inr ⟨B10, 0, #[], rfl, rfl, Nat.le_refl _, Nat.zero_le _, rfl, rfl⟩⟩ (hA.ext hh.ext) (by simp only [maxLen]; omega) (by omega) (.inl rfl) rfl ?_) | (refine ops_appendM (A := []) (B := d.l) (X := [(B10, .cells #[] 53)]) (m := 0) hf (hh.perm (.swap _ _ _)) Tryd.eb_22 rfl rfl ⟨rfl, .inr ⟨B10, 0, #[], rfl, rfl, Nat.le_refl _, Nat.zero_le _, rfl, rfl⟩⟩ (hA.ext hh.ext) (by simp only [maxLen]; omega) (by omega) (.inl rfl) rfl ?_) | (refine ops_appendM (A := []) (B := d.l) (X := [(B10, .cells #[] 53)]) (m := 0) hf (hh.perm List.perm_middle) Tryd.eb_22 rfl rfl ⟨rfl, .inr ⟨B10, 0, #[], rfl, rfl, Nat.le_refl _, Nat.zero_le _, rfl, rfl⟩⟩ (hA.ext hh.ext) (by simp only [maxLen]; omega) (by omega) (.inl rfl) rfl ?_)
     clear hf hh; clear a
     intro v1 X1 a w hO1 hf hh
     rw [Nat.zero_add, List.nil_append] at hO1
     obtain ⟨oa1, cp1, rfl⟩ := OwnSl_val hO1
     have hcp1 := ownSl_capM hO1
     refine ops_end ?_
     refine then_n ⟨⟨fun _ _ => (AtE.mk1 hh.ext (hh.get (B3, .cells (rowsV d sa sb ca cb).cells 26) (by simp))), trivial⟩, ?_⟩
     refine mc_p rfl   hf (yv_fieldAddr Tryd.fo_26_0 rfl) (.inl rfl) rfl rfl ?_; clear hf a; intro a hf
     refine mc_e rfl fun Q1 => ?_
     first | (refine ops_appendM (A := []) (B := d.r) (X := [(B14, .cells #[] 53)]) (m := 0) hf hh Tryd.eb_22 rfl rfl ⟨rfl, .inr ⟨B14, 0, #[], rfl, rfl, Nat.le_refl _, Nat.zero_le _, rfl, rfl⟩⟩ (hB.ext hh.ext) (by simp only [maxLen]; omega) (by omega) (.inl rfl) rfl ?_) | (refine ops_appendM (A := []) (B := d.r) (X := [(B14, .cells #[] 53)]) (m := 0) hf (hh.perm (.swap _ _ _)) Tryd.eb_22 rfl rfl ⟨rfl, .inr ⟨B14, 0, #[], rfl, rfl, Nat.le_refl _, Nat.zero_le _, rfl, rfl⟩⟩ (hB.ext hh.ext) (by simp only [maxLen]; omega) (by omega) (.inl rfl) rfl ?_) | (refine ops_appendM (A := []) (B := d.r) (X := [(B14, .cells #[] 53)]) (m := 0) hf (hh.perm List.perm_middle) Tryd.eb_22 rfl rfl ⟨rfl, .inr ⟨B14, 0, #[], rfl, rfl, Nat.le_refl _, Nat.zero_le _, rfl, rfl⟩⟩ (hB.ext hh.ext) (by simp only [maxLen]; omega) (by omega) (.inl rfl) rfl ?_)
     clear hf hh; clear a
     intro v2 X2 a w hO2 hf hh
     rw [Nat.zero_add, List.nil_append] at hO2
     obtain ⟨oa2, cp2, rfl⟩ := OwnSl_val hO2
     have hcp2 := ownSl_capM hO2
     replace hh : Hp u [] ([(B8, .cells (rowsV d sa sb ca cb).cells 26), (B6, .cells #[.slice none 0 0, .slice none 0 0, .int .i64 0, .int .i64 0, .int .i64 0] 26), (B3, .cells (rowsV d sa sb ca cb).cells 26)] ++ (X1 ++ X2)) w := hh.perm perm_two
     refine ops_end ?_
     refine then_n ⟨⟨fun _ _ => (AtE.mk1 hh.ext (hh.get (B3, .cells (rowsV d sa sb ca cb).cells 26) (by simp))), trivial⟩, ?_⟩
     refine mc_e rfl fun Q1 => ?_
     refine o_store hf hh Tryd.sz_22 fun w hh => ?_
     refine ops_end ?_
     refine then_n ⟨⟨fun _ _ => (AtE.mk1 hh.ext (hh.get (B3, .cells (rowsV d sa sb ca cb).cells 26) (by simp))), trivial⟩, ?_⟩
     refine mc_p rfl   hf (yv_fieldAddr Tryd.fo_26_1 rfl) (.inl rfl) rfl rfl ?_; clear hf a; intro a hf
     refine mc_e rfl fun Q1 => ?_
     refine o_store hf hh Tryd.sz_22 fun w hh => ?_
     refine ops_end ?_
     refine then_n ⟨⟨fun _ _ => (AtE.mk1 hh.ext (hh.get (B3, .cells (rowsV d sa sb ca cb).cells 26) (by simp))), trivial⟩, ?_⟩
     refine mc_end ?_
     refine then_n ?_
     exact ⟨(oa1, oa2, cp1, cp2, X1, X2), ⟨hO1, hO2, hh⟩, hf.head True.intro (Keep.cons rfl (Keep.cons rfl (Keep.cons rfl (Keep.cons rfl (Keep.cons rfl (Keep.cons rfl (Keep.cons rfl (Keep.cons rfl (Keep.cons rfl (Keep.cons rfl (Keep.base)))))))))))⟩
   ·refine mc_e rfl fun Q1 => ?_
    refine ops_buildSl hf hh Tryd.bl_22_0 rfl rfl (.inl rfl) rfl ?_; clear hf hh; clear a; intro B14 a w hf hh
    refine ops_end ?_
    refine then_n ⟨⟨fun _ _ => (AtE.mk1 hh.ext (hh.get (B3, .cells (rowsV d sa sb ca cb).cells 26) (by simp))), trivial⟩, ?_⟩
    refine mc_e rfl fun Q1 => ?_
    refine ops_buildSl hf hh Tryd.bl_22_0 rfl rfl (.inl rfl) rfl ?_; clear hf hh; clear a; intro B10 a w hf hh
    refine ops_end ?_
    refine then_n ⟨⟨fun _ _ => (AtE.mk1 hh.ext (hh.get (B3, .cells (rowsV d sa sb ca cb).cells 26) (by simp))), trivial⟩, ?_⟩
    refine mc_e rfl fun Q1 => ?_
    first | (refine ops_appendM (A := []) (B := d.l) (X := [(B10, .cells #[] 53)]) (m := 0) hf hh Tryd.eb_22 rfl rfl ⟨rfl, .inr ⟨B10, 0, #[], rfl, rfl, Nat.le_refl _, Nat.zero_le _, rfl, rfl⟩⟩ (hA.ext hh.ext) (by simp only [maxLen]; omega) (by omega) (.inl rfl) rfl ?_) | (refine ops_appendM (A := []) (B := d.l) (X := [(B10, .cells #[] 53)]) (m := 0) hf (hh.perm (.swap _ _ _)) Tryd.eb_22 rfl rfl ⟨rfl, .inr ⟨B10, 0, #[], rfl, rfl, Nat.le_refl _, Nat.zero_le _, rfl, rfl⟩⟩ (hA.ext hh.ext) (by simp only [maxLen]; omega) (by omega) (.inl rfl) rfl ?_) | (refine ops_appendM (A := []) (B := d.l) (X := [(B10, .cells #[] 53)]) (m := 0) hf (hh.perm List.perm_middle) Tryd.eb_22 rfl rfl ⟨rfl, .inr ⟨B10, 0, #[], rfl, rfl, Nat.le_refl _, Nat.zero_le _, rfl, rfl⟩⟩ (hA.ext hh.ext) (by simp only [maxLen]; omega) (by omega) (.inl rfl) rfl ?_)
    clear hf hh; clear a
    intro v1 X1 a w hO1 hf hh
    rw [Nat.zero_add, List.nil_append] at hO1
    obtain ⟨oa1, cp1, rfl⟩ := OwnSl_val hO1
    have hcp1 := ownSl_capM hO1
    refine ops_end ?_
    refine then_n ⟨⟨fun _ _ => (AtE.mk1 hh.ext (hh.get (B3, .cells (rowsV d sa sb ca cb).cells 26) (by simp))), trivial⟩, ?_⟩
    refine mc_p rfl   hf (yv_fieldAddr Tryd.fo_26_0 rfl) (.inl rfl) rfl rfl ?_; clear hf a; intro a hf
    refine mc_e rfl fun Q1 => ?_
    first | (refine ops_appendM (A := []) (B := d.r) (X := [(B14, .cells #[] 53)]) (m := 0) hf hh Tryd.eb_22 rfl rfl ⟨rfl, .inr ⟨B14, 0, #[], rfl, rfl, Nat.le_refl _, Nat.zero_le _, rfl, rfl⟩⟩ (hB.ext hh.ext) (by simp only [maxLen]; omega) (by omega) (.inl rfl) rfl ?_) | (refine ops_appendM (A := []) (B := d.r) (X := [(B14, .cells #[] 53)]) (m := 0) hf (hh.perm (.swap _ _ _)) Tryd.eb_22 rfl rfl ⟨rfl, .inr ⟨B14, 0, #[], rfl, rfl, Nat.le_refl _, Nat.zero_le _, rfl, rfl⟩⟩ (hB.ext hh.ext) (by simp only [maxLen]; omega) (by omega) (.inl rfl) rfl ?_) | (refine ops_appendM (A := []) (B := d.r) (X := [(B14, .cells #[] 53)]) (m := 0) hf (hh.perm List.perm_middle) Tryd.eb_22 rfl rfl ⟨rfl, .inr ⟨B14, 0, #[], rfl, rfl, Nat.le_refl _, Nat.zero_le _, rfl, rfl⟩⟩ (hB.ext hh.ext) (by simp only [maxLen]; omega) (by omega) (.inl rfl) rfl ?_)
    clear hf hh; clear a
    intro v2 X2 a w hO2 hf hh
    rw [Nat.zero_add, List.nil_append] at hO2
    obtain ⟨oa2, cp2, rfl⟩ := OwnSl_val hO2
    have hcp2 := ownSl_capM hO2
    replace hh : Hp u [] ([(B8, .cells (rowsV d sa sb ca cb).cells 26), (B6, .cells #[.slice none 0 0, .slice none 0 0, .int .i64 0, .int .i64 0, .int .i64 0] 26), (B3, .cells (rowsV d sa sb ca cb).cells 26)] ++ (X1 ++ X2)) w := hh.perm perm_two
    refine ops_end ?_
    refine then_n ⟨⟨fun _ _ => (AtE.mk1 hh.ext (hh.get (B3, .cells (rowsV d sa sb ca cb).cells 26) (by simp))), trivial⟩, ?_⟩
    refine mc_e rfl fun Q1 => ?_
    refine o_store hf hh Tryd.sz_22 fun w hh => ?_
    refine ops_end ?_
    refine then_n ⟨⟨fun _ _ => (AtE.mk1 hh.ext (hh.get (B3, .cells (rowsV d sa sb ca cb).cells 26) (by simp))), trivial⟩, ?_⟩
    refine mc_p rfl   hf (yv_fieldAddr Tryd.fo_26_1 rfl) (.inl rfl) rfl rfl ?_; clear hf a; intro a hf
    refine mc_e rfl fun Q1 => ?_
    refine o_store hf hh Tryd.sz_22 fun w hh => ?_
    refine ops_end ?_
    refine then_n ⟨⟨fun _ _ => (AtE.mk1 hh.ext (hh.get (B3, .cells (rowsV d sa sb ca cb).cells 26) (by simp))), trivial⟩, ?_⟩
    refine mc_end ?_
    refine then_n ?_
    exact ⟨(oa1, oa2, cp1, cp2, X1, X2), ⟨hO1, hO2, hh⟩, hf.head True.intro (Keep.cons rfl (Keep.cons rfl (Keep.cons rfl (Keep.cons rfl (Keep.cons rfl (Keep.cons rfl (Keep.cons rfl (Keep.cons rfl (Keep.cons rfl (Keep.cons rfl (Keep.base)))))))))))⟩
  ·rintro q a w ⟨hO1, hO2, hh⟩ hf
   obtain ⟨oa1, oa2, cp1, cp2, X1, X2⟩ := q
   simp only at hO1 hO2 hh hf
   have hcp1 := ownSl_capM hO1
   have hcp2 := ownSl_capM hO2
   refine sy_seq ?_
   refine sy_sq ?_
   refine o_v hf hh (yv_move rfl) ?_; clear hf a; intro a hf
   refine o_v hf hh (yv_bin rfl rfl rfl) ?_; clear hf a; intro a hf
   refine o_end ?_
   refine c_t hf ?_
   refine sy_seq ?_
   refine sy_tail (C := Hp _ _ _) 9 Tryd.follows (by kernel_rfl) rfl rfl (hh.drawn _) ?_
   refine oq_v hf (yv_fieldAddr Tryd.fo_26_0 rfl) ?_; clear hf a; intro a hf
   refine oq_v hf (y_ld Tryd.sc_22 rfl) ?_; clear hf a; intro a hf
   refine oq_v hf (yv_move rfl) ?_; clear hf a; intro a hf
   refine oq_v hf (yv_cutHi (m := i) Tryd.se_22 rfl rfl (by omega)) ?_; clear hf a; intro a hf
   refine oq_v hf (yv_fieldAddr Tryd.fo_26_0 rfl) ?_; clear hf a; intro a hf
   refine oq_v hf (y_ld Tryd.sc_22 rfl) ?_; clear hf a; intro a hf
   refine oq_v hf (yv_move rfl) ?_; clear hf a; intro a hf
   refine oq_v hf (y_add rfl rfl) ?_; clear hf a; intro a hf
   refine oq_v hf (yv_lo (m := i + 1) Tryd.se_22 rfl rfl (by omega)) ?_; clear hf a; intro a hf
   refine q_end fun w hh => ?_
   have hld : (d.l.drop (i + 1)).length = d.l.length - (i + 1) := List.length_drop ..
   refine ops_appendM (A := d.l.take i) (B := d.l.drop (i + 1)) (X := X1) (m := i) hf (hh.perm perm_pull) Tryd.eb_22 rfl (congrArg (fun n => some (Value.slice _ n _)) hld.symm) (by rw [← encM_take]; exact ownSl_cut hO1 (by omega)) (mkAt_drop (mkAt_of hO1 fun x hx => hh.get x (by simp [hx])) hcp1) (by simp only [maxLen]; omega) (by omega) (.inl rfl) rfl ?_
   clear hf hh; clear a
   intro v3 X3 a w hO3 hf hh
   have hrl : i + (d.l.drop (i + 1)).length = (rmD d i).l.length := by rw [rm_len hi]; omega
   rw [hrl] at hO3
   obtain ⟨oa3, cp3, rfl⟩ := OwnSl_val hO3
   replace hh := hh.perm perm_pull
   refine o_v hf hh (yv_fieldAddr Tryd.fo_26_0 rfl) ?_; clear hf a; intro a hf
   refine o_store hf hh Tryd.sz_22 fun w hh => ?_
   refine o_end ?_
   refine sy_sq ?_
   refine o_v hf hh (yv_fieldAddr Tryd.fo_26_3 rfl) ?_; clear hf a; intro a hf
   refine o_v hf hh (y_ld Tryd.sc_3 rfl) ?_; clear hf a; intro a hf
   refine o_v hf hh (y_sub rfl rfl) ?_; clear hf a; intro a hf
   refine o_v hf hh (yv_fieldAddr Tryd.fo_26_3 rfl) ?_; clear hf a; intro a hf
   refine o_store hf hh Tryd.sz_3 fun w hh => ?_
   refine o_end ?_
   refine sy_seq ?_
   replace hh : Hp u [] ([(B8, .cells (rowsV (rmD d i) oa3 oa2 cp3 cp2).cells 26), (B6, .cells #[.slice none 0 0, .slice none 0 0, .int .i64 0, .int .i64 0, .int .i64 0] 26), (B3, .cells (rowsV d sa sb ca cb).cells 26)] ++ (X3 ++ X2)) w := hh
   refine sy_treeC (.q 0 0 (.p 1 (.q 0 2 (.p 3 (.e1 4 (.p 5 (.fin))))))) [[]] [(AtE u [] [(B8, .cells (rowsV (rmD d i) oa3 oa2 cp3 cp2).cells 26)], [])] Tryd.follows (by kernel_rfl) rfl hh (fun w hh => ?_)
   refine mc_q rfl rfl (AtE.mk1 hh.ext (hh.get (B8, .cells (rowsV (rmD d i) oa3 oa2 cp3 cp2).cells 26) (by simp))) hf (y_lds Tryd.ag_26 rfl) (.inl rfl) rfl rfl ?_; clear hf a; intro a hf
   refine mc_p rfl   hf (yv_fieldAddr Tryd.fo_26_3 rfl) (.inl rfl) rfl rfl ?_; clear hf a; intro a hf
   refine mc_q rfl rfl (AtE.mk1 hh.ext (hh.get (B8, .cells (rowsV (rmD d i) oa3 oa2 cp3 cp2).cells 26) (by simp))) hf (y_ld Tryd.sc_3 rfl) (.inl rfl) rfl rfl ?_; clear hf a; intro a hf
   refine mc_p rfl   hf (yv_bin rfl rfl rfl) (.inl rfl) rfl rfl ?_; clear hf a; intro a hf
   refine mc_e rfl fun Q1 => ?_
   refine o_store hf hh Tryd.sz_26 fun w hh => ?_
   refine ops_end ?_
   refine then_n ⟨⟨fun _ _ => (AtE.mk1 hh.ext (hh.get (B8, .cells (rowsV (rmD d i) oa3 oa2 cp3 cp2).cells 26) (by simp))), trivial⟩, ?_⟩
   refine mc_p rfl   hf (yv_assign rfl) (.inl rfl) rfl rfl ?_; clear hf a; intro a hf
   refine mc_end ?_
   refine then_n ?_
   refine sy_ret ?_
   refine then_r ?_
   refine ret_c (vs := [rowsV (rmD d i) oa3 oa2 cp3 cp2, .bool (decide (0 ≤ d.hid - 1))]) hf ?_ ?_
   · replace hh : Hp u [] ([(B8, .cells (rowsV (rmD d i) oa3 oa2 cp3 cp2).cells 26), (B6, .cells (rowsV (rmD d i) oa3 oa2 cp3 cp2).cells 26), (B3, .cells (rowsV d sa sb ca cb).cells 26)] ++ (X3 ++ X2)) w := hh
     exact ⟨⟨B6, 0, _, 26, (0, 0), rfl, hh.at (i := 1) rfl, .inr ⟨5, _, Tryd.ag_26, rfl, rfl⟩⟩, rfl, trivial⟩
   exact ⟨oa3, oa2, cp3, cp2, rfl, mkAt_of hO3 fun x hx => hh.get x (by simp [hx]), mkAt_of hO2 fun x hx => hh.get x (by simp [hx]), hh.ext⟩
/-- Rows before a pair. -/
def cutD (d : RowsD) (i k : Nat) : RowsD := ⟨d.l.take i, d.r.take k, d.lo, d.hi, d.hid⟩
theorem c28b (d : RowsD) (sa sb : Option Addr) (ca cb : Nat) (u : World) (hA : MkAt u sa d.l) (hB : MkAt u sb d.r) (hV : Valid d) (i : Nat) (hi : i < d.l.length) (k : Nat) (hk : k < d.r.length) : Calls Tryd.prog 28 #[rowsV d sa sb ca cb, .int .i64 i, .int .i64 k] u (Ret fun v w' => ∃ oa ob cpa cpb, v = .tuple #[rowsV (cutD d i k) oa ob cpa cpb, .bool true] ∧ MkAt w' oa (d.l.take i) ∧ MkAt w' ob (d.r.take k) ∧ Ext [] u w') := by
  refine calls_of Tryd.func28 rfl rfl (fun a hf => ?_)
  have hh := Hp.init u []
  have hnl := hV.nl; have hnr := hV.nr; have hh1 := hV.h1; have hh2 := hV.h2
  have hlt : ∀ (a : Option Addr) (c : Nat), Value.slice a (d.l.take i).length c = .slice a i c := fun a c => by rw [List.length_take, Nat.min_eq_left (by omega)]
  have hrt : ∀ (a : Option Addr) (c : Nat), Value.slice a (d.r.take k).length c = .slice a k c := fun a c => by rw [List.length_take, Nat.min_eq_left (by omega)]
  refine sy_sq ?_
  refine o_box hf hh ?_; clear hf hh a; intro B3 a w hf hh
  refine o_alloc hf hh Tryd.ze_26 ?_; clear hf hh a; intro B6 a w hf hh
  refine o_v hf hh (yv_assign rfl) ?_; clear hf a; intro a hf
  refine o_end ?_
  refine sy_sq ?_
  refine o_v hf hh (y_lds Tryd.ag_26 rfl) ?_; clear hf a; intro a hf
  refine o_alloc hf hh Tryd.ze_26 ?_; clear hf hh a; intro B8 a w hf hh
  refine o_store hf hh Tryd.sz_26 fun w hh => ?_
  refine o_end ?_
  refine sy_cut (σ := Option Addr × Option Addr × Nat × Nat × List (Nat × Obj) × List (Nat × Obj)) [10, 11, 12, 13, 14, 15, 16, 17, 18, 19] (fun q => []) (fun q => fun w' => OwnSl 53 4 (.slice q.1 d.l.length q.2.2.1) d.l.length (encM d.l) q.2.2.2.2.1 ∧ OwnSl 53 4 (.slice q.2.1 d.r.length q.2.2.2.1) d.r.length (encM d.r) q.2.2.2.2.2 ∧ Hp u [] ([(B8, .cells (rowsV d q.1 q.2.1 q.2.2.1 q.2.2.2.1).cells 26), (B6, .cells #[.slice none 0 0, .slice none 0 0, .int .i64 0, .int .i64 0, .int .i64 0] 26), (B3, .cells (rowsV d sa sb ca cb).cells 26)] ++ (q.2.2.2.2.1 ++ q.2.2.2.2.2)) w') hf ?_ ?_
  ·refine sy_treeC (.p 1 (.q 0 2 (.p 5 (.q 0 6 (.e2 0 (.e2 3 (.p 8 (.e1 4 (.e1 7 (.e1 9 (.p 10 (.e1 11 (.fin))))))) 4 (.e1 3 (.p 8 (.e1 7 (.e1 9 (.p 10 (.e1 11 (.fin)))))))) 4 (.e1 0 (.e1 3 (.p 8 (.e1 7 (.e1 9 (.p 10 (.e1 11 (.fin))))))))))))) [[]] [(AtE u [] [(B3, .cells (rowsV d sa sb ca cb).cells 26)], [])] Tryd.follows (by kernel_rfl) rfl hh (fun w hh => ?_)
   refine mc_p rfl   hf (yv_fieldAddr Tryd.fo_26_0 rfl) (.inl rfl) rfl rfl ?_; clear hf a; intro a hf
   refine mc_q rfl rfl (AtE.mk1 hh.ext (hh.get (B3, .cells (rowsV d sa sb ca cb).cells 26) (by simp))) hf (y_ld Tryd.sc_22 rfl) (.inl rfl) rfl rfl ?_; clear hf a; intro a hf
   refine mc_p rfl   hf (yv_fieldAddr Tryd.fo_26_1 rfl) (.inl rfl) rfl rfl ?_; clear hf a; intro a hf
   refine mc_q rfl rfl (AtE.mk1 hh.ext (hh.get (B3, .cells (rowsV d sa sb ca cb).cells 26) (by simp))) hf (y_ld Tryd.sc_22 rfl) (.inl rfl) rfl rfl ?_; clear hf a; intro a hf
   refine ⟨?_, ?_⟩
   ·refine mc_e rfl fun Q1 => ?_
    refine ops_buildSl hf hh Tryd.bl_22_0 rfl rfl (.inl rfl) rfl ?_; clear hf hh; clear a; intro B10 a w hf hh
    refine ops_end ?_
    refine then_n ⟨⟨fun _ _ => (AtE.mk1 hh.ext (hh.get (B3, .cells (rowsV d sa sb ca cb).cells 26) (by simp))), trivial⟩, ?_⟩
    refine ⟨?_, ?_⟩
    ·refine mc_e rfl fun Q1 => ?_
     first | (refine ops_appendM (A := []) (B := d.l) (X := [(B10, .cells #[] 53)]) (m := 0) hf hh Tryd.eb_22 rfl rfl ⟨rfl, .inr ⟨B10, 0, #[], rfl, rfl, Nat.le_refl _, Nat.zero_le _, rfl, rfl⟩⟩ (hA.ext hh.ext) (by simp only [maxLen]; omega) (by omega) (.inl rfl) rfl ?_) | (refine ops_appendM (A := []) (B := d.l) (X := [(B10, .cells #[] 53)]) (m := 0) hf (hh.perm (.swap _ _ _)) Tryd.eb_22 rfl rfl ⟨rfl, .inr ⟨B10, 0, #[], rfl, rfl, Nat.le_refl _, Nat.zero_le _, rfl, rfl⟩⟩ (hA.ext hh.ext) (by simp only [maxLen]; omega) (by omega) (.inl rfl) rfl ?_) | (refine ops_appendM (A := []) (B := d.l) (X := [(B10, .cells #[] 53)]) (m := 0) hf (hh.perm List.perm_middle) Tryd.eb_22 rfl rfl ⟨rfl, .inr ⟨B10, 0, #[], rfl, rfl, Nat.le_refl _, Nat.zero_le _, rfl, rfl⟩⟩ (hA.ext hh.ext) (by simp only [maxLen]; omega) (by omega) (.inl rfl) rfl ?_)
     clear hf hh; clear a
     intro v1 X1 a w hO1 hf hh
     rw [Nat.zero_add, List.nil_append] at hO1
     obtain ⟨oa1, cp1, rfl⟩ := OwnSl_val hO1
     have hcp1 := ownSl_capM hO1
     refine ops_end ?_
     refine then_n ⟨⟨fun _ _ => (AtE.mk1 hh.ext (hh.get (B3, .cells (rowsV d sa sb ca cb).cells 26) (by simp))), trivial⟩, ?_⟩
     refine mc_p rfl   hf (yv_fieldAddr Tryd.fo_26_0 rfl) (.inl rfl) rfl rfl ?_; clear hf a; intro a hf
     refine mc_e rfl fun Q1 => ?_
     refine ops_buildSl hf hh Tryd.bl_22_0 rfl rfl (.inl rfl) rfl ?_; clear hf hh; clear a; intro B14 a w hf hh
     refine ops_end ?_
     refine then_n ⟨⟨fun _ _ => (AtE.mk1 hh.ext (hh.get (B3, .cells (rowsV d sa sb ca cb).cells 26) (by simp))), trivial⟩, ?_⟩
     refine mc_e rfl fun Q1 => ?_
     first | (refine ops_appendM (A := []) (B := d.r) (X := [(B14, .cells #[] 53)]) (m := 0) hf hh Tryd.eb_22 rfl rfl ⟨rfl, .inr ⟨B14, 0, #[], rfl, rfl, Nat.le_refl _, Nat.zero_le _, rfl, rfl⟩⟩ (hB.ext hh.ext) (by simp only [maxLen]; omega) (by omega) (.inl rfl) rfl ?_) | (refine ops_appendM (A := []) (B := d.r) (X := [(B14, .cells #[] 53)]) (m := 0) hf (hh.perm (.swap _ _ _)) Tryd.eb_22 rfl rfl ⟨rfl, .inr ⟨B14, 0, #[], rfl, rfl, Nat.le_refl _, Nat.zero_le _, rfl, rfl⟩⟩ (hB.ext hh.ext) (by simp only [maxLen]; omega) (by omega) (.inl rfl) rfl ?_) | (refine ops_appendM (A := []) (B := d.r) (X := [(B14, .cells #[] 53)]) (m := 0) hf (hh.perm List.perm_middle) Tryd.eb_22 rfl rfl ⟨rfl, .inr ⟨B14, 0, #[], rfl, rfl, Nat.le_refl _, Nat.zero_le _, rfl, rfl⟩⟩ (hB.ext hh.ext) (by simp only [maxLen]; omega) (by omega) (.inl rfl) rfl ?_)
     clear hf hh; clear a
     intro v2 X2 a w hO2 hf hh
     rw [Nat.zero_add, List.nil_append] at hO2
     obtain ⟨oa2, cp2, rfl⟩ := OwnSl_val hO2
     have hcp2 := ownSl_capM hO2
     replace hh : Hp u [] ([(B8, .cells (rowsV d sa sb ca cb).cells 26), (B6, .cells #[.slice none 0 0, .slice none 0 0, .int .i64 0, .int .i64 0, .int .i64 0] 26), (B3, .cells (rowsV d sa sb ca cb).cells 26)] ++ (X1 ++ X2)) w := hh.perm perm_two
     refine ops_end ?_
     refine then_n ⟨⟨fun _ _ => (AtE.mk1 hh.ext (hh.get (B3, .cells (rowsV d sa sb ca cb).cells 26) (by simp))), trivial⟩, ?_⟩
     refine mc_e rfl fun Q1 => ?_
     refine o_store hf hh Tryd.sz_22 fun w hh => ?_
     refine ops_end ?_
     refine then_n ⟨⟨fun _ _ => (AtE.mk1 hh.ext (hh.get (B3, .cells (rowsV d sa sb ca cb).cells 26) (by simp))), trivial⟩, ?_⟩
     refine mc_p rfl   hf (yv_fieldAddr Tryd.fo_26_1 rfl) (.inl rfl) rfl rfl ?_; clear hf a; intro a hf
     refine mc_e rfl fun Q1 => ?_
     refine o_store hf hh Tryd.sz_22 fun w hh => ?_
     refine ops_end ?_
     refine then_n ⟨⟨fun _ _ => (AtE.mk1 hh.ext (hh.get (B3, .cells (rowsV d sa sb ca cb).cells 26) (by simp))), trivial⟩, ?_⟩
     refine mc_end ?_
     refine then_n ?_
     exact ⟨(oa1, oa2, cp1, cp2, X1, X2), ⟨hO1, hO2, hh⟩, hf.head True.intro (Keep.cons rfl (Keep.cons rfl (Keep.cons rfl (Keep.cons rfl (Keep.cons rfl (Keep.cons rfl (Keep.cons rfl (Keep.cons rfl (Keep.cons rfl (Keep.cons rfl (Keep.base)))))))))))⟩
    ·refine mc_e rfl fun Q1 => ?_
     refine ops_buildSl hf hh Tryd.bl_22_0 rfl rfl (.inl rfl) rfl ?_; clear hf hh; clear a; intro B14 a w hf hh
     refine ops_end ?_
     refine then_n ⟨⟨fun _ _ => (AtE.mk1 hh.ext (hh.get (B3, .cells (rowsV d sa sb ca cb).cells 26) (by simp))), trivial⟩, ?_⟩
     refine mc_e rfl fun Q1 => ?_
     first | (refine ops_appendM (A := []) (B := d.l) (X := [(B10, .cells #[] 53)]) (m := 0) hf hh Tryd.eb_22 rfl rfl ⟨rfl, .inr ⟨B10, 0, #[], rfl, rfl, Nat.le_refl _, Nat.zero_le _, rfl, rfl⟩⟩ (hA.ext hh.ext) (by simp only [maxLen]; omega) (by omega) (.inl rfl) rfl ?_) | (refine ops_appendM (A := []) (B := d.l) (X := [(B10, .cells #[] 53)]) (m := 0) hf (hh.perm (.swap _ _ _)) Tryd.eb_22 rfl rfl ⟨rfl, .inr ⟨B10, 0, #[], rfl, rfl, Nat.le_refl _, Nat.zero_le _, rfl, rfl⟩⟩ (hA.ext hh.ext) (by simp only [maxLen]; omega) (by omega) (.inl rfl) rfl ?_) | (refine ops_appendM (A := []) (B := d.l) (X := [(B10, .cells #[] 53)]) (m := 0) hf (hh.perm List.perm_middle) Tryd.eb_22 rfl rfl ⟨rfl, .inr ⟨B10, 0, #[], rfl, rfl, Nat.le_refl _, Nat.zero_le _, rfl, rfl⟩⟩ (hA.ext hh.ext) (by simp only [maxLen]; omega) (by omega) (.inl rfl) rfl ?_)
     clear hf hh; clear a
     intro v1 X1 a w hO1 hf hh
     rw [Nat.zero_add, List.nil_append] at hO1
     obtain ⟨oa1, cp1, rfl⟩ := OwnSl_val hO1
     have hcp1 := ownSl_capM hO1
     refine ops_end ?_
     refine then_n ⟨⟨fun _ _ => (AtE.mk1 hh.ext (hh.get (B3, .cells (rowsV d sa sb ca cb).cells 26) (by simp))), trivial⟩, ?_⟩
     refine mc_p rfl   hf (yv_fieldAddr Tryd.fo_26_0 rfl) (.inl rfl) rfl rfl ?_; clear hf a; intro a hf
     refine mc_e rfl fun Q1 => ?_
     first | (refine ops_appendM (A := []) (B := d.r) (X := [(B14, .cells #[] 53)]) (m := 0) hf hh Tryd.eb_22 rfl rfl ⟨rfl, .inr ⟨B14, 0, #[], rfl, rfl, Nat.le_refl _, Nat.zero_le _, rfl, rfl⟩⟩ (hB.ext hh.ext) (by simp only [maxLen]; omega) (by omega) (.inl rfl) rfl ?_) | (refine ops_appendM (A := []) (B := d.r) (X := [(B14, .cells #[] 53)]) (m := 0) hf (hh.perm (.swap _ _ _)) Tryd.eb_22 rfl rfl ⟨rfl, .inr ⟨B14, 0, #[], rfl, rfl, Nat.le_refl _, Nat.zero_le _, rfl, rfl⟩⟩ (hB.ext hh.ext) (by simp only [maxLen]; omega) (by omega) (.inl rfl) rfl ?_) | (refine ops_appendM (A := []) (B := d.r) (X := [(B14, .cells #[] 53)]) (m := 0) hf (hh.perm List.perm_middle) Tryd.eb_22 rfl rfl ⟨rfl, .inr ⟨B14, 0, #[], rfl, rfl, Nat.le_refl _, Nat.zero_le _, rfl, rfl⟩⟩ (hB.ext hh.ext) (by simp only [maxLen]; omega) (by omega) (.inl rfl) rfl ?_)
     clear hf hh; clear a
     intro v2 X2 a w hO2 hf hh
     rw [Nat.zero_add, List.nil_append] at hO2
     obtain ⟨oa2, cp2, rfl⟩ := OwnSl_val hO2
     have hcp2 := ownSl_capM hO2
     replace hh : Hp u [] ([(B8, .cells (rowsV d sa sb ca cb).cells 26), (B6, .cells #[.slice none 0 0, .slice none 0 0, .int .i64 0, .int .i64 0, .int .i64 0] 26), (B3, .cells (rowsV d sa sb ca cb).cells 26)] ++ (X1 ++ X2)) w := hh.perm perm_two
     refine ops_end ?_
     refine then_n ⟨⟨fun _ _ => (AtE.mk1 hh.ext (hh.get (B3, .cells (rowsV d sa sb ca cb).cells 26) (by simp))), trivial⟩, ?_⟩
     refine mc_e rfl fun Q1 => ?_
     refine o_store hf hh Tryd.sz_22 fun w hh => ?_
     refine ops_end ?_
     refine then_n ⟨⟨fun _ _ => (AtE.mk1 hh.ext (hh.get (B3, .cells (rowsV d sa sb ca cb).cells 26) (by simp))), trivial⟩, ?_⟩
     refine mc_p rfl   hf (yv_fieldAddr Tryd.fo_26_1 rfl) (.inl rfl) rfl rfl ?_; clear hf a; intro a hf
     refine mc_e rfl fun Q1 => ?_
     refine o_store hf hh Tryd.sz_22 fun w hh => ?_
     refine ops_end ?_
     refine then_n ⟨⟨fun _ _ => (AtE.mk1 hh.ext (hh.get (B3, .cells (rowsV d sa sb ca cb).cells 26) (by simp))), trivial⟩, ?_⟩
     refine mc_end ?_
     refine then_n ?_
     exact ⟨(oa1, oa2, cp1, cp2, X1, X2), ⟨hO1, hO2, hh⟩, hf.head True.intro (Keep.cons rfl (Keep.cons rfl (Keep.cons rfl (Keep.cons rfl (Keep.cons rfl (Keep.cons rfl (Keep.cons rfl (Keep.cons rfl (Keep.cons rfl (Keep.cons rfl (Keep.base)))))))))))⟩
   ·refine mc_e rfl fun Q1 => ?_
    refine ops_buildSl hf hh Tryd.bl_22_0 rfl rfl (.inl rfl) rfl ?_; clear hf hh; clear a; intro B14 a w hf hh
    refine ops_end ?_
    refine then_n ⟨⟨fun _ _ => (AtE.mk1 hh.ext (hh.get (B3, .cells (rowsV d sa sb ca cb).cells 26) (by simp))), trivial⟩, ?_⟩
    refine mc_e rfl fun Q1 => ?_
    refine ops_buildSl hf hh Tryd.bl_22_0 rfl rfl (.inl rfl) rfl ?_; clear hf hh; clear a; intro B10 a w hf hh
    refine ops_end ?_
    refine then_n ⟨⟨fun _ _ => (AtE.mk1 hh.ext (hh.get (B3, .cells (rowsV d sa sb ca cb).cells 26) (by simp))), trivial⟩, ?_⟩
    refine mc_e rfl fun Q1 => ?_
    first | (refine ops_appendM (A := []) (B := d.l) (X := [(B10, .cells #[] 53)]) (m := 0) hf hh Tryd.eb_22 rfl rfl ⟨rfl, .inr ⟨B10, 0, #[], rfl, rfl, Nat.le_refl _, Nat.zero_le _, rfl, rfl⟩⟩ (hA.ext hh.ext) (by simp only [maxLen]; omega) (by omega) (.inl rfl) rfl ?_) | (refine ops_appendM (A := []) (B := d.l) (X := [(B10, .cells #[] 53)]) (m := 0) hf (hh.perm (.swap _ _ _)) Tryd.eb_22 rfl rfl ⟨rfl, .inr ⟨B10, 0, #[], rfl, rfl, Nat.le_refl _, Nat.zero_le _, rfl, rfl⟩⟩ (hA.ext hh.ext) (by simp only [maxLen]; omega) (by omega) (.inl rfl) rfl ?_) | (refine ops_appendM (A := []) (B := d.l) (X := [(B10, .cells #[] 53)]) (m := 0) hf (hh.perm List.perm_middle) Tryd.eb_22 rfl rfl ⟨rfl, .inr ⟨B10, 0, #[], rfl, rfl, Nat.le_refl _, Nat.zero_le _, rfl, rfl⟩⟩ (hA.ext hh.ext) (by simp only [maxLen]; omega) (by omega) (.inl rfl) rfl ?_)
    clear hf hh; clear a
    intro v1 X1 a w hO1 hf hh
    rw [Nat.zero_add, List.nil_append] at hO1
    obtain ⟨oa1, cp1, rfl⟩ := OwnSl_val hO1
    have hcp1 := ownSl_capM hO1
    refine ops_end ?_
    refine then_n ⟨⟨fun _ _ => (AtE.mk1 hh.ext (hh.get (B3, .cells (rowsV d sa sb ca cb).cells 26) (by simp))), trivial⟩, ?_⟩
    refine mc_p rfl   hf (yv_fieldAddr Tryd.fo_26_0 rfl) (.inl rfl) rfl rfl ?_; clear hf a; intro a hf
    refine mc_e rfl fun Q1 => ?_
    first | (refine ops_appendM (A := []) (B := d.r) (X := [(B14, .cells #[] 53)]) (m := 0) hf hh Tryd.eb_22 rfl rfl ⟨rfl, .inr ⟨B14, 0, #[], rfl, rfl, Nat.le_refl _, Nat.zero_le _, rfl, rfl⟩⟩ (hB.ext hh.ext) (by simp only [maxLen]; omega) (by omega) (.inl rfl) rfl ?_) | (refine ops_appendM (A := []) (B := d.r) (X := [(B14, .cells #[] 53)]) (m := 0) hf (hh.perm (.swap _ _ _)) Tryd.eb_22 rfl rfl ⟨rfl, .inr ⟨B14, 0, #[], rfl, rfl, Nat.le_refl _, Nat.zero_le _, rfl, rfl⟩⟩ (hB.ext hh.ext) (by simp only [maxLen]; omega) (by omega) (.inl rfl) rfl ?_) | (refine ops_appendM (A := []) (B := d.r) (X := [(B14, .cells #[] 53)]) (m := 0) hf (hh.perm List.perm_middle) Tryd.eb_22 rfl rfl ⟨rfl, .inr ⟨B14, 0, #[], rfl, rfl, Nat.le_refl _, Nat.zero_le _, rfl, rfl⟩⟩ (hB.ext hh.ext) (by simp only [maxLen]; omega) (by omega) (.inl rfl) rfl ?_)
    clear hf hh; clear a
    intro v2 X2 a w hO2 hf hh
    rw [Nat.zero_add, List.nil_append] at hO2
    obtain ⟨oa2, cp2, rfl⟩ := OwnSl_val hO2
    have hcp2 := ownSl_capM hO2
    replace hh : Hp u [] ([(B8, .cells (rowsV d sa sb ca cb).cells 26), (B6, .cells #[.slice none 0 0, .slice none 0 0, .int .i64 0, .int .i64 0, .int .i64 0] 26), (B3, .cells (rowsV d sa sb ca cb).cells 26)] ++ (X1 ++ X2)) w := hh.perm perm_two
    refine ops_end ?_
    refine then_n ⟨⟨fun _ _ => (AtE.mk1 hh.ext (hh.get (B3, .cells (rowsV d sa sb ca cb).cells 26) (by simp))), trivial⟩, ?_⟩
    refine mc_e rfl fun Q1 => ?_
    refine o_store hf hh Tryd.sz_22 fun w hh => ?_
    refine ops_end ?_
    refine then_n ⟨⟨fun _ _ => (AtE.mk1 hh.ext (hh.get (B3, .cells (rowsV d sa sb ca cb).cells 26) (by simp))), trivial⟩, ?_⟩
    refine mc_p rfl   hf (yv_fieldAddr Tryd.fo_26_1 rfl) (.inl rfl) rfl rfl ?_; clear hf a; intro a hf
    refine mc_e rfl fun Q1 => ?_
    refine o_store hf hh Tryd.sz_22 fun w hh => ?_
    refine ops_end ?_
    refine then_n ⟨⟨fun _ _ => (AtE.mk1 hh.ext (hh.get (B3, .cells (rowsV d sa sb ca cb).cells 26) (by simp))), trivial⟩, ?_⟩
    refine mc_end ?_
    refine then_n ?_
    exact ⟨(oa1, oa2, cp1, cp2, X1, X2), ⟨hO1, hO2, hh⟩, hf.head True.intro (Keep.cons rfl (Keep.cons rfl (Keep.cons rfl (Keep.cons rfl (Keep.cons rfl (Keep.cons rfl (Keep.cons rfl (Keep.cons rfl (Keep.cons rfl (Keep.cons rfl (Keep.base)))))))))))⟩
  ·rintro q a w ⟨hO1, hO2, hh⟩ hf
   obtain ⟨oa1, oa2, cp1, cp2, X1, X2⟩ := q
   simp only at hO1 hO2 hh hf
   have hcp1 := ownSl_capM hO1
   have hcp2 := ownSl_capM hO2
   refine sy_seq ?_
   refine sy_sq ?_
   refine o_v hf hh (yv_move rfl) ?_; clear hf a; intro a hf
   refine o_v hf hh (yv_bin rfl rfl rfl) ?_; clear hf a; intro a hf
   refine o_end ?_
   refine c_f hf ?_
   refine sy_skip ?_
   refine then_n ?_
   refine sy_seq ?_
   refine sy_tree1 (.p 0 (.q 0 1 (.p 2 (.p 3 (.p 4 (.q 0 5 (.p 6 (.p 7 (.p 8 (.e1 9 (.p 10 (.e1 11 (.fin))))))))))))) [9, 11] Tryd.follows (by kernel_rfl) hh (fun w hh => ?_)
   refine mc_p rfl   hf (yv_fieldAddr Tryd.fo_26_0 rfl) (.inl rfl) rfl rfl ?_; clear hf a; intro a hf
   refine mc_q rfl rfl hh hf (y_ld Tryd.sc_22 rfl) (.inl rfl) rfl rfl ?_; clear hf a; intro a hf
   refine mc_p rfl   hf (yv_move rfl) (.inl rfl) rfl rfl ?_; clear hf a; intro a hf
   refine mc_p rfl   hf (yv_cutHi (m := i) Tryd.se_22 rfl rfl (by omega)) (.inl rfl) rfl rfl ?_; clear hf a; intro a hf
   refine mc_p rfl   hf (yv_fieldAddr Tryd.fo_26_1 rfl) (.inl rfl) rfl rfl ?_; clear hf a; intro a hf
   refine mc_q rfl rfl hh hf (y_ld Tryd.sc_22 rfl) (.inl rfl) rfl rfl ?_; clear hf a; intro a hf
   refine mc_p rfl   hf (yv_move rfl) (.inl rfl) rfl rfl ?_; clear hf a; intro a hf
   refine mc_p rfl   hf (yv_cutHi (m := k) Tryd.se_22 rfl rfl (by omega)) (.inl rfl) rfl rfl ?_; clear hf a; intro a hf
   refine mc_p rfl   hf (yv_fieldAddr Tryd.fo_26_0 rfl) (.inl rfl) rfl rfl ?_; clear hf a; intro a hf
   refine mc_e rfl fun Q1 => ?_
   refine o_store hf hh Tryd.sz_22 fun w hh => ?_
   refine ops_end ?_
   refine then_n ⟨⟨fun h => Bool.noConfusion (show true = false from h), trivial⟩, ?_⟩
   refine mc_p rfl   hf (yv_fieldAddr Tryd.fo_26_1 rfl) (.inl rfl) rfl rfl ?_; clear hf a; intro a hf
   refine mc_e rfl fun Q1 => ?_
   refine o_store hf hh Tryd.sz_22 fun w hh => ?_
   refine ops_end ?_
   refine then_n ⟨⟨fun h => Bool.noConfusion (show true = false from h), trivial⟩, ?_⟩
   refine mc_end ?_
   refine then_n ?_
   refine sy_seq ?_
   replace hh : Hp u [] ([(B8, .cells (rowsV (cutD d i k) oa1 oa2 cp1 cp2).cells 26), (B6, .cells #[.slice none 0 0, .slice none 0 0, .int .i64 0, .int .i64 0, .int .i64 0] 26), (B3, .cells (rowsV d sa sb ca cb).cells 26)] ++ (X1 ++ X2)) w := by
     rw [show (rowsV (cutD d i k) oa1 oa2 cp1 cp2).cells = #[.slice oa1 i cp1, .slice oa2 k cp2, .int .i64 d.lo, .int .i64 d.hi, .int .i64 d.hid] from by rw [← hlt, ← hrt]; rfl]
     exact hh
   refine sy_ops ?_
   refine o_v hf hh (y_lds Tryd.ag_26 rfl) ?_; clear hf a; intro a hf
   refine o_store hf hh Tryd.sz_26 fun w hh => ?_
   refine o_v hf hh (yv_assign rfl) ?_; clear hf a; intro a hf
   refine o_end ?_
   refine sy_ret ?_
   refine ret_c (vs := [rowsV (cutD d i k) oa1 oa2 cp1 cp2, .bool true]) hf ?_ ?_
   · replace hh : Hp u [] ([(B8, .cells (rowsV (cutD d i k) oa1 oa2 cp1 cp2).cells 26), (B6, .cells (rowsV (cutD d i k) oa1 oa2 cp1 cp2).cells 26), (B3, .cells (rowsV d sa sb ca cb).cells 26)] ++ (X1 ++ X2)) w := hh
     exact ⟨⟨B6, 0, _, 26, (0, 0), rfl, hh.at (i := 1) rfl, .inr ⟨5, _, Tryd.ag_26, rfl, rfl⟩⟩, rfl, trivial⟩
   exact ⟨oa1, oa2, cp1, cp2, rfl, mkAt_take (mkAt_of hO1 fun x hx => hh.get x (by simp [hx])) i, mkAt_take (mkAt_of hO2 fun x hx => hh.get x (by simp [hx])) k, hh.ext⟩
end Go.Proofs.YtemmhdgaagaglaaDoor
namespace Go.MatM
open Go Go.Sy Go.Proofs
theorem chs_len {F : Nat → Nat → Bool} {L R i k : Nat} (hL : L ≤ 10) (hR : R ≤ 10) : (chs F L R i k).length ≤ 1048576 := by
  have h := cnt_le (F := F) (i := i) (k := k) (n := 0) hL hR
  unfold cnt at h
  rw [List.countP_eq_length.2 (fun c _ => by simp)] at h
  exact h
theorem hidN_bd {d : RowsD} (hV : Valid d) (i : Nat) : 0 ≤ hidN d i ∧ hidN d i ≤ countV d := by
  unfold hidN countV
  rw [(okRows_iff d).2 hV, if_pos rfl, wH_eq]
  refine ⟨Int.natCast_nonneg _, Int.ofNat_le.2 ?_⟩
  rw [cnt_parts (i := i)]
  exact Nat.le_add_right _ _
theorem count_bd {d : RowsD} (hV : Valid d) : 0 ≤ countV d ∧ countV d ≤ 1048576 := by
  unfold countV
  rw [(okRows_iff d).2 hV, if_pos rfl]
  exact ⟨Int.natCast_nonneg _, by have := cnt_le (F := fitD d) (i := 0) (k := 0) (n := need d) hV.nl hV.nr; omega⟩
theorem wP_le {F : Nat → Nat → Bool} {L R i k n : Nat} : wP F L R i k n ≤ cnt F L R 0 0 n := by
  unfold wP cnt
  refine List.countP_mono_left fun c _ h => ?_
  simp only [Bool.and_eq_true] at h
  exact h.1
theorem pairN_bd {d : RowsD} (hV : Valid d) (i k : Nat) : 0 ≤ pairN d i k ∧ pairN d i k ≤ countV d := by
  rw [pairN_eq]
  unfold countV
  rw [(okRows_iff d).2 hV, if_pos rfl]
  exact ⟨Int.natCast_nonneg _, Int.ofNat_le.2 wP_le⟩
theorem worst_bd {d : RowsD} (hV : Valid d) (i : Nat) : ∀ m, 0 ≤ worstN d i m ∧ worstN d i m ≤ countV d
  | 0 => hidN_bd hV i
  | m + 1 => by
    have h1 := worst_bd hV i m
    have h2 := pairN_bd hV i m
    unfold pairN at h2
    rw [worstN]
    omega
theorem sum_worst {d : RowsD} (i : Nat) : ∀ m, worstN d i m = 0 → 0 ≤ hidN d i → (∀ k, 0 ≤ pairN d i k) → sumN d i m = 0
  | 0, h, _, _ => h
  | m + 1, h, h0, hp => by
    have hm := hp m
    rw [worstN] at h
    unfold pairN at hm
    have hw : 0 ≤ worstN d i m := by
      clear h hm
      induction m with
      | zero => exact h0
      | succ m ih => rw [worstN]; omega
    have ih := sum_worst i m (by omega) h0 hp
    rw [sumN, ih]
    unfold pairN
    omega
theorem worst_pos {d : RowsD} (hV : Valid d) (h : 0 < countV d) (i : Nat) : 1 ≤ worstN d i d.r.length := by
  have h1 := (worst_bd hV i d.r.length).1
  by_cases h0 : worstN d i d.r.length = 0
  · have := sum_worst i _ h0 (hidN_bd hV i).1 fun k => (pairN_bd hV i k).1
    rw [sumN_all hV] at this; omega
  · omega
/-- What is looked at, mark by mark: none to begin with. -/
def nW (d : RowsD) (i : Nat) : Nat → Int
  | 0 => 0
  | k + 1 => worstN d i k
def sW (d : RowsD) (i : Nat) : Nat → Int
  | 0 => 0
  | k + 1 => sumN d i k
def oW (d : RowsD) (i : Nat) : Nat → Int
  | 0 => hidN d i
  | k + 1 => pairN d i k
theorem nW_step {d : RowsD} (hV : Valid d) (i k : Nat) : nW d i (k + 1) = max (nW d i k) (oW d i k) := by
  match k with
  | 0 => have := (hidN_bd hV i).1; show hidN d i = max 0 (hidN d i); omega
  | k + 1 => rfl
theorem sW_step (d : RowsD) (i k : Nat) : sW d i (k + 1) = sW d i k + oW d i k := by
  match k with
  | 0 => show hidN d i = 0 + hidN d i; omega
  | k + 1 => rfl
theorem oW_bd {d : RowsD} (hV : Valid d) (i k : Nat) : 0 ≤ oW d i k ∧ oW d i k ≤ 1048576 := by
  have hc := count_bd hV
  match k with
  | 0 => have := hidN_bd hV i; show 0 ≤ hidN d i ∧ hidN d i ≤ _; omega
  | k + 1 => have := pairN_bd hV i k; show 0 ≤ pairN d i k ∧ pairN d i k ≤ _; omega
theorem sW_bd {d : RowsD} (hV : Valid d) (i : Nat) : ∀ k : Nat, 0 ≤ sW d i k ∧ sW d i k ≤ 1048576 * (k : Int)
  | 0 => by show (0 : Int) ≤ 0 ∧ (0 : Int) ≤ _; omega
  | k + 1 => by have h1 := sW_bd hV i k; have h2 := oW_bd hV i k; rw [sW_step]; omega
theorem nW_bd {d : RowsD} (hV : Valid d) (i k : Nat) : 0 ≤ nW d i k ∧ nW d i k ≤ 1048576 := by
  have hc := count_bd hV
  match k with
  | 0 => show (0 : Int) ≤ 0 ∧ (0 : Int) ≤ _; omega
  | k + 1 => have := worst_bd hV i k; show 0 ≤ worstN d i k ∧ worstN d i k ≤ _; omega
theorem prodS_bd {d : RowsD} (hV : Valid d) (i k : Nat) (hi : i < d.l.length) (hk : k < d.r.length) : ∀ m : Nat, 0 ≤ prodS d i k m ∧ prodS d i k m ≤ 1099511627776 * (m : Int)
  | 0 => by show (0 : Int) ≤ 0 ∧ (0 : Int) ≤ _; omega
  | m + 1 => by
    have ih := prodS_bd hV i k hi hk m
    have e : prodS d i k (m + 1) = prodS d i k m + (((chs (fitD d) i k 0 0).countP (fun c => decide (hidC i k c = m)) * atM (fitD d) d.l.length d.r.length (i + 1) (k + 1) (d.hid.toNat - m) : Nat) : Int) := by
      unfold prodS
      rw [List.range_succ, List.map_append, List.sum_append, Int.natCast_add]
      simp
    have h1 : (chs (fitD d) i k 0 0).countP (fun c => decide (hidC i k c = m)) ≤ 1048576 := Nat.le_trans List.countP_le_length (chs_len (by have := hV.nl; omega) (by have := hV.nr; omega))
    have h2 : atM (fitD d) d.l.length d.r.length (i + 1) (k + 1) (d.hid.toNat - m) ≤ 1048576 := Nat.le_trans List.countP_le_length (chs_len hV.nl hV.nr)
    have h3 := Nat.mul_le_mul h1 h2
    rw [e]
    omega
/-- What is asked about. -/
theorem ask_inv {d : RowsD} : ∀ n : Nat, (∀ j, j < n → (askN d n).2 ≤ worstN d j d.r.length ∧ (worstN d j d.r.length = (askN d n).2 → (askN d n).1 ≤ (j : Int))) ∧
    (askN d n = (0, ((cnt (fitD d) d.l.length d.r.length 0 0 (need d) : Nat) : Int) + 1) ∨ ∃ l : Nat, l < n ∧ askN d n = ((l : Int), worstN d l d.r.length))
  | 0 => ⟨fun j hj => absurd hj (Nat.not_lt_zero j), .inl rfl⟩
  | n + 1 => by
    obtain ⟨h1, h2⟩ := ask_inv (d := d) n
    rw [askN]
    by_cases h : worstN d n d.r.length < (askN d n).2
    · rw [if_pos h]
      refine ⟨fun j hj => ?_, .inr ⟨n, by omega, rfl⟩⟩
      simp only
      by_cases e : j = n
      · subst e; exact ⟨Int.le_refl _, fun _ => Int.le_refl _⟩
      · have := (h1 j (by omega)).1
        exact ⟨by omega, fun e2 => by omega⟩
    · rw [if_neg h]
      refine ⟨fun j hj => ?_, ?_⟩
      · by_cases e : j = n
        · subst e
          refine ⟨by omega, fun e2 => ?_⟩
          rcases h2 with h2 | ⟨l, hl, h2⟩
          · rw [h2]; exact Int.natCast_nonneg _
          · rw [h2]; simp only; omega
        · exact h1 j (by omega)
      · rcases h2 with h2 | ⟨l, hl, h2⟩
        · exact .inl h2
        · exact .inr ⟨l, by omega, h2⟩
theorem count_one {d : RowsD} (hV : Valid d) (h : d.l.length = 0) : countV d ≤ 1 := by
  unfold countV
  rw [(okRows_iff d).2 hV, if_pos rfl]
  unfold cnt
  rw [chs_one (.inl (by omega))]
  exact Int.ofNat_le.2 List.countP_le_length
theorem ask_few {d : RowsD} (hV : Valid d) (h : countV d ≤ 1) : askE d = 4 ∧ askV d = (0, 0) := by
  have hop := op_count hV
  have hc := count_bd hV
  have he : askE d = 4 := by
    unfold askE
    by_cases h0 : opE d true = 0
    · have := hop.1 h0
      have e : countV d = ((cnt (fitD d) d.l.length d.r.length 0 0 (need d) : Nat) : Int) := by unfold countV; rw [(okRows_iff d).2 hV, if_pos rfl]
      rw [if_pos h0, if_pos (by omega)]
    · rw [if_neg h0]; exact (count_none ((okRows_iff d).2 hV) h0).1
  exact ⟨he, by unfold askV; rw [if_neg (by omega)]⟩
theorem ask_most {d : RowsD} (hV : Valid d) (h : 1 < countV d) : askE d = 0 ∧ 0 < d.l.length ∧ ∃ l : Nat, l < d.l.length ∧ askV d = ((l : Int), worstN d l d.r.length) ∧ 1 ≤ worstN d l d.r.length ∧ worstN d l d.r.length ≤ countV d ∧
    ∀ j, j < d.l.length → worstN d l d.r.length < worstN d j d.r.length ∨ worstN d j d.r.length = worstN d l d.r.length ∧ l ≤ j := by
  have hop := (op_count hV).2 (by omega)
  have e : countV d = ((cnt (fitD d) d.l.length d.r.length 0 0 (need d) : Nat) : Int) := by unfold countV; rw [(okRows_iff d).2 hV, if_pos rfl]
  have he : askE d = 0 := by unfold askE; rw [if_pos hop, if_neg (by omega)]
  have hl : 0 < d.l.length := by
    rcases Nat.eq_zero_or_pos d.l.length with h0 | h0
    · have := count_one hV h0; omega
    · exact h0
  refine ⟨he, hl, ?_⟩
  obtain ⟨h1, h2⟩ := ask_inv (d := d) d.l.length
  have hv : askV d = askN d d.l.length := by unfold askV; rw [if_pos he]
  rw [hv]
  rcases h2 with h2 | ⟨l, hll, h2⟩
  · have h3 := (h1 0 hl).1
    have h4 := (worst_bd hV 0 d.r.length).2
    rw [h2] at h3
    simp only at h3
    omega
  · rw [h2] at h1
    simp only at h1
    refine ⟨l, hll, h2, worst_pos hV (by omega) l, (worst_bd hV l _).2, fun j hj => ?_⟩
    obtain ⟨h5, h6⟩ := h1 j hj
    by_cases e3 : worstN d j d.r.length = worstN d l d.r.length
    · exact .inr ⟨e3, by have := h6 e3; omega⟩
    · exact .inl (by omega)
end Go.MatM
namespace Go.Proofs.YtemmhdgaagaglaaDoor
open Go Go.Sy Go.MatM
set_option maxRecDepth 100000 in
set_option maxHeartbeats 4000000 in
theorem c27 (d : RowsD) (sa sb : Option Addr) (ca cb : Nat) (u : World) (hA : MkAt u sa d.l) (hB : MkAt u sb d.r) (hV : Valid d) (hca : d.l.length ≤ ca) (hcb : d.r.length ≤ cb) (i : Nat) (hi : i < d.l.length) (br ba : Nat) (hbr : u.heap[br]? = some (.cells (rowsV d sa sb ca cb).cells 26 (0, 0))) (hba : u.heap[ba]? = some (.cells #[.int .i64 (countV d)] 3 (0, 0))) : Calls Tryd.prog 27 #[.int .i64 i, ptr br 0, ptr ba 0] u (Ret fun v w' => v = .int .i64 (worstN d i d.r.length) ∧ Ext [] u w') := by
  refine calls_of Tryd.func27 rfl rfl (fun a hf => ?_)
  have hh := Hp.init u []
  have hnl := hV.nl; have hnr := hV.nr; have hh1 := hV.h1; have hh2 := hV.h2
  refine sy_sq ?_
  refine o_v hf hh (yv_assign rfl) ?_; clear hf a; intro a hf
  refine o_end ?_
  refine sy_sq ?_
  refine o_v hf hh (yv_assign rfl) ?_; clear hf a; intro a hf
  refine o_v hf hh (yv_assign rfl) ?_; clear hf a; intro a hf
  refine o_end ?_
  refine sy_seq ?_
  refine sy_sq ?_
  refine o_v hf hh (yv_assign rfl) ?_; clear hf a; intro a hf
  refine o_end ?_
  refine sy_block ?_
  refine sy_loopH (σ := Nat) [4, 5, 6, 7, 8, 9, 10, 11, 12, 13, 14, 15, 16, 17, 18, 19, 20, 21, 22, 23, 24, 25, 26, 27, 28, 29, 30, 31, 32, 33, 34, 35, 36, 37, 38, 39, 40, 41, 42, 43, 44, 45, 46, 47, 48, 49, 50, 51, 52, 53, 54, 55, 56, 57, 58, 59, 60, 61, 62, 63, 64, 65, 66, 67, 68, 69, 70, 71, 72, 73, 74, 75, 76, 77, 78, 79, 80, 81, 82, 83, 84, 85, 86, 87, 88, 89, 90, 91, 92, 93, 94, 95, 96, 97, 98, 99, 100, 101, 102, 103, 104, 105, 106, 107, 108, 109, 110, 111, 112, 113, 114, 115, 116, 117, 118, 119, 120, 121, 122, 123, 124, 125, 126, 127, 128, 129, 130, 131, 132, 133, 134, 135, 136] (fun k => [(7, .int .i64 ((k : Int) - 1)), (5, .int .i64 (nW d i k)), (6, .int .i64 (sW d i k))]) (fun k => fun w' => k ≤ d.r.length + 1 ∧ Hp u [] [] w') (fun k => d.r.length + 1 - k) (0) hf ?_ ?_ ?_
  · repeat' (first | exact True.intro | refine And.intro rfl ?_)
  · exact ⟨Nat.zero_le _, hh⟩
  ·rintro k a w ⟨hk, hh⟩ hf
   refine sy_seq ?_
   refine sy_sq ?_
   refine o_v hf hh (yv_move rfl) ?_; clear hf a; intro a hf
   refine o_v hf hh (yv_fieldAddr Tryd.fo_26_1 rfl) ?_; clear hf a; intro a hf
   refine o_v hf hh (y_ld Tryd.sc_22 rfl) ?_; clear hf a; intro a hf
   refine o_v hf hh (yv_len Tryd.se_22 rfl) ?_; clear hf a; intro a hf
   refine o_v hf hh (yv_bin rfl rfl rfl) ?_; clear hf a; intro a hf
   refine o_end ?_
   refine sy_cond hf rfl (fun hg2 => ?_) (fun hg2 => ?_)
   ·have hG2 := hg2; try simp only [gS] at hG2
    refine sy_skip ?_
    refine then_n ?_
    refine sy_seq ?_
    refine sy_block ?_
    refine sy_sq ?_
    refine o_v hf hh (yv_assign rfl) ?_; clear hf a; intro a hf
    refine o_end ?_
    refine sy_seq ?_
    refine sy_sq ?_
    refine o_v hf hh (yv_move rfl) ?_; clear hf a; intro a hf
    refine o_v hf hh (yv_bin rfl rfl rfl) ?_; clear hf a; intro a hf
    refine o_end ?_
    refine sy_cond hf rfl (fun hg4 => ?_) (fun hg4 => ?_)
    ·have hG4 := hg4; try simp only [gS] at hG4
     refine sy_seq ?_
     have hk0 : k = 0 := by omega
     refine sy_ops ?_
     refine o_v hf hh (y_lds Tryd.ag_26 rfl) ?_; clear hf a; intro a hf
     refine o_v hf hh (yv_move rfl) ?_; clear hf a; intro a hf
     refine ops_v hf hh (yv_cast (yv_move rfl) (intv (b := (-1)) (by omega))) (.inl rfl) rfl rfl rfl ?_; clear hf a; intro a hf
     refine o_call hf Tryd.en_28 rfl rfl rfl (c28a d sa sb ca cb _ (hA.ext hh.ext) (hB.ext hh.ext) hV i hi) ?_; clear hf a; intro v a w hR hf
     obtain ⟨oa1, ob1, cp1, cq1, rfl, hC1, hD1, hx⟩ := hR; replace hh := hh.more hx; clear hx
     have he1 := hh.ext
     have hbr1 := hh.ext.get hbr
     have hA1 := hA.ext hh.ext
     have hB1 := hB.ext hh.ext
     obtain ⟨u1, rfl⟩ : ∃ z, z = w := ⟨_, rfl⟩
     replace hh := Hp.init u1 []
     
     refine o_v hf hh (yv_move rfl) ?_; clear hf a; intro a hf
     refine o_v hf hh (yv_extract rfl rfl) ?_; clear hf a; intro a hf
     refine o_v hf hh (yv_extract rfl rfl) ?_; clear hf a; intro a hf
     refine o_alloc hf hh Tryd.ze_26 ?_; clear hf hh a; intro B9 a w hf hh
     refine o_store hf hh Tryd.sz_26 fun w hh => ?_
     refine o_v hf hh (yv_assign rfl) ?_; clear hf a; intro a hf
     refine o_end ?_
     refine sy_sq ?_
     refine o_v hf hh (y_lds Tryd.ag_26 rfl) ?_; clear hf a; intro a hf
     refine o_call hf Tryd.en_17 rfl rfl rfl (c17 (rmD d i) oa1 ob1 cp1 cq1 _ (hC1.ext hh.ext) (hD1.ext hh.ext)) ?_; clear hf a; intro v a w hR hf
     obtain ⟨rfl, hx⟩ := hR; replace hh := hh.more hx; clear hx
     refine o_v hf hh (yv_move rfl) ?_; clear hf a; intro a hf
     refine o_v hf hh (yv_extract rfl rfl) ?_; clear hf a; intro a hf
     refine o_v hf hh (yv_extract rfl rfl) ?_; clear hf a; intro a hf
     refine o_v hf hh (yv_assign rfl) ?_; clear hf a; intro a hf
     refine o_v hf hh (yv_assign rfl) ?_; clear hf a; intro a hf
     refine o_end ?_
     refine sy_seq ?_
     have hoT : 1 ≤ d.hid → oW d i k = countV (rmD d i) := fun h => by rw [hk0]; show hidN d i = _; rw [rm_count hV hi, if_pos h]
     have hoF : ¬ 1 ≤ d.hid → oW d i k = 0 := fun h => by rw [hk0]; show hidN d i = _; rw [rm_count hV hi, if_neg h]
     refine sy_ops ?_
     refine o_v hf hh (yv_move rfl) ?_; clear hf a; intro a hf
     refine o_v hf hh (yv_move rfl) ?_; clear hf a; intro a hf
     refine guard_split hf (t := 48) rfl (fun hg12 => ?_) (fun hg12 => ?_)
     ·have hG12 := hg12; try simp only [gS] at hG12
      have hce0 : decide (countE (rmD d i) = 0) = true := by
        unfold countE; rw [rm_valid hV hi, decide_eq_true (show 1 ≤ d.hid by omega)]; rfl
      refine o_v hf hh (yv_move rfl) ?_; clear hf a; intro a hf
      refine o_v hf hh (yv_bin rfl rfl rfl) ?_; clear hf a; intro a hf
      refine o_v hf hh (y_pt rfl rfl) ?_; clear hf a; intro a hf
      refine o_end ?_
      refine c_t hf ?_
      refine sy_ops ?_
      refine o_v hf hh (yv_move rfl) ?_; clear hf a; intro a hf
      refine o_v hf hh (yv_assign rfl) ?_; clear hf a; intro a hf
      refine o_end ?_
      first
        | have hoP : oW d i k = prodS d i k1 h := by
            rw [hk1, show h = d.hid.toNat + 1 by omega]; exact pairN_yes hV hi hkl (by assumption)
        | have hoP := hoN (by assumption)
        | skip
      have hnS := nW_step hV i k; have hsS := sW_step d i k; have hoB := oW_bd hV i k; have hsB := sW_bd hV i k
      refine sy_ops ?_
      refine o_v hf hh (yv_move rfl) ?_; clear hf a; intro a hf
      refine o_v hf hh (yv_move rfl) ?_; clear hf a; intro a hf
      refine ops_v hf hh (yv_cast (yv_max rfl rfl) (intv (b := nW d i (k + 1)) (by omega))) (.inl rfl) rfl rfl rfl ?_; clear hf a; intro a hf
      refine o_v hf hh (yv_move rfl) ?_; clear hf a; intro a hf
      refine o_v hf hh (yv_move rfl) ?_; clear hf a; intro a hf
      refine ops_v hf hh (yv_cast (yv_add rfl rfl (by omega) (by omega)) (intv (b := sW d i (k + 1)) (by omega))) (.inl rfl) rfl rfl rfl ?_; clear hf a; intro a hf
      refine o_v hf hh (yv_assign rfl) ?_; clear hf a; intro a hf
      refine o_v hf hh (yv_assign rfl) ?_; clear hf a; intro a hf
      refine ops_end ?_
      refine blk_n ?_
      refine then_n ?_
      refine sy_ops ?_
      refine o_v hf hh (yv_move rfl) ?_; clear hf a; intro a hf
      refine ops_v hf hh (yv_cast (yv_add rfl rfl (by omega) (by omega)) (intv (b := (((k + 1 : Nat) : Int) - 1)) (by omega))) (.inl rfl) rfl rfl rfl ?_; clear hf a; intro a hf
      refine o_v hf hh (yv_assign rfl) ?_; clear hf a; intro a hf
      refine ops_end ?_
      refine then_n ?_
      exact ⟨k + 1, ⟨⟨by omega, (by first | exact hh | exact (Hp.init u []).more (he1.trans hh.ext))⟩, hf.head ⟨rfl, rfl, rfl, True.intro⟩ (Keep.cons rfl (Keep.cons rfl (Keep.cons rfl (Keep.cons rfl (Keep.cons rfl (Keep.cons rfl (Keep.cons rfl (Keep.cons rfl (Keep.cons rfl (Keep.cons rfl (Keep.cons rfl (Keep.cons rfl (Keep.cons rfl (Keep.cons rfl (Keep.cons rfl (Keep.cons rfl (Keep.cons rfl (Keep.cons rfl (Keep.cons rfl (Keep.cons rfl (Keep.cons rfl (Keep.cons rfl (Keep.cons rfl (Keep.cons rfl (Keep.cons rfl (Keep.cons rfl (Keep.cons rfl (Keep.cons rfl (Keep.cons rfl (Keep.cons rfl (Keep.cons rfl (Keep.cons rfl (Keep.cons rfl (Keep.cons rfl (Keep.cons rfl (Keep.cons rfl (Keep.cons rfl (Keep.cons rfl (Keep.cons rfl (Keep.cons rfl (Keep.cons rfl (Keep.cons rfl (Keep.app rfl (Keep.rm rfl Keep.base))))))))))))))))))))))))))))))))))))))))))))⟩, by omega⟩
     ·have hG12 := hg12; try simp only [gS] at hG12
      refine o_off hf ?_; clear hf a; intro a hf
      refine o_off hf ?_; clear hf a; intro a hf
      refine o_v hf hh (y_pf rfl rfl) ?_; clear hf a; intro a hf
      refine o_end ?_
      refine c_f hf ?_
      refine sy_skip ?_
      refine then_n ?_
      first
        | have hoP : oW d i k = prodS d i k1 h := by
            rw [hk1, show h = d.hid.toNat + 1 by omega]; exact pairN_yes hV hi hkl (by assumption)
        | have hoP := hoN (by assumption)
        | skip
      have hnS := nW_step hV i k; have hsS := sW_step d i k; have hoB := oW_bd hV i k; have hsB := sW_bd hV i k
      refine sy_ops ?_
      refine o_v hf hh (yv_move rfl) ?_; clear hf a; intro a hf
      refine o_v hf hh (yv_move rfl) ?_; clear hf a; intro a hf
      refine ops_v hf hh (yv_cast (yv_max rfl rfl) (intv (b := nW d i (k + 1)) (by omega))) (.inl rfl) rfl rfl rfl ?_; clear hf a; intro a hf
      refine o_v hf hh (yv_move rfl) ?_; clear hf a; intro a hf
      refine o_v hf hh (yv_move rfl) ?_; clear hf a; intro a hf
      refine ops_v hf hh (yv_cast (yv_add rfl rfl (by omega) (by omega)) (intv (b := sW d i (k + 1)) (by omega))) (.inl rfl) rfl rfl rfl ?_; clear hf a; intro a hf
      refine o_v hf hh (yv_assign rfl) ?_; clear hf a; intro a hf
      refine o_v hf hh (yv_assign rfl) ?_; clear hf a; intro a hf
      refine ops_end ?_
      refine blk_n ?_
      refine then_n ?_
      refine sy_ops ?_
      refine o_v hf hh (yv_move rfl) ?_; clear hf a; intro a hf
      refine ops_v hf hh (yv_cast (yv_add rfl rfl (by omega) (by omega)) (intv (b := (((k + 1 : Nat) : Int) - 1)) (by omega))) (.inl rfl) rfl rfl rfl ?_; clear hf a; intro a hf
      refine o_v hf hh (yv_assign rfl) ?_; clear hf a; intro a hf
      refine ops_end ?_
      refine then_n ?_
      exact ⟨k + 1, ⟨⟨by omega, (by first | exact hh | exact (Hp.init u []).more (he1.trans hh.ext))⟩, hf.head ⟨rfl, rfl, rfl, True.intro⟩ (Keep.cons rfl (Keep.cons rfl (Keep.cons rfl (Keep.cons rfl (Keep.cons rfl (Keep.cons rfl (Keep.cons rfl (Keep.cons rfl (Keep.cons rfl (Keep.cons rfl (Keep.cons rfl (Keep.cons rfl (Keep.cons rfl (Keep.cons rfl (Keep.cons rfl (Keep.cons rfl (Keep.cons rfl (Keep.cons rfl (Keep.cons rfl (Keep.cons rfl (Keep.cons rfl (Keep.cons rfl (Keep.cons rfl (Keep.cons rfl (Keep.cons rfl (Keep.cons rfl (Keep.cons rfl (Keep.cons rfl (Keep.cons rfl (Keep.cons rfl (Keep.cons rfl (Keep.cons rfl (Keep.cons rfl (Keep.cons rfl (Keep.cons rfl (Keep.cons rfl (Keep.cons rfl (Keep.cons rfl (Keep.cons rfl (Keep.cons rfl (Keep.app rfl (Keep.rm rfl Keep.base))))))))))))))))))))))))))))))))))))))))))⟩, by omega⟩
    ·have hG4 := hg4; try simp only [gS] at hG4
     refine sy_seq ?_
     obtain ⟨k1, hk1⟩ : ∃ k1, k = k1 + 1 := ⟨k - 1, by omega⟩
     have hkl : k1 < d.r.length := by omega
     obtain ⟨hfE, hfV⟩ := fits_ok (d := d) ((okRows_iff d).2 hV) hi hkl
     have hoN : fitD d i k1 = false → oW d i k = 0 := fun h => by rw [hk1]; exact pairN_no h
     refine sy_ops ?_
     refine o_v hf hh (y_lds Tryd.ag_26 rfl) ?_; clear hf a; intro a hf
     refine o_v hf hh (yv_move rfl) ?_; clear hf a; intro a hf
     refine ops_v hf hh (yv_cast (yv_move rfl) (intv (b := ((k1 : Nat) : Int)) (by omega))) (.inl rfl) rfl rfl rfl ?_; clear hf a; intro a hf
     refine o_call hf Tryd.en_15 rfl rfl rfl (c15 d sa sb ca cb _ (hA.ext hh.ext) (hB.ext hh.ext) i k1 (by omega) (by omega)) ?_; clear hf a; intro v a w hR hf
     rw [hfE] at hR
     rw [hfV] at hR
     obtain ⟨rfl, hx⟩ := hR; replace hh := hh.more hx; clear hx
     refine o_v hf hh (yv_move rfl) ?_; clear hf a; intro a hf
     refine o_v hf hh (yv_extract rfl rfl) ?_; clear hf a; intro a hf
     refine o_v hf hh (yv_extract rfl rfl) ?_; clear hf a; intro a hf
     refine o_v hf hh (yv_assign rfl) ?_; clear hf a; intro a hf
     refine o_v hf hh (yv_assign rfl) ?_; clear hf a; intro a hf
     refine o_end ?_
     refine sy_sq ?_
     refine o_v hf hh (yv_move rfl) ?_; clear hf a; intro a hf
     refine o_v hf hh (yv_bin rfl rfl rfl) ?_; clear hf a; intro a hf
     refine o_end ?_
     refine c_f hf ?_
     refine sy_sq ?_
     refine o_v hf hh (yv_move rfl) ?_; clear hf a; intro a hf
     refine o_end ?_
     refine sy_cond hf rfl (fun hg26 => ?_) (fun hg26 => ?_)
     ·have hG26 := hg26; try simp only [gS] at hG26
      refine sy_sq ?_
      refine o_v hf hh (y_lds Tryd.ag_26 rfl) ?_; clear hf a; intro a hf
      refine o_v hf hh (yv_move rfl) ?_; clear hf a; intro a hf
      refine ops_v hf hh (yv_cast (yv_move rfl) (intv (b := ((k1 : Nat) : Int)) (by omega))) (.inl rfl) rfl rfl rfl ?_; clear hf a; intro a hf
      refine o_call hf Tryd.en_28 rfl rfl rfl (c28b d sa sb ca cb _ (hA.ext hh.ext) (hB.ext hh.ext) hV i hi k1 hkl) ?_; clear hf a; intro v a w hR hf
      obtain ⟨oa1, ob1, cp1, cq1, rfl, hC1, hD1, hx⟩ := hR; replace hh := hh.more hx; clear hx
      have he1 := hh.ext
      have hbr1 := hh.ext.get hbr
      have hA1 := hA.ext hh.ext
      have hB1 := hB.ext hh.ext
      obtain ⟨u1, rfl⟩ : ∃ z, z = w := ⟨_, rfl⟩
      replace hh := Hp.init u1 []
      
      refine o_v hf hh (yv_move rfl) ?_; clear hf a; intro a hf
      refine o_v hf hh (yv_extract rfl rfl) ?_; clear hf a; intro a hf
      refine o_v hf hh (yv_extract rfl rfl) ?_; clear hf a; intro a hf
      refine o_alloc hf hh Tryd.ze_26 ?_; clear hf hh a; intro B15 a w hf hh
      refine o_store hf hh Tryd.sz_26 fun w hh => ?_
      refine o_v hf hh (yv_assign rfl) ?_; clear hf a; intro a hf
      refine o_end ?_
      refine sy_sq ?_
      refine o_v hf hh (y_lds Tryd.ag_26 rfl) ?_; clear hf a; intro a hf
      refine o_alloc hf hh Tryd.ze_26 ?_; clear hf hh a; intro B17 a w hf hh
      refine o_store hf hh Tryd.sz_26 fun w hh => ?_
      refine o_end ?_
      refine sy_seq ?_
      refine sy_treeC (.p 0 (.q 0 1 (.p 2 (.p 3 (.p 4 (.p 5 (.q 0 6 (.p 7 (.p 8 (.p 9 (.p 10 (.e1 11 (.p 12 (.e1 13 (.fin))))))))))))))) [[]] [(AtE u1 [] [], [])] Tryd.follows (by kernel_rfl) rfl hh (fun w hh => ?_)
      refine mc_p rfl   hf (yv_fieldAddr Tryd.fo_26_0 rfl) (.inl rfl) rfl rfl ?_; clear hf a; intro a hf
      refine mc_q rfl rfl (AtE.of hh (List.nil_subset _)) hf (y_ld Tryd.sc_22 rfl) (.inl rfl) rfl rfl ?_; clear hf a; intro a hf
      refine mc_p rfl   hf (yv_move rfl) (.inl rfl) rfl rfl ?_; clear hf a; intro a hf
      refine mc_p rfl   hf (y_add rfl rfl) (.inl rfl) rfl rfl ?_; clear hf a; intro a hf
      refine mc_p rfl   hf (yv_lo (m := i + 1) Tryd.se_22 rfl rfl (by omega)) (.inl rfl) rfl rfl ?_; clear hf a; intro a hf
      refine mc_p rfl   hf (yv_fieldAddr Tryd.fo_26_1 rfl) (.inl rfl) rfl rfl ?_; clear hf a; intro a hf
      refine mc_q rfl rfl (AtE.of hh (List.nil_subset _)) hf (y_ld Tryd.sc_22 rfl) (.inl rfl) rfl rfl ?_; clear hf a; intro a hf
      refine mc_p rfl   hf (yv_cast (yv_move rfl) (intv (b := ((k1 : Nat) : Int)) (by omega))) (.inl rfl) rfl rfl ?_; clear hf a; intro a hf
      refine mc_p rfl   hf (y_add rfl rfl) (.inl rfl) rfl rfl ?_; clear hf a; intro a hf
      refine mc_p rfl   hf (yv_lo (m := k1 + 1) Tryd.se_22 rfl rfl (by omega)) (.inl rfl) rfl rfl ?_; clear hf a; intro a hf
      refine mc_p rfl   hf (yv_fieldAddr Tryd.fo_26_0 rfl) (.inl rfl) rfl rfl ?_; clear hf a; intro a hf
      refine mc_e rfl fun Q1 => ?_
      refine o_store hf hh Tryd.sz_22 fun w hh => ?_
      refine ops_end ?_
      refine then_n ⟨⟨fun _ _ => (AtE.of hh (List.nil_subset _)), trivial⟩, ?_⟩
      refine mc_p rfl   hf (yv_fieldAddr Tryd.fo_26_1 rfl) (.inl rfl) rfl rfl ?_; clear hf a; intro a hf
      refine mc_e rfl fun Q1 => ?_
      refine o_store hf hh Tryd.sz_22 fun w hh => ?_
      refine ops_end ?_
      refine then_n ⟨⟨fun _ _ => (AtE.of hh (List.nil_subset _)), trivial⟩, ?_⟩
      refine mc_end ?_
      refine then_n ?_
      refine sy_seq ?_
      obtain ⟨oa2, hoa2⟩ : ∃ z, z = (if ca = i + 1 then sa else sa.map (·.add ((i + 1) * 4))) := ⟨_, rfl⟩
      obtain ⟨ob2, hob2⟩ : ∃ z, z = (if cb = k1 + 1 then sb else sb.map (·.add ((k1 + 1) * 4))) := ⟨_, rfl⟩
      have e17 : (rowsV (aftD d i k1 d.hid) oa2 ob2 (ca - (i + 1)) (cb - (k1 + 1))).cells = #[.slice oa2 (d.l.length - (i + 1)) (ca - (i + 1)), .slice ob2 (d.r.length - (k1 + 1)) (cb - (k1 + 1)), .int .i64 d.lo, .int .i64 d.hi, .int .i64 d.hid] := by
        show #[Value.slice oa2 (d.l.drop (i + 1)).length (ca - (i + 1)), Value.slice ob2 (d.r.drop (k1 + 1)).length (cb - (k1 + 1)), .int .i64 d.lo, .int .i64 d.hi, .int .i64 d.hid] = _
        rw [List.length_drop, List.length_drop]
      replace hh : Hp u1 [] [(B17, .cells (rowsV (aftD d i k1 d.hid) oa2 ob2 (ca - (i + 1)) (cb - (k1 + 1))).cells 26), (B15, .cells (rowsV (cutD d i k1) oa1 ob1 cp1 cq1).cells 26)] w := by
        rw [e17, hoa2, hob2]; exact hh
      have hA2 : MkAt u1 oa2 (d.l.drop (i + 1)) := by rw [hoa2]; exact mkAt_drop hA1 hca
      have hB2 : MkAt u1 ob2 (d.r.drop (k1 + 1)) := by rw [hob2]; exact mkAt_drop hB1 hcb
      clear e17 hoa2 hob2
      refine sy_ops ?_
      refine o_v hf hh (yv_assign rfl) ?_; clear hf a; intro a hf
      refine o_end ?_
      refine sy_block ?_
      refine sy_loopF (σ := Nat) [4, 8, 18, 19, 20, 21, 22, 23, 24, 25, 83, 84, 85, 86, 87, 88, 89, 90, 91, 92, 93, 94, 95, 96, 97, 98, 99, 100, 101, 102, 103, 104, 105, 106, 107, 108, 109, 110, 111, 112, 113, 114, 115, 116, 117, 118, 119, 120, 121, 122, 123, 124, 125, 126, 127, 128, 129, 130] (fun h => [(18, .int .i64 h), (8, .int .i64 (prodS d i k1 h))]) (fun h => (h : Int) ≤ d.hid + 1) (fun h => d.hid.toNat + 1 - h) (0) hf hh ?_ ?_ ?_
      · repeat' (first | exact True.intro | refine And.intro rfl ?_)
      · omega
      ·rintro h a w hhl hf hh
       refine sy_seq ?_
       refine sy_sq ?_
       refine o_v hf hh (yv_move rfl) ?_; clear hf a; intro a hf
       refine o_v hf hh (yv_fieldAddr Tryd.fo_26_3 rfl) ?_; clear hf a; intro a hf
       refine o_v hf hh (y_ld Tryd.sc_3 rfl) ?_; clear hf a; intro a hf
       refine o_v hf hh (yv_bin rfl rfl rfl) ?_; clear hf a; intro a hf
       refine o_end ?_
       refine sy_cond hf rfl (fun hg35 => ?_) (fun hg35 => ?_)
       ·have hG35 := hg35; try simp only [gS] at hG35
        refine sy_skip ?_
        refine then_n ?_
        refine sy_seq ?_
        refine sy_block ?_
        refine sy_cut (σ := Nat × Nat) [19, 20, 89, 90] (fun q => [(19, ptr q.1 0), (20, ptr q.2 0)]) (fun q => fun w' => Hp u1 [] [(q.2, .cells (rowsV (aftD d i k1 d.hid) oa2 ob2 (ca - (i + 1)) (cb - (k1 + 1))).cells 26), (q.1, .cells (rowsV (cutD d i k1) oa1 ob1 cp1 cq1).cells 26), (B17, .cells (rowsV (aftD d i k1 d.hid) oa2 ob2 (ca - (i + 1)) (cb - (k1 + 1))).cells 26), (B15, .cells (rowsV (cutD d i k1) oa1 ob1 cp1 cq1).cells 26)] w') hf ?_ ?_
        ·refine sy_tree1 (.q 0 0 (.q 0 1 (.e2 2 (.e1 3 (.e1 4 (.e1 5 (.fin)))) 3 (.e1 2 (.e1 4 (.e1 5 (.fin))))))) [] Tryd.follows (by kernel_rfl) hh (fun w hh => ?_)
         refine mc_q rfl rfl hh hf (y_lds Tryd.ag_26 rfl) (.inl rfl) rfl rfl ?_; clear hf a; intro a hf
         refine mc_q rfl rfl hh hf (y_lds Tryd.ag_26 rfl) (.inl rfl) rfl rfl ?_; clear hf a; intro a hf
         refine ⟨?_, ?_⟩
         ·refine mc_e rfl fun Q1 => ?_
          refine o_alloc hf hh Tryd.ze_26 ?_; clear hf hh a; intro B19 a w hf hh
          refine ops_end ?_
          refine then_n ⟨⟨fun _ _ => (hh.less (.cons _ (List.Sublist.refl _))), trivial⟩, ?_⟩
          refine mc_e rfl fun Q1 => ?_
          refine o_alloc hf hh Tryd.ze_26 ?_; clear hf hh a; intro B20 a w hf hh
          refine ops_end ?_
          refine then_n ⟨⟨fun _ _ => (hh.less (.cons _ (.cons _ (List.Sublist.refl _)))), trivial⟩, ?_⟩
          refine mc_e rfl fun Q1 => ?_
          refine o_store hf hh Tryd.sz_26 fun w hh => ?_
          refine ops_end ?_
          refine then_n ⟨⟨fun _ _ => (hh.less (.cons _ (.cons _ (List.Sublist.refl _)))), trivial⟩, ?_⟩
          refine mc_e rfl fun Q1 => ?_
          refine o_store hf hh Tryd.sz_26 fun w hh => ?_
          refine ops_end ?_
          refine then_n ⟨⟨fun _ _ => (hh.less (.cons _ (.cons _ (List.Sublist.refl _)))), trivial⟩, ?_⟩
          refine mc_end ?_
          refine then_n ?_
          exact ⟨(B19, B20), (by first | exact hh | exact hh.perm (.swap _ _ _)), hf.head ⟨rfl, rfl, True.intro⟩ (Keep.cons rfl (Keep.cons rfl (Keep.cons rfl (Keep.cons rfl (Keep.base)))))⟩
         ·refine mc_e rfl fun Q1 => ?_
          refine o_alloc hf hh Tryd.ze_26 ?_; clear hf hh a; intro B20 a w hf hh
          refine ops_end ?_
          refine then_n ⟨⟨fun _ _ => (hh.less (.cons _ (List.Sublist.refl _))), trivial⟩, ?_⟩
          refine mc_e rfl fun Q1 => ?_
          refine o_alloc hf hh Tryd.ze_26 ?_; clear hf hh a; intro B19 a w hf hh
          refine ops_end ?_
          refine then_n ⟨⟨fun _ _ => (hh.less (.cons _ (.cons _ (List.Sublist.refl _)))), trivial⟩, ?_⟩
          refine mc_e rfl fun Q1 => ?_
          refine o_store hf hh Tryd.sz_26 fun w hh => ?_
          refine ops_end ?_
          refine then_n ⟨⟨fun _ _ => (hh.less (.cons _ (.cons _ (List.Sublist.refl _)))), trivial⟩, ?_⟩
          refine mc_e rfl fun Q1 => ?_
          refine o_store hf hh Tryd.sz_26 fun w hh => ?_
          refine ops_end ?_
          refine then_n ⟨⟨fun _ _ => (hh.less (.cons _ (.cons _ (List.Sublist.refl _)))), trivial⟩, ?_⟩
          refine mc_end ?_
          refine then_n ?_
          exact ⟨(B19, B20), (by first | exact hh | exact hh.perm (.swap _ _ _)), hf.head ⟨rfl, rfl, True.intro⟩ (Keep.cons rfl (Keep.cons rfl (Keep.cons rfl (Keep.cons rfl (Keep.base)))))⟩
        ·rintro q a w hh hf
         obtain ⟨B19, B20⟩ := q
         simp only at hh hf
         refine sy_seq ?_
         refine sy_treeC (.p 0 (.p 1 (.q 0 2 (.p 3 (.p 4 (.p 5 (.e1 6 (.p 7 (.e1 8 (.fin)))))))))) [[]] [(AtE u1 [] [], [])] Tryd.follows (by kernel_rfl) rfl hh (fun w hh => ?_)
         refine mc_p rfl   hf (yv_move rfl) (.inl rfl) rfl rfl ?_; clear hf a; intro a hf
         refine mc_p rfl   hf (yv_fieldAddr Tryd.fo_26_3 rfl) (.inl rfl) rfl rfl ?_; clear hf a; intro a hf
         refine mc_q rfl rfl (AtE.of hh (List.nil_subset _)) hf (y_ld Tryd.sc_3 rfl) (.inl rfl) rfl rfl ?_; clear hf a; intro a hf
         refine mc_p rfl   hf (yv_move rfl) (.inl rfl) rfl rfl ?_; clear hf a; intro a hf
         refine mc_p rfl   hf (y_sub rfl rfl) (.inl rfl) rfl rfl ?_; clear hf a; intro a hf
         refine mc_p rfl   hf (yv_fieldAddr Tryd.fo_26_3 rfl) (.inl rfl) rfl rfl ?_; clear hf a; intro a hf
         refine mc_e rfl fun Q1 => ?_
         refine o_store hf hh Tryd.sz_3 fun w hh => ?_
         refine ops_end ?_
         refine then_n ⟨⟨fun _ _ => (AtE.of hh (List.nil_subset _)), trivial⟩, ?_⟩
         refine mc_p rfl   hf (yv_fieldAddr Tryd.fo_26_3 rfl) (.inl rfl) rfl rfl ?_; clear hf a; intro a hf
         refine mc_e rfl fun Q1 => ?_
         refine o_store hf hh Tryd.sz_3 fun w hh => ?_
         refine ops_end ?_
         refine then_n ⟨⟨fun _ _ => (AtE.of hh (List.nil_subset _)), trivial⟩, ?_⟩
         refine mc_end ?_
         refine then_n ?_
         refine sy_seq ?_
         replace hh : Hp u1 [] [(B20, .cells (rowsV (aftD d i k1 (d.hid - (h : Int))) oa2 ob2 (ca - (i + 1)) (cb - (k1 + 1))).cells 26), (B19, .cells (rowsV (befD d i k1 (h : Int)) oa1 ob1 cp1 cq1).cells 26), (B17, .cells (rowsV (aftD d i k1 d.hid) oa2 ob2 (ca - (i + 1)) (cb - (k1 + 1))).cells 26), (B15, .cells (rowsV (cutD d i k1) oa1 ob1 cp1 cq1).cells 26)] w := hh
         have hvb := bef_valid (i := i) (k := k1) (h := (h : Int)) hV (by omega) (by omega)
         have hva := aft_valid (i := i) (k := k1) (h := d.hid - (h : Int)) hV (by omega) (by omega)
         have hcb0 := count_bd hvb; have hca0 := count_bd hva
         have hE1 : countE (befD d i k1 (h : Int)) = 0 := by unfold countE; rw [(okRows_iff _).2 hvb]; rfl
         have hE2 : countE (aftD d i k1 (d.hid - (h : Int))) = 0 := by unfold countE; rw [(okRows_iff _).2 hva]; rfl
         have hst := prodS_step (m := h) hV hi hkl (by omega)
         have hpb := prodS_bd hV i k1 hi hkl h; have hpb1 := prodS_bd hV i k1 hi hkl (h + 1)
         refine sy_ops ?_
         refine o_v hf hh (y_lds Tryd.ag_26 rfl) ?_; clear hf a; intro a hf
         refine o_call hf Tryd.en_17 rfl rfl rfl (c17 (befD d i k1 (h : Int)) oa1 ob1 cp1 cq1 _ (hC1.ext hh.ext) (hD1.ext hh.ext)) ?_; clear hf a; intro v a w hR hf
         rw [hE1] at hR
         obtain ⟨rfl, hx⟩ := hR; replace hh := hh.more hx; clear hx
         refine o_v hf hh (yv_move rfl) ?_; clear hf a; intro a hf
         refine o_v hf hh (yv_extract rfl rfl) ?_; clear hf a; intro a hf
         refine o_v hf hh (yv_extract rfl rfl) ?_; clear hf a; intro a hf
         refine o_v hf hh (yv_assign rfl) ?_; clear hf a; intro a hf
         refine o_v hf hh (yv_assign rfl) ?_; clear hf a; intro a hf
         refine o_end ?_
         refine sy_sq ?_
         refine o_v hf hh (y_lds Tryd.ag_26 rfl) ?_; clear hf a; intro a hf
         refine o_call hf Tryd.en_17 rfl rfl rfl (c17 (aftD d i k1 (d.hid - (h : Int))) oa2 ob2 (ca - (i + 1)) (cb - (k1 + 1)) _ (hA2.ext hh.ext) (hB2.ext hh.ext)) ?_; clear hf a; intro v a w hR hf
         rw [hE2] at hR
         obtain ⟨rfl, hx⟩ := hR; replace hh := hh.more hx; clear hx
         refine o_v hf hh (yv_move rfl) ?_; clear hf a; intro a hf
         refine o_v hf hh (yv_extract rfl rfl) ?_; clear hf a; intro a hf
         refine o_v hf hh (yv_extract rfl rfl) ?_; clear hf a; intro a hf
         refine o_v hf hh (yv_assign rfl) ?_; clear hf a; intro a hf
         refine o_v hf hh (yv_assign rfl) ?_; clear hf a; intro a hf
         refine o_end ?_
         refine sy_sq ?_
         refine o_v hf hh (yv_assign rfl) ?_; clear hf a; intro a hf
         refine o_end ?_
         refine sy_seq ?_
         refine sy_sq ?_
         refine o_v hf hh (yv_move rfl) ?_; clear hf a; intro a hf
         refine o_v hf hh (yv_bin rfl rfl rfl) ?_; clear hf a; intro a hf
         refine o_end ?_
         refine sy_cond hf rfl (fun hg43 => ?_) (fun hg43 => ?_)
         ·have hG43 := hg43; try simp only [gS] at hG43
          refine sy_sq ?_
          refine o_v hf hh (yv_move rfl) ?_; clear hf a; intro a hf
          refine o_v hf hh (y_sub rfl rfl) ?_; clear hf a; intro a hf
          refine o_v hf hh (yv_fieldAddr Tryd.fo_26_3 rfl) ?_; clear hf a; intro a hf
          refine o_store hf hh Tryd.sz_3 fun w hh => ?_
          refine o_end ?_
          replace hh : Hp u1 [] [(B20, .cells (rowsV (aftD d i k1 (d.hid - (h : Int))) oa2 ob2 (ca - (i + 1)) (cb - (k1 + 1))).cells 26), (B19, .cells (rowsV (befD d i k1 ((h : Int) - 1)) oa1 ob1 cp1 cq1).cells 26), (B17, .cells (rowsV (aftD d i k1 d.hid) oa2 ob2 (ca - (i + 1)) (cb - (k1 + 1))).cells 26), (B15, .cells (rowsV (cutD d i k1) oa1 ob1 cp1 cq1).cells 26)] w := hh
          have hcm0 := count_bd (bef_valid (i := i) (k := k1) (h := (h : Int) - 1) hV (by omega) (by omega))
          refine sy_ops ?_
          refine o_v hf hh (y_lds Tryd.ag_26 rfl) ?_; clear hf a; intro a hf
          refine o_call hf Tryd.en_17 rfl rfl rfl (c17 (befD d i k1 ((h : Int) - 1)) oa1 ob1 cp1 cq1 _ (hC1.ext hh.ext) (hD1.ext hh.ext)) ?_; clear hf a; intro v a w hR hf
          obtain ⟨rfl, hx⟩ := hR; replace hh := hh.more hx; clear hx
          refine o_v hf hh (yv_move rfl) ?_; clear hf a; intro a hf
          refine o_v hf hh (yv_extract rfl rfl) ?_; clear hf a; intro a hf
          refine o_v hf hh (yv_extract rfl rfl) ?_; clear hf a; intro a hf
          refine o_v hf hh (yv_assign rfl) ?_; clear hf a; intro a hf
          refine o_end ?_
          refine sy_seq ?_
          refine sy_sq ?_
          refine o_v hf hh (yv_move rfl) ?_; clear hf a; intro a hf
          refine o_v hf hh (yv_bin rfl rfl rfl) ?_; clear hf a; intro a hf
          refine o_v hf hh (yv_move rfl) ?_; clear hf a; intro a hf
          refine o_v hf hh (yv_move rfl) ?_; clear hf a; intro a hf
          refine o_v hf hh (yv_bin rfl rfl rfl) ?_; clear hf a; intro a hf
          refine o_v hf hh (y_pf rfl rfl) ?_; clear hf a; intro a hf
          refine o_end ?_
          refine c_f hf ?_
          refine sy_skip ?_
          refine then_n ?_
          first | rw [if_neg (by omega)] at hst | rw [if_pos (by omega)] at hst
          refine sy_ops ?_
          refine o_v hf hh (yv_move rfl) ?_; clear hf a; intro a hf
          refine o_v hf hh (yv_move rfl) ?_; clear hf a; intro a hf
          refine o_v hf hh (yv_move rfl) ?_; clear hf a; intro a hf
          refine o_v hf hh (y_sub rfl rfl) ?_; clear hf a; intro a hf
          refine o_v hf hh (yv_move rfl) ?_; clear hf a; intro a hf
          refine o_v hf hh (y_mul rfl rfl) ?_; clear hf a; intro a hf
          refine ops_v hf hh (yv_cast (yv_add rfl rfl (by omega) (by omega)) (intv (b := prodS d i k1 (h + 1)) hst.symm)) (.inl rfl) rfl rfl rfl ?_; clear hf a; intro a hf
          refine o_v hf hh (yv_assign rfl) ?_; clear hf a; intro a hf
          refine ops_end ?_
          refine blk_n ?_
          refine then_n ?_
          refine sy_ops ?_
          refine o_v hf hh (yv_move rfl) ?_; clear hf a; intro a hf
          refine o_v hf hh (y_add rfl rfl) ?_; clear hf a; intro a hf
          refine o_v hf hh (yv_assign rfl) ?_; clear hf a; intro a hf
          refine ops_end ?_
          refine then_n ?_
          exact ⟨h + 1, ⟨by omega, hf.head ⟨rfl, rfl, True.intro⟩ (Keep.cons rfl (Keep.cons rfl (Keep.cons rfl (Keep.cons rfl (Keep.cons rfl (Keep.cons rfl (Keep.cons rfl (Keep.cons rfl (Keep.cons rfl (Keep.cons rfl (Keep.cons rfl (Keep.cons rfl (Keep.cons rfl (Keep.cons rfl (Keep.cons rfl (Keep.cons rfl (Keep.cons rfl (Keep.cons rfl (Keep.cons rfl (Keep.cons rfl (Keep.cons rfl (Keep.cons rfl (Keep.cons rfl (Keep.cons rfl (Keep.cons rfl (Keep.cons rfl (Keep.cons rfl (Keep.cons rfl (Keep.cons rfl (Keep.cons rfl (Keep.cons rfl (Keep.cons rfl (Keep.cons rfl (Keep.cons rfl (Keep.cons rfl (Keep.cons rfl (Keep.cons rfl (Keep.cons rfl (Keep.cons rfl (Keep.cons rfl (Keep.cons rfl (Keep.cons rfl (Keep.cons rfl (Keep.cons rfl (Keep.cons rfl (Keep.cons rfl (Keep.cons rfl (Keep.cons rfl (Keep.cons rfl (Keep.cons rfl (Keep.app rfl (Keep.rm rfl (Keep.cons rfl (Keep.cons rfl (Keep.cons rfl (Keep.cons rfl (Keep.app rfl (Keep.rm rfl Keep.base)))))))))))))))))))))))))))))))))))))))))))))))))))))))))), hh.less (.cons _ (.cons _ (List.Sublist.refl _)))⟩, by omega⟩
         ·have hG43 := hg43; try simp only [gS] at hG43
          refine sy_skip ?_
          refine then_n ?_
          refine sy_seq ?_
          refine sy_sq ?_
          refine o_v hf hh (yv_move rfl) ?_; clear hf a; intro a hf
          refine o_v hf hh (yv_bin rfl rfl rfl) ?_; clear hf a; intro a hf
          refine o_v hf hh (yv_move rfl) ?_; clear hf a; intro a hf
          refine o_v hf hh (yv_move rfl) ?_; clear hf a; intro a hf
          refine o_v hf hh (yv_bin rfl rfl rfl) ?_; clear hf a; intro a hf
          refine o_v hf hh (y_pf rfl rfl) ?_; clear hf a; intro a hf
          refine o_end ?_
          refine c_f hf ?_
          refine sy_skip ?_
          refine then_n ?_
          first | rw [if_neg (by omega)] at hst | rw [if_pos (by omega)] at hst
          refine sy_ops ?_
          refine o_v hf hh (yv_move rfl) ?_; clear hf a; intro a hf
          refine o_v hf hh (yv_move rfl) ?_; clear hf a; intro a hf
          refine o_v hf hh (yv_move rfl) ?_; clear hf a; intro a hf
          refine o_v hf hh (y_sub rfl rfl) ?_; clear hf a; intro a hf
          refine o_v hf hh (yv_move rfl) ?_; clear hf a; intro a hf
          refine o_v hf hh (y_mul rfl rfl) ?_; clear hf a; intro a hf
          refine ops_v hf hh (yv_cast (yv_add rfl rfl (by omega) (by omega)) (intv (b := prodS d i k1 (h + 1)) hst.symm)) (.inl rfl) rfl rfl rfl ?_; clear hf a; intro a hf
          refine o_v hf hh (yv_assign rfl) ?_; clear hf a; intro a hf
          refine ops_end ?_
          refine blk_n ?_
          refine then_n ?_
          refine sy_ops ?_
          refine o_v hf hh (yv_move rfl) ?_; clear hf a; intro a hf
          refine o_v hf hh (y_add rfl rfl) ?_; clear hf a; intro a hf
          refine o_v hf hh (yv_assign rfl) ?_; clear hf a; intro a hf
          refine ops_end ?_
          refine then_n ?_
          exact ⟨h + 1, ⟨by omega, hf.head ⟨rfl, rfl, True.intro⟩ (Keep.cons rfl (Keep.cons rfl (Keep.cons rfl (Keep.cons rfl (Keep.cons rfl (Keep.cons rfl (Keep.cons rfl (Keep.cons rfl (Keep.cons rfl (Keep.cons rfl (Keep.cons rfl (Keep.cons rfl (Keep.cons rfl (Keep.cons rfl (Keep.cons rfl (Keep.cons rfl (Keep.cons rfl (Keep.cons rfl (Keep.cons rfl (Keep.cons rfl (Keep.cons rfl (Keep.cons rfl (Keep.cons rfl (Keep.cons rfl (Keep.cons rfl (Keep.cons rfl (Keep.cons rfl (Keep.cons rfl (Keep.cons rfl (Keep.cons rfl (Keep.cons rfl (Keep.cons rfl (Keep.cons rfl (Keep.cons rfl (Keep.cons rfl (Keep.cons rfl (Keep.cons rfl (Keep.cons rfl (Keep.cons rfl (Keep.cons rfl (Keep.cons rfl (Keep.app rfl (Keep.rm rfl (Keep.cons rfl (Keep.cons rfl (Keep.cons rfl (Keep.cons rfl (Keep.app rfl (Keep.rm rfl Keep.base))))))))))))))))))))))))))))))))))))))))))))))))), hh.less (.cons _ (.cons _ (List.Sublist.refl _)))⟩, by omega⟩
       ·have hG35 := hg35; try simp only [gS] at hG35
        refine sy_exit ?_
        refine then_e ?_
        refine then_e ?_
        refine blk_e ?_
        refine then_n ?_
        first
          | have hoP : oW d i k = prodS d i k1 h := by
              rw [hk1, show h = d.hid.toNat + 1 by omega]; exact pairN_yes hV hi hkl (by assumption)
          | have hoP := hoN (by assumption)
          | skip
        have hnS := nW_step hV i k; have hsS := sW_step d i k; have hoB := oW_bd hV i k; have hsB := sW_bd hV i k
        refine sy_ops ?_
        refine o_v hf hh (yv_move rfl) ?_; clear hf a; intro a hf
        refine o_v hf hh (yv_move rfl) ?_; clear hf a; intro a hf
        refine ops_v hf hh (yv_cast (yv_max rfl rfl) (intv (b := nW d i (k + 1)) (by omega))) (.inl rfl) rfl rfl rfl ?_; clear hf a; intro a hf
        refine o_v hf hh (yv_move rfl) ?_; clear hf a; intro a hf
        refine o_v hf hh (yv_move rfl) ?_; clear hf a; intro a hf
        refine ops_v hf hh (yv_cast (yv_add rfl rfl (by omega) (by omega)) (intv (b := sW d i (k + 1)) (by omega))) (.inl rfl) rfl rfl rfl ?_; clear hf a; intro a hf
        refine o_v hf hh (yv_assign rfl) ?_; clear hf a; intro a hf
        refine o_v hf hh (yv_assign rfl) ?_; clear hf a; intro a hf
        refine ops_end ?_
        refine blk_n ?_
        refine then_n ?_
        refine sy_ops ?_
        refine o_v hf hh (yv_move rfl) ?_; clear hf a; intro a hf
        refine ops_v hf hh (yv_cast (yv_add rfl rfl (by omega) (by omega)) (intv (b := (((k + 1 : Nat) : Int) - 1)) (by omega))) (.inl rfl) rfl rfl rfl ?_; clear hf a; intro a hf
        refine o_v hf hh (yv_assign rfl) ?_; clear hf a; intro a hf
        refine ops_end ?_
        refine then_n ?_
        exact ⟨k + 1, ⟨⟨by omega, (by first | exact hh | exact (Hp.init u []).more (he1.trans hh.ext))⟩, hf.head ⟨rfl, rfl, rfl, True.intro⟩ (Keep.cons rfl (Keep.cons rfl (Keep.cons rfl (Keep.cons rfl (Keep.cons rfl (Keep.cons rfl (Keep.cons rfl (Keep.cons rfl (Keep.cons rfl (Keep.cons rfl (Keep.cons rfl (Keep.cons rfl (Keep.cons rfl (Keep.cons rfl (Keep.cons rfl (Keep.app rfl (Keep.rm rfl (Keep.cons rfl (Keep.cons rfl (Keep.cons rfl (Keep.cons rfl (Keep.cons rfl (Keep.cons rfl (Keep.cons rfl (Keep.cons rfl (Keep.cons rfl (Keep.cons rfl (Keep.cons rfl (Keep.cons rfl (Keep.cons rfl (Keep.cons rfl (Keep.cons rfl (Keep.cons rfl (Keep.cons rfl (Keep.cons rfl (Keep.cons rfl (Keep.cons rfl (Keep.cons rfl (Keep.cons rfl (Keep.cons rfl (Keep.cons rfl (Keep.cons rfl (Keep.cons rfl (Keep.cons rfl (Keep.cons rfl (Keep.cons rfl (Keep.cons rfl (Keep.cons rfl (Keep.cons rfl (Keep.cons rfl (Keep.cons rfl (Keep.cons rfl (Keep.cons rfl (Keep.cons rfl (Keep.cons rfl (Keep.cons rfl (Keep.cons rfl (Keep.cons rfl (Keep.cons rfl (Keep.cons rfl (Keep.cons rfl (Keep.app rfl (Keep.rm rfl Keep.base)))))))))))))))))))))))))))))))))))))))))))))))))))))))))))))))⟩, by omega⟩
     ·have hG26 := hg26; try simp only [gS] at hG26
      refine sy_skip ?_
      refine then_n ?_
      first
        | have hoP : oW d i k = prodS d i k1 h := by
            rw [hk1, show h = d.hid.toNat + 1 by omega]; exact pairN_yes hV hi hkl (by assumption)
        | have hoP := hoN (by assumption)
        | skip
      have hnS := nW_step hV i k; have hsS := sW_step d i k; have hoB := oW_bd hV i k; have hsB := sW_bd hV i k
      refine sy_ops ?_
      refine o_v hf hh (yv_move rfl) ?_; clear hf a; intro a hf
      refine o_v hf hh (yv_move rfl) ?_; clear hf a; intro a hf
      refine ops_v hf hh (yv_cast (yv_max rfl rfl) (intv (b := nW d i (k + 1)) (by omega))) (.inl rfl) rfl rfl rfl ?_; clear hf a; intro a hf
      refine o_v hf hh (yv_move rfl) ?_; clear hf a; intro a hf
      refine o_v hf hh (yv_move rfl) ?_; clear hf a; intro a hf
      refine ops_v hf hh (yv_cast (yv_add rfl rfl (by omega) (by omega)) (intv (b := sW d i (k + 1)) (by omega))) (.inl rfl) rfl rfl rfl ?_; clear hf a; intro a hf
      refine o_v hf hh (yv_assign rfl) ?_; clear hf a; intro a hf
      refine o_v hf hh (yv_assign rfl) ?_; clear hf a; intro a hf
      refine ops_end ?_
      refine blk_n ?_
      refine then_n ?_
      refine sy_ops ?_
      refine o_v hf hh (yv_move rfl) ?_; clear hf a; intro a hf
      refine ops_v hf hh (yv_cast (yv_add rfl rfl (by omega) (by omega)) (intv (b := (((k + 1 : Nat) : Int) - 1)) (by omega))) (.inl rfl) rfl rfl rfl ?_; clear hf a; intro a hf
      refine o_v hf hh (yv_assign rfl) ?_; clear hf a; intro a hf
      refine ops_end ?_
      refine then_n ?_
      exact ⟨k + 1, ⟨⟨by omega, (by first | exact hh | exact (Hp.init u []).more (he1.trans hh.ext))⟩, hf.head ⟨rfl, rfl, rfl, True.intro⟩ (Keep.cons rfl (Keep.cons rfl (Keep.cons rfl (Keep.cons rfl (Keep.cons rfl (Keep.cons rfl (Keep.cons rfl (Keep.cons rfl (Keep.cons rfl (Keep.cons rfl (Keep.cons rfl (Keep.cons rfl (Keep.cons rfl (Keep.cons rfl (Keep.cons rfl (Keep.cons rfl (Keep.cons rfl (Keep.cons rfl (Keep.cons rfl (Keep.cons rfl (Keep.cons rfl (Keep.cons rfl (Keep.cons rfl (Keep.cons rfl (Keep.cons rfl (Keep.cons rfl (Keep.cons rfl (Keep.cons rfl (Keep.cons rfl (Keep.cons rfl (Keep.cons rfl (Keep.app rfl (Keep.rm rfl Keep.base)))))))))))))))))))))))))))))))))⟩, by omega⟩
   ·have hG2 := hg2; try simp only [gS] at hG2
    refine sy_exit ?_
    refine then_e ?_
    refine then_e ?_
    refine blk_e ?_
    refine then_n ?_
    refine sy_seq ?_
    refine sy_seq ?_
    have hkR : k = d.r.length + 1 := by omega
    have hsw : sW d i k = countV d := by rw [hkR]; exact sumN_all hV
    refine sy_ops ?_
    refine o_v hf hh (yv_move rfl) ?_; clear hf a; intro a hf
    refine o_v hf hh (y_ld Tryd.sc_3 rfl) ?_; clear hf a; intro a hf
    refine o_v hf hh (yv_bin rfl rfl rfl) ?_; clear hf a; intro a hf
    refine o_end ?_
    refine c_f hf ?_
    refine sy_skip ?_
    refine then_n ?_
    refine sy_sq ?_
    refine o_v hf hh (yv_move rfl) ?_; clear hf a; intro a hf
    refine o_v hf hh (yv_assign rfl) ?_; clear hf a; intro a hf
    refine o_end ?_
    refine sy_ret ?_
    refine ret_r hf rfl rfl ?_
    first
      | exact ⟨rfl, hh.ext⟩
      | (rw [hkR]; exact ⟨rfl, hh.ext⟩)
end Go.Proofs.YtemmhdgaagaglaaDoor
namespace Go.Proofs.YtemmhdgaagaglaaDoor
open Go Go.Sy Go.MatM
set_option maxRecDepth 100000 in
set_option maxHeartbeats 4000000 in
theorem c6 (d : RowsD) (sa sb : Option Addr) (ca cb : Nat) (u : World) (hA : MkAt u sa d.l) (hB : MkAt u sb d.r) (hT : GTab u) (hca : d.l.length ≤ ca) (hcb : d.r.length ≤ cb) (b8 : Int) (hb8 : 0 ≤ b8 ∧ b8 ≤ 255) : Calls Tryd.prog 6 #[rowsV d sa sb ca cb, .int .u8 b8] u (Ret fun v w' => v = .bool true ∧ Ext [] u w') := by
  refine calls_of Tryd.func6 rfl rfl (fun a hf => ?_)
  have hh := Hp.init u []
  refine sy_sq ?_
  refine o_box hf hh ?_; clear hf hh a; intro B2 a w hf hh
  refine o_v hf hh (yv_assign rfl) ?_; clear hf a; intro a hf
  refine o_end ?_
  refine sy_seq ?_
  refine sy_sq ?_
  refine o_v hf hh (y_lds Tryd.ag_26 rfl) ?_; clear hf a; intro a hf
  refine o_call hf Tryd.en_13 rfl rfl rfl (c13 d sa sb ca cb _ (hA.ext hh.ext) (hB.ext hh.ext) 10) ?_; clear hf a; intro v a w hR hf
  obtain ⟨rfl, hx⟩ := hR; replace hh := hh.more hx; clear hx
  refine o_v hf hh (yv_move rfl) ?_; clear hf a; intro a hf
  refine guard_split hf (t := 15) rfl (fun hg2 => ?_) (fun hg2 => ?_)
  ·have hG2 := hg2; try simp only [gS] at hG2
   refine o_off hf ?_; clear hf a; intro a hf
   refine o_off hf ?_; clear hf a; intro a hf
   refine o_off hf ?_; clear hf a; intro a hf
   refine o_v hf hh (y_pt rfl rfl) ?_; clear hf a; intro a hf
   refine o_end ?_
   refine c_t hf ?_
   refine sy_sq ?_
   refine o_call hf Tryd.en_14 rfl rfl rfl (c14 _ (hT.ext hh.ext (by simp))) ?_; clear hf a; intro v a w hR hf
   obtain ⟨rfl, hx⟩ := hR; replace hh := hh.more hx; clear hx
   refine o_v hf hh (yv_assign rfl) ?_; clear hf a; intro a hf
   refine o_end ?_
   refine sy_ret ?_
   refine then_r ?_
   refine ret_r hf rfl rfl ?_
   exact ⟨rfl, hh.ext⟩
  ·have hG2 := hg2; try simp only [gS] at hG2
   refine o_v hf hh (y_lds Tryd.ag_26 rfl) ?_; clear hf a; intro a hf
   have hlen : d.l.length ≤ 24 ∧ d.r.length ≤ 24 := by first | (simp_all; done) | (simp_all; omega)
   refine o_call hf Tryd.en_26 rfl rfl rfl (c26 d sa sb ca cb _ (hA.ext hh.ext) (hB.ext hh.ext) (by omega) (by omega)) ?_; clear hf a; intro v a w hR hf
   obtain ⟨rfl, hx⟩ := hR; replace hh := hh.more hx; clear hx
   refine o_v hf hh (yv_not rfl) ?_; clear hf a; intro a hf
   refine o_v hf hh (y_pf rfl rfl) ?_; clear hf a; intro a hf
   refine o_end ?_
   refine sy_cond hf rfl (fun hg5 => ?_) (fun hg5 => ?_)
   ·have hG5 := hg5; try simp only [gS] at hG5
    refine sy_sq ?_
    refine o_call hf Tryd.en_14 rfl rfl rfl (c14 _ (hT.ext hh.ext (by simp))) ?_; clear hf a; intro v a w hR hf
    obtain ⟨rfl, hx⟩ := hR; replace hh := hh.more hx; clear hx
    refine o_v hf hh (yv_assign rfl) ?_; clear hf a; intro a hf
    refine o_end ?_
    refine sy_ret ?_
    refine then_r ?_
    refine ret_r hf rfl rfl ?_
    exact ⟨rfl, hh.ext⟩
   ·have hG5 := hg5; try simp only [gS] at hG5
    refine sy_skip ?_
    refine then_n ?_
    refine sy_seq ?_
    have hok : okRows d = true := by simp_all
    have hV := (okRows_iff d).1 hok
    have hnl := hV.nl; have hnr := hV.nr
    have hlen : d.l.length ≤ 24 ∧ d.r.length ≤ 24 := ⟨by omega, by omega⟩
    have hcE : countE d = 0 := by unfold countE; rw [if_pos hok]
    refine sy_ops ?_
    refine o_v hf hh (y_lds Tryd.ag_26 rfl) ?_; clear hf a; intro a hf
    refine o_call hf Tryd.en_17 rfl rfl rfl (c17 d sa sb ca cb _ (hA.ext hh.ext) (hB.ext hh.ext)) ?_; clear hf a; intro v a w hR hf
    rw [hcE] at hR
    obtain ⟨rfl, hx⟩ := hR; replace hh := hh.more hx; clear hx
    refine o_v hf hh (yv_move rfl) ?_; clear hf a; intro a hf
    refine o_v hf hh (yv_extract rfl rfl) ?_; clear hf a; intro a hf
    refine o_v hf hh (yv_extract rfl rfl) ?_; clear hf a; intro a hf
    refine o_alloc hf hh Tryd.ze_3 ?_; clear hf hh a; intro B5 a w hf hh
    refine o_store hf hh Tryd.sz_3 fun w hh => ?_
    refine o_v hf hh (yv_assign rfl) ?_; clear hf a; intro a hf
    refine o_end ?_
    refine sy_sq ?_
    refine o_v hf hh (y_lds Tryd.ag_26 rfl) ?_; clear hf a; intro a hf
    refine o_call hf Tryd.en_24 rfl rfl rfl (c24 d sa sb ca cb _ (hA.ext hh.ext) (hB.ext hh.ext)) ?_; clear hf a; intro v a w hR hf
    obtain ⟨rfl, hx⟩ := hR; replace hh := hh.more hx; clear hx
    refine o_v hf hh (yv_move rfl) ?_; clear hf a; intro a hf
    refine o_v hf hh (yv_extract rfl rfl) ?_; clear hf a; intro a hf
    refine o_v hf hh (yv_extract rfl rfl) ?_; clear hf a; intro a hf
    refine o_v hf hh (yv_extract rfl rfl) ?_; clear hf a; intro a hf
    refine o_v hf hh (yv_assign rfl) ?_; clear hf a; intro a hf
    refine o_v hf hh (yv_assign rfl) ?_; clear hf a; intro a hf
    refine o_v hf hh (yv_assign rfl) ?_; clear hf a; intro a hf
    refine o_end ?_
    refine sy_seq ?_
    refine sy_sq ?_
    refine o_v hf hh (yv_move rfl) ?_; clear hf a; intro a hf
    refine o_v hf hh (yv_bin rfl rfl rfl) ?_; clear hf a; intro a hf
    refine o_end ?_
    refine c_f hf ?_
    refine sy_skip ?_
    refine then_n ?_
    refine sy_seq ?_
    refine sy_sq ?_
    refine o_v hf hh (y_ld Tryd.sc_3 rfl) ?_; clear hf a; intro a hf
    refine o_v hf hh (yv_bin rfl rfl rfl) ?_; clear hf a; intro a hf
    refine o_end ?_
    refine sy_cond hf rfl (fun hg16 => ?_) (fun hg16 => ?_)
    ·have hG16 := hg16; try simp only [gS] at hG16
     refine sy_seq ?_
     obtain ⟨ha4, ha0⟩ := ask_few hV (by omega)
     have e7 : (askV d).1 = 0 := by rw [ha0]
     have e8 : (askV d).2 = 0 := by rw [ha0]
     refine sy_ops ?_
     refine o_v hf hh (yv_move rfl) ?_; clear hf a; intro a hf
     refine o_v hf hh (yv_bin rfl rfl rfl) ?_; clear hf a; intro a hf
     refine o_v hf hh (yv_move rfl) ?_; clear hf a; intro a hf
     refine o_v hf hh (yv_move rfl) ?_; clear hf a; intro a hf
     refine o_v hf hh (yv_bin rfl rfl rfl) ?_; clear hf a; intro a hf
     refine o_v hf hh (y_pt rfl rfl) ?_; clear hf a; intro a hf
     refine o_v hf hh (yv_move rfl) ?_; clear hf a; intro a hf
     refine o_v hf hh (yv_move rfl) ?_; clear hf a; intro a hf
     refine o_v hf hh (yv_bin rfl rfl rfl) ?_; clear hf a; intro a hf
     refine o_v hf hh (y_pt rfl rfl) ?_; clear hf a; intro a hf
     refine o_v hf hh (yv_move rfl) ?_; clear hf a; intro a hf
     refine o_call hf Tryd.en_14 rfl rfl rfl (c14 _ (hT.ext hh.ext (by simp))) ?_; clear hf a; intro v a w hR hf
     obtain ⟨rfl, hx⟩ := hR; replace hh := hh.more hx; clear hx
     refine o_v hf hh (y_pt rfl rfl) ?_; clear hf a; intro a hf
     refine o_v hf hh (yv_assign rfl) ?_; clear hf a; intro a hf
     refine o_end ?_
     refine sy_ret ?_
     refine then_r ?_
     refine ret_r hf rfl rfl ?_
     exact ⟨rfl, hh.ext⟩
    ·have hG16 := hg16; try simp only [gS] at hG16
     refine sy_skip ?_
     refine then_n ?_
     refine sy_seq ?_
     refine sy_seq ?_
     obtain ⟨hE0, hl0, l, hll, hv, hw1, hw2, hmin⟩ := ask_most hV (by omega)
     have e7 : (askV d).1 = (l : Int) := by rw [hv]
     have e8 : (askV d).2 = worstN d l d.r.length := by rw [hv]
     obtain ⟨x, hx, hxl⟩ : ∃ x : Nat, b8 % ((d.l.length : Nat) : Int) = (x : Int) ∧ x < d.l.length := by
       have h1 := Int.emod_nonneg b8 (show ((d.l.length : Nat) : Int) ≠ 0 by omega)
       have h2 := Int.emod_lt_of_pos b8 (show (0 : Int) < ((d.l.length : Nat) : Int) by omega)
       exact ⟨(b8 % ((d.l.length : Nat) : Int)).toNat, by omega, by omega⟩
     have hmx := hmin x hxl
     refine sy_ops ?_
     refine o_v hf hh (yv_move rfl) ?_; clear hf a; intro a hf
     refine o_v hf hh (yv_bin rfl rfl rfl) ?_; clear hf a; intro a hf
     refine o_v hf hh (yv_move rfl) ?_; clear hf a; intro a hf
     refine o_v hf hh (yv_move rfl) ?_; clear hf a; intro a hf
     refine o_v hf hh (yv_bin rfl rfl rfl) ?_; clear hf a; intro a hf
     refine o_v hf hh (y_pf rfl rfl) ?_; clear hf a; intro a hf
     refine o_v hf hh (yv_move rfl) ?_; clear hf a; intro a hf
     refine o_v hf hh (yv_move rfl) ?_; clear hf a; intro a hf
     refine o_v hf hh (yv_fieldAddr Tryd.fo_26_0 rfl) ?_; clear hf a; intro a hf
     refine o_v hf hh (y_ld Tryd.sc_22 rfl) ?_; clear hf a; intro a hf
     refine o_v hf hh (yv_len Tryd.se_22 rfl) ?_; clear hf a; intro a hf
     refine o_v hf hh (yv_bin rfl rfl rfl) ?_; clear hf a; intro a hf
     refine o_v hf hh (y_pf rfl rfl) ?_; clear hf a; intro a hf
     refine o_v hf hh (yv_move rfl) ?_; clear hf a; intro a hf
     refine o_v hf hh (yv_move rfl) ?_; clear hf a; intro a hf
     refine o_v hf hh (yv_bin rfl rfl rfl) ?_; clear hf a; intro a hf
     refine o_v hf hh (y_pf rfl rfl) ?_; clear hf a; intro a hf
     refine o_v hf hh (yv_move rfl) ?_; clear hf a; intro a hf
     refine o_v hf hh (yv_move rfl) ?_; clear hf a; intro a hf
     refine o_v hf hh (y_ld Tryd.sc_3 rfl) ?_; clear hf a; intro a hf
     refine o_v hf hh (yv_bin rfl rfl rfl) ?_; clear hf a; intro a hf
     refine o_v hf hh (y_pf rfl rfl) ?_; clear hf a; intro a hf
     refine o_end ?_
     refine c_f hf ?_
     refine sy_skip ?_
     refine then_n ?_
     refine sy_sq ?_
     refine o_v hf hh (yv_makeFunc rfl rfl) ?_; clear hf a; intro a hf
     refine o_v hf hh (yv_assign rfl) ?_; clear hf a; intro a hf
     refine o_end ?_
     refine sy_sq ?_
     refine o_v hf hh (yv_move rfl) ?_; clear hf a; intro a hf
     refine o_v hf hh (yv_convx (.inl rfl) (by kernel_rfl) Tryd.un_3 rfl (by omega) (by simp only [IntKind.top]; omega)) ?_; clear hf a; intro a hf
     refine o_v hf hh (yv_fieldAddr Tryd.fo_26_0 rfl) ?_; clear hf a; intro a hf
     refine o_v hf hh (y_ld Tryd.sc_22 rfl) ?_; clear hf a; intro a hf
     refine o_v hf hh (yv_len Tryd.se_22 rfl) ?_; clear hf a; intro a hf
     refine ops_v hf hh (yv_cast (yv_rem rfl rfl (by omega) (by omega)) (intv (b := ((x : Nat) : Int)) hx)) (.inl rfl) rfl rfl rfl ?_; clear hf a; intro a hf
     refine o_v hf hh (yv_assign rfl) ?_; clear hf a; intro a hf
     refine o_end ?_
     refine sy_sq ?_
     refine o_v hf hh (yv_move rfl) ?_; clear hf a; intro a hf
     refine o_v hf hh (yv_move rfl) ?_; clear hf a; intro a hf
     refine o_call hf Tryd.en_27 rfl rfl rfl (c27 d sa sb ca cb _ (hA.ext hh.ext) (hB.ext hh.ext) hV hca hcb x hxl B2 B5 (hh.get (B2, .cells (rowsV d sa sb ca cb).cells 26) (by simp)) (hh.at (i := 0) rfl)) ?_; clear hf a; intro v a w hR hf
     obtain ⟨rfl, hx⟩ := hR; replace hh := hh.more hx; clear hx
     refine o_v hf hh (yv_assign rfl) ?_; clear hf a; intro a hf
     refine o_end ?_
     refine sy_sq ?_
     refine o_v hf hh (yv_move rfl) ?_; clear hf a; intro a hf
     refine ops_v hf hh (yv_cast (yv_move rfl) (intv (b := ((l : Nat) : Int)) e7)) (.inl rfl) rfl rfl rfl ?_; clear hf a; intro a hf
     refine o_call hf Tryd.en_27 rfl rfl rfl (c27 d sa sb ca cb _ (hA.ext hh.ext) (hB.ext hh.ext) hV hca hcb l hll B2 B5 (hh.get (B2, .cells (rowsV d sa sb ca cb).cells 26) (by simp)) (hh.at (i := 0) rfl)) ?_; clear hf a; intro v a w hR hf
     obtain ⟨rfl, hx⟩ := hR; replace hh := hh.more hx; clear hx
     refine o_v hf hh (yv_move rfl) ?_; clear hf a; intro a hf
     refine o_v hf hh (yv_bin rfl rfl rfl) ?_; clear hf a; intro a hf
     refine o_v hf hh (yv_move rfl) ?_; clear hf a; intro a hf
     refine o_v hf hh (yv_move rfl) ?_; clear hf a; intro a hf
     refine o_v hf hh (yv_move rfl) ?_; clear hf a; intro a hf
     refine o_v hf hh (yv_bin rfl rfl rfl) ?_; clear hf a; intro a hf
     refine o_v hf hh (yv_move rfl) ?_; clear hf a; intro a hf
     refine guard_split hf (t := 90) rfl (fun hg33 => ?_) (fun hg33 => ?_)
     ·have hG33 := hg33; try simp only [gS] at hG33
      refine o_off hf ?_; clear hf a; intro a hf
      refine o_off hf ?_; clear hf a; intro a hf
      refine o_off hf ?_; clear hf a; intro a hf
      refine o_off hf ?_; clear hf a; intro a hf
      refine o_off hf ?_; clear hf a; intro a hf
      refine o_off hf ?_; clear hf a; intro a hf
      refine o_off hf ?_; clear hf a; intro a hf
      refine o_off hf ?_; clear hf a; intro a hf
      refine o_v hf hh (y_pt rfl rfl) ?_; clear hf a; intro a hf
      refine o_v hf hh (y_pt rfl rfl) ?_; clear hf a; intro a hf
      refine o_v hf hh (yv_move rfl) ?_; clear hf a; intro a hf
      refine o_call hf Tryd.en_14 rfl rfl rfl (c14 _ (hT.ext hh.ext (by simp))) ?_; clear hf a; intro v a w hR hf
      obtain ⟨rfl, hx⟩ := hR; replace hh := hh.more hx; clear hx
      refine o_v hf hh (y_pt rfl rfl) ?_; clear hf a; intro a hf
      refine o_v hf hh (yv_assign rfl) ?_; clear hf a; intro a hf
      refine o_end ?_
      refine sy_ret ?_
      refine ret_r hf rfl rfl ?_
      exact ⟨rfl, hh.ext⟩
     ·have hG33 := hg33; try simp only [gS] at hG33
      refine o_v hf hh (yv_move rfl) ?_; clear hf a; intro a hf
      refine o_v hf hh (yv_move rfl) ?_; clear hf a; intro a hf
      refine o_v hf hh (yv_bin rfl rfl rfl) ?_; clear hf a; intro a hf
      refine o_v hf hh (yv_move rfl) ?_; clear hf a; intro a hf
      refine o_v hf hh (yv_move rfl) ?_; clear hf a; intro a hf
      refine o_v hf hh (yv_move rfl) ?_; clear hf a; intro a hf
      refine o_v hf hh (yv_bin rfl rfl rfl) ?_; clear hf a; intro a hf
      refine o_v hf hh (y_pt rfl rfl) ?_; clear hf a; intro a hf
      refine o_v hf hh (y_pf rfl rfl) ?_; clear hf a; intro a hf
      refine o_v hf hh (y_pt rfl rfl) ?_; clear hf a; intro a hf
      refine o_v hf hh (yv_move rfl) ?_; clear hf a; intro a hf
      refine o_call hf Tryd.en_14 rfl rfl rfl (c14 _ (hT.ext hh.ext (by simp))) ?_; clear hf a; intro v a w hR hf
      obtain ⟨rfl, hx⟩ := hR; replace hh := hh.more hx; clear hx
      refine o_v hf hh (y_pt rfl rfl) ?_; clear hf a; intro a hf
      refine o_v hf hh (yv_assign rfl) ?_; clear hf a; intro a hf
      refine o_end ?_
      refine sy_ret ?_
      refine ret_r hf rfl rfl ?_
      exact ⟨rfl, hh.ext⟩
end Go.Proofs.YtemmhdgaagaglaaDoor
namespace Go.Proofs.YtemmhdgaagaglaaDoor
open Go Go.Sy Go.MatM Go.ChangeShapes Go.WideShapes Go.Deep Go.RowKit
theorem hs26 : Tryd.prog.underlying 26 = some (.struct (Tryd.prog.fieldsOf 26)) := by kernel_rfl
theorem fs26 : (Tryd.prog.fieldsOf 26).map (fun f => (f.offset, f.type)) = #[(0, 22), (1, 22), (2, 24), (4, 3)] := by kernel_rfl
theorem co26 : Tryd.prog.cellsOf 26 = 5 := by kernel_rfl
theorem co22 : Tryd.prog.cellsOf 22 = 1 := by kernel_rfl
theorem co24 : Tryd.prog.cellsOf 24 = 2 := by kernel_rfl
theorem co3 : Tryd.prog.cellsOf 3 = 1 := by kernel_rfl
theorem un22 : Tryd.prog.underlying 22 = some (.slice 53) := by kernel_rfl
theorem fk53 : flK Tryd.prog .i64 9 53 = some 4 := by kernel_rfl
theorem fk24 : flK Tryd.prog .i64 9 24 = some 2 := by kernel_rfl
theorem fk3 : flK Tryd.prog .i64 9 3 = some 1 := by kernel_rfl
def toMk (p : List Int) : Mk := match p with
  | [x, y, z, t] => ⟨x, y, z, t⟩
  | _ => ⟨0, 0, 0, 0⟩
theorem mkAt_flat {W : World} {sa : Option Addr} {l : List (List Int)} (hl : ∀ p ∈ l, p.length = 4) (h : FlatAt W .i64 sa 4 l) : MkAt W sa (l.map toMk) := fun i s hi => by
  rw [List.getElem?_map] at hi
  cases hp : l[i]? with
  | none => rw [hp] at hi; cases hi
  | some p =>
    rw [hp] at hi
    cases hi
    obtain ⟨blk, off, c, T, fr, h1, h2, h3⟩ := h i p hp
    refine ⟨blk, off, c, T, fr, h1, h2, ?_⟩
    rw [h3]
    match p, hl p (List.mem_of_getElem? hp) with
    | [x, y, z, t], _ => rfl
theorem len5 {l : List Value} (h : l.length = 5) : ∃ a b c d e, l = [a, b, c, d, e] := by
  match l, h with
  | [a, b, c, d, e], _ => exact ⟨a, b, c, d, e, rfl⟩
section
variable {H : Type} {enc : TypeId × Value → H} {W : World} {base : Nat} {spare : Nat → Bool} {held : Bool}
set_option maxRecDepth 100000 in
theorem openRows {r : Reach} {b0 : Nat} {v : Value} {d : DataW H} {p : List MemPlace} (hv : Value.okWide Tryd.prog W r b0 26 v) (h : DataW.Trod enc Tryd.prog W base spare held 26 v d p) : ∃ (d : RowsD) (sa sb : Option Addr) (ca cb : Nat), v = rowsV d sa sb ca cb ∧ MkAt W sa d.l ∧ MkAt W sb d.r ∧ (-9223372036854775808 ≤ d.hid ∧ d.hid ≤ 9223372036854775807) := by
  obtain ⟨cs, rfl, hsz⟩ := okWide_struct hs26 hv
  obtain ⟨fuel, h⟩ := h
  obtain ⟨_, hf⟩ := trod_field hs26 h
  rw [fs26] at hf
  rw [co26] at hsz
  obtain ⟨l, rfl⟩ : ∃ l : List Value, cs = l.toArray := ⟨cs.toList, by simp⟩
  obtain ⟨c0, c1, c2, c3, c4, rfl⟩ := len5 (by simpa using hsz)
  replace hf : ∀ (i o : Nat) (u : TypeId) (c : Nat), (#[(0, 22), (1, 22), (2, 24), (4, 3)] : Array (Nat × TypeId))[i]? = some (o, u) → Tryd.prog.cellsOf u = c → ∃ n y, DataW.trod enc Tryd.prog W base spare held n u (([c0, c1, c2, c3, c4].drop o).take c) = some y := hf
  obtain ⟨_, _, g0⟩ := hf 0 0 22 1 rfl co22
  obtain ⟨_, _, g1⟩ := hf 1 1 22 1 rfl co22
  obtain ⟨_, _, g2⟩ := hf 2 2 24 2 rfl co24
  obtain ⟨_, _, g3⟩ := hf 3 4 3 1 rfl co3
  obtain ⟨l0, sa, ca, e0, _, b0', f0⟩ := trod_slices un22 fk53 (by omega) g0
  obtain ⟨l1, sb, cb, e1, _, b1, f1⟩ := trod_slices un22 fk53 (by omega) g1
  obtain ⟨p2, q2, e2, _⟩ := trod_fl fk24 g2
  obtain ⟨p3, q3, e3, w3⟩ := trod_fl fk3 g3
  obtain ⟨lo, hi, rfl⟩ : ∃ x y, p2 = [x, y] := by
    match p2, q2 with
    | [x, y], _ => exact ⟨x, y, rfl⟩
  obtain ⟨hid, rfl⟩ : ∃ x, p3 = [x] := by
    match p3, q3 with
    | [x], _ => exact ⟨x, rfl⟩
  simp at e0 e1 e2 e3
  obtain ⟨rfl, rfl⟩ := e2
  subst e0; subst e1; subst e3
  exact ⟨⟨l0.map toMk, l1.map toMk, lo, hi, hid⟩, sa, sb, ca, cb, by simp, mkAt_flat (fun p hp => (b0' p hp).1) f0, mkAt_flat (fun p hp => (b1 p hp).1) f1, wf64 (w3 hid (by simp))⟩
end
theorem un43 : Tryd.prog.underlying 43 = some (.slice 5) := by kernel_rfl
theorem fk5 : flK Tryd.prog .u8 9 5 = some 1 := by kernel_rfl
theorem gn1 : Tryd.prog.globalNamed "math/bits.deBruijn64tab" = some 1 := by kernel_rfl
theorem gt1 : (Tryd.prog.globals[1]?).map (·.type) = some 137 := by kernel_rfl
theorem untab : Tryd.prog.underlying 137 = some (.array 64 5) := by kernel_rfl
theorem un5 : Tryd.prog.underlying 5 = some (.int .u8) := by kernel_rfl
theorem co5 : Tryd.prog.cellsOf 5 = 1 := by kernel_rfl
theorem tab_data : (Rows.laid_math_bits_deBruijn64tab : DataW Unit) = .agg (Lib.deBruijn64tab.map fun (k : Nat) => .lit (.int .u8 (k : Int))) := by kernel_rfl
theorem tab_len : Lib.deBruijn64tab.length = 64 := by kernel_rfl
theorem gTab_of_laid {W : World} {l : List (String × DataW Unit)} (hm : ("math/bits.deBruijn64tab", Rows.laid_math_bits_deBruijn64tab) ∈ l) (h : laidMet Tryd.prog l W) : GTab W := by
  obtain ⟨g, t, cs, fuel, p, h1, h2, h3, h4⟩ := Lib.laidMet.reads h hm
  obtain rfl : 1 = g := Option.some.inj (gn1.symm.trans h1)
  obtain rfl : 137 = t := Option.some.inj (gt1.symm.trans h2)
  rw [tab_data] at h4
  have hb : ∃ T fr, W.heap[1]? = some (.cells cs T fr) := by
    simp only [World.var?, gn1, Option.bind_some] at h3
    split at h3
    · rename_i c T fr hc
      cases h3; exact ⟨T, fr, hc⟩
    · cases h3
  obtain ⟨T, fr, hb⟩ := hb
  refine ⟨cs, T, fr, hb, fun j hj => ?_⟩
  obtain ⟨fuel', d, q, hd, ht⟩ := Lib.array_elem untab h4 j hj
  rw [co5, Nat.mul_one] at ht
  obtain ⟨n, e1, e2, _⟩ := DataW.trod_int un5 ht
  rw [List.getElem?_map] at hd
  have hjl : j < Lib.deBruijn64tab.length := by rw [tab_len]; exact hj
  rw [List.getElem?_eq_getElem hjl] at hd
  have hd := Option.some.inj hd
  have e3 : d = .lit (.int .u8 n) := congrArg Prod.fst e2
  rw [e3] at hd
  have hn : n = ((Lib.deBruijn64tab[j] : Nat) : Int) := by injection hd with hd; injection hd with _ hd; exact hd.symm
  have h5 := congrArg (·[0]?) e1
  simp only [List.getElem?_take, List.getElem?_drop, Nat.add_zero] at h5
  have h6 : cs[j]? = some (.int .u8 n) := by simpa using h5
  rw [h6, hn, List.getD_eq_getElem?_getD, List.getElem?_eq_getElem hjl]; rfl
theorem own : ownKnob Tryd.prog.godebug = none := by kernel_rfl
theorem laidWorld_met (os : Os) (args : Array Value) : laidMetH Tryd.prog Rows.matchNamesRow.laid ((World.laidAll Tryd.prog os Rows.matchNamesRow.laid).forCall (fun _ _ => 0) ⟨#[], args, []⟩).memory :=
  laidMetH_of_parts (laidMet_laidAll args (by kernel_rfl) (by kernel_rfl)) (by kernel_rfl)
theorem un4 : Tryd.prog.underlying 4 = some .bool := by kernel_rfl
end Go.Proofs.YtemmhdgaagaglaaDoor
