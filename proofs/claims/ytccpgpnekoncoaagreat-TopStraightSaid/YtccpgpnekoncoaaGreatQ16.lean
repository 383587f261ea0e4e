/- Lemmas, in order: The best sure order. The best sure order; the one with the most views.. -/
import Derived.Test.YtccpgpnekoncoaaGreatQ15
namespace Go.Proofs.YtccpgpnekoncoaaGreat
open Go Go.Sy Go.WalM
theorem key140 : KeyOk Tryz.prog 140 encK := keyFlat ints3 ints3_inj (fun _ => rfl) (show flatB Tryz.prog 140 = some 3 by kernel_rfl) (show Tryz.prog.underlying 140 = some (.struct (Tryz.prog.fieldsOf 140)) by kernel_rfl) (fun _ _ => rfl)
theorem mke137 : mapKE Tryz.prog 137 = some (140, 74) := by kernel_rfl
theorem zero74 : zeroOf Tryz.prog 74 = some (.agg #[.slice none 0 0, .int .i64 0]) := by kernel_rfl
/-- What one call of the search leaves. -/
def BestR (t : TourD) (u : World) (bm : Nat) (K : List (Nat × Obj)) (s : Key3) (v : Value) (w : World) : Prop :=
  ∃ es c K', PlnF t (K' ++ K) s v ∧ MemoR encK (PlnF t (K' ++ K)) es ∧ Hp u [bm] ((bm, .map es c) :: K') w
set_option maxRecDepth 100000 in
set_option maxHeartbeats 2000000 in
theorem k72 (t : TourD) (p : TPl) (Bt Bm Br Bf bm : Nat) (hO : TourOk t) : ∀ (r seen : Nat) (fr left : Int) (cm : Nat) (es : Array MapEntry) (K : List (Nat × Obj)) (u : World) (hu : unS t seen = r) (hm : u.heap[bm]? = some (.map es cm)) (hM : MemoR encK (PlnF t K) es) (hK : ∀ q ∈ K, u.heap[q.1]? = some q.2) (hKn : ∀ q ∈ K, q.1 ≠ bm)
    (hC : BeC u t p Bt Bm Br Bf bm 136 137 75 138 72) (hfr : IsFr t fr) (hl : 0 ≤ left ∧ left ≤ 2880) (hs : seen < 64),
    Calls Tryz.prog 72 #[encK (seen, fr, left), ptr Bm 0, ptr Br 0, ptr Bf 0] u (Ret fun v w' => BestR t u bm K (seen, fr, left) v w') := by
  obtain ⟨sf, sw, ss, sl, cf, cw, cs, cl, rows⟩ := p
  intro r
  induction r using Nat.strongRecOn with
  | _ r ih =>
    intro seen fr left cm es K u hu hm hM hK hKn hC hfr hl hs
    have hmo : MapsOnlyW [bm] u := by intro b hb; rw [List.mem_singleton.1 hb]; exact ⟨es, cm, hm⟩
    have c1 := hC.b; have c2 := hC.m; have c3 := hC.r; have c4 := hC.f
    have nn : ∀ {B : Nat} {c : Array Value} {T : TypeId} {fr : Nat × Nat}, u.heap[B]? = some (.cells c T fr) → B ∉ [bm] := fun {B c T fr} h h2 => by rw [List.mem_singleton.1 h2, hm] at h; cases h
    have n1 := nn c1; have n2 := nn c2; have n3 := nn c3; have n4 := nn c4
    have hn6 : t.fr.length ≤ 6 := hO.n6
    have hsl : t.stay.length = t.fr.length := hO.sl
    have hKw : ∀ w : World, Ext [bm] u w → ∀ q ∈ K, w.heap[q.1]? = some q.2 := fun w e q h => by
      have h1 := hK q h
      rw [e.block q.1 (Array.getElem?_eq_some_iff.1 h1).1 (by rw [List.mem_singleton]; exact hKn q h)]; exact h1
    refine calls_of Tryz.func72 rfl rfl (fun a hf => ?_)
    have hh := Hp.init1 hm
    refine sy_sq ?_
    refine o_box hf hh ?_; clear hf hh a; intro B4 a w hf hh
    refine o_alloc hf hh Tryz.ze_74 ?_; clear hf hh a; intro B5 a w hf hh
    refine o_end ?_
    refine sy_scope ?_
    refine sy_seq ?_
    refine sy_seq ?_
    replace hh : Hp u [bm] [(B5, .cells #[.slice none 0 0, .int .i64 0] 74), (B4, .cells #[.int .i64 (seen : Nat), .int .i64 fr, .int .i64 left] 140), (bm, .map es cm)] w := hh
    refine sy_ops ?_
    refine o_v hf hh (y_ld Tryz.sc_137 rfl) ?_; clear hf a; intro a hf
    refine o_v hf hh (y_lds Tryz.ag_140 rfl) ?_; clear hf a; intro a hf
    refine ops_lookupR (i := 2) (p := ((seen, fr, left) : Key3)) hf hh key140 mke137 zero74 rfl rfl rfl hM (.inl rfl) rfl fun b v6 a hv6 hf => ?_
    obtain ⟨pl0, rfl, hpl0⟩ : ∃ q : PlnD, v6 = plnV q ∧ (b = true → q.1 = bestF t seen fr left ∧ ∀ w : World, (∀ x ∈ K, w.heap[x.1]? = some x.2) → PlnAt w q) := by
      cases b
      · exact ⟨(([], 0), none, 0), hv6, fun h => by cases h⟩
      · obtain ⟨q, h1, h2, h3⟩ := hv6
        exact ⟨q, h1, fun _ => ⟨h2, h3⟩⟩
    refine o_v hf hh (yv_move rfl) ?_; clear hf a; intro a hf
    refine o_v hf hh (yv_extract rfl rfl) ?_; clear hf a; intro a hf
    refine o_v hf hh (yv_extract rfl rfl) ?_; clear hf a; intro a hf
    refine o_alloc hf hh Tryz.ze_74 ?_; clear hf hh a; intro B6 a w hf hh
    refine o_store hf hh Tryz.sz_74 fun w hh => ?_
    refine o_v hf hh (yv_assign rfl) ?_; clear hf a; intro a hf
    refine o_end ?_
    refine sy_sq ?_
    refine o_v hf hh (yv_move rfl) ?_; clear hf a; intro a hf
    refine o_end ?_
    refine sy_cond hf rfl (fun hg4 => ?_) (fun hg4 => ?_)
    ·have hG4 := hg4; try simp only [gS] at hG4
     refine sy_sq ?_
     refine o_v hf hh (y_lds Tryz.ag_74 rfl) ?_; clear hf a; intro a hf
     refine o_store hf hh Tryz.sz_74 fun w hh => ?_
     refine o_end ?_
     refine sy_ret ?_
     refine then_r ?_
     refine ng_r ?_
     refine ret_c (vs := [plnV pl0]) hf ?_ ?_
     · exact ⟨⟨B5, 0, _, _, _, rfl, hh.at (i := 1) rfl, .inr ⟨2, _, Tryz.ag_74, rfl, rfl⟩⟩, True.intro⟩
     · exact ⟨es, cm, [], ⟨pl0, rfl, (hpl0 (by assumption)).1, fun w h => (hpl0 (by assumption)).2 w h⟩, hM, hh.pick [3]⟩
    ·have hG4 := hg4; try simp only [gS] at hG4
     refine sy_skip ?_
     refine then_n ?_
     refine sy_sq ?_
     refine o_v hf hh (yv_fieldAddr Tryz.fo_140_2 rfl) ?_; clear hf a; intro a hf
     refine o_v hf hh (y_ld Tryz.sc_3 rfl) ?_; clear hf a; intro a hf
     refine o_v hf hh (yv_buildS Tryz.bs_74 rfl rfl) ?_; clear hf a; intro a hf
     refine ops_buildSl hf hh Tryz.bl_142_1 rfl rfl (.inl rfl) rfl ?_; clear hf hh; clear a; intro B23 a w hf hh
     refine o_v hf hh (yv_assign rfl) ?_; clear hf a; intro a hf
     refine o_end ?_
     refine sy_seq ?_
     refine sy_label ?_
     refine then_n ?_
     refine sy_seq ?_
     refine sy_sq ?_
     refine o_v hf hh (y_ld Tryz.sc_75 rfl) ?_; clear hf a; intro a hf
     refine o_v hf hh (yv_nilCheck rfl) ?_; clear hf a; intro a hf
     refine o_v hf hh (yv_fieldAddr Tryz.fo_136_1 rfl) ?_; clear hf a; intro a hf
     refine o_v hf hh (y_ld Tryz.sc_3 rfl) ?_; clear hf a; intro a hf
     refine o_v hf hh (yv_move rfl) ?_; clear hf a; intro a hf
     refine o_end ?_
     refine sy_block ?_
     refine sy_loopH (σ := (Nat × Array MapEntry × Nat) × List PlnD × Value × List (Nat × Obj) × List (Nat × Obj)) [8, 9, 10, 11, 28, 29, 30, 31, 32, 33, 34, 35, 36, 37, 38, 39, 40, 41, 42, 43, 44, 45, 46, 47, 48, 49, 50, 51, 52, 53, 54, 55, 56, 57, 58, 59, 60, 61, 62, 63, 64, 65, 66, 67, 68, 69, 70, 71, 72, 73, 74, 75, 76, 77, 78, 79, 80, 81, 82, 83, 84] (fun s => [(28, .int .i64 (s.1.1 : Nat)), (8, s.2.2.1)]) (fun s => fun w' => s.1.1 ≤ t.fr.length ∧ MemoR encK (PlnF t (s.2.2.2.2 ++ K)) s.1.2.1 ∧ OwnSl 74 2 s.2.2.1 s.2.1.length (plnL s.2.1) s.2.2.2.1 ∧ (∀ x ∈ s.2.1, ∀ w2 : World, (∀ q ∈ s.2.2.2.2, w2.heap[q.1]? = some q.2) → PlnAt w2 x) ∧ s.2.1.map Prod.fst = ([], left) :: wayL t seen fr left s.1.1 ∧ Hp u [bm] ((bm, .map s.1.2.1 s.1.2.2) :: (B5, .cells #[.slice none 0 0, .int .i64 0] 74) :: (B4, .cells #[.int .i64 (seen : Nat), .int .i64 fr, .int .i64 left] 140) :: (s.2.2.2.1 ++ s.2.2.2.2)) w') (fun s => t.fr.length - s.1.1) (((0, es, cm), [(([], left), none, 0)], .slice (some ⟨B23, 0, none⟩) 1 1, [(B23, .cells #[.slice none 0 0, .int .i64 left] 74)], [])) hf ?_ ?_ ?_
     · repeat' (first | exact True.intro | refine And.intro rfl ?_)
     · refine ⟨Nat.zero_le _, hM, ⟨rfl, .inr ⟨B23, 1, _, rfl, rfl, Nat.le_refl _, by decide, rfl, rfl⟩⟩, ?_, rfl, hh.pick [4, 2, 3, 0]⟩
       intro x hx w2 _
       rw [List.mem_singleton.1 hx]
       intro i s h
       cases h
     ·rintro s a w ⟨hi, hM2, hO2, hP2, hps, hh⟩ hf
      obtain ⟨⟨i, es2, cm2⟩, ps, v8, X, Y⟩ := s; simp only at hi hM2 hO2 hP2 hps hh hf ⊢
      refine sy_sq ?_
      refine o_v hf hh (yv_bin rfl rfl rfl) ?_; clear hf a; intro a hf
      refine o_end ?_
      refine sy_seq ?_
      refine sy_cond hf rfl (fun hg6 => ?_) (fun hg6 => ?_)
      ·have hG6 := hg6; try simp only [gS] at hG6
       refine sy_skip ?_
       refine then_n ?_
       refine sy_seq ?_
       refine sy_block ?_
       refine sy_sq ?_
       refine o_v hf hh (yv_move rfl) ?_; clear hf a; intro a hf
       refine o_v hf hh (yv_assign rfl) ?_; clear hf a; intro a hf
       refine o_end ?_
       refine sy_seq ?_
       refine sy_sq ?_
       refine o_v hf hh (yv_fieldAddr Tryz.fo_140_0 rfl) ?_; clear hf a; intro a hf
       refine o_v hf hh (y_ld Tryz.sc_3 rfl) ?_; clear hf a; intro a hf
       refine o_v hf hh (yv_move rfl) ?_; clear hf a; intro a hf
       refine o_v hf hh (yv_shrN rfl rfl (by omega)) ?_; clear hf a; intro a hf
       refine o_v hf hh (yv_and1 rfl rfl (by omega)) ?_; clear hf a; intro a hf
       refine o_v hf hh (yv_bit1 rfl rfl) ?_; clear hf a; intro a hf
       refine o_end ?_
       refine sy_cond hf rfl (fun hg10 => ?_) (fun hg10 => ?_)
       ·have hG10 := hg10; try simp only [gS] at hG10
        refine sy_exit ?_
        refine then_e ?_
        refine blk_e ?_
        refine then_n ?_
        refine sy_ops ?_
        refine o_v hf hh (y_add rfl rfl) ?_; clear hf a; intro a hf
        refine o_v hf hh (yv_move rfl) ?_; clear hf a; intro a hf
        refine ops_end ?_
        refine then_n ?_
        first
          | exact ⟨((i + 1, es2, cm2), ps, v8, X, Y), ⟨⟨by simp only; omega, hM2, hO2, hP2, by rw [hps, wayL_no (next_no (.inl (by assumption)))], hh⟩, (hf.head (by repeat' (first | exact True.intro | refine And.intro rfl ?_)) (Keep.cons rfl (Keep.cons rfl (Keep.cons rfl (Keep.cons rfl (Keep.cons rfl (Keep.cons rfl (Keep.cons rfl (Keep.cons rfl (Keep.cons rfl (Keep.cons rfl (Keep.cons rfl (Keep.app rfl (Keep.rm rfl Keep.base))))))))))))))⟩, by simp only; omega⟩
          | exact ⟨((i + 1, es2, cm2), ps, v8, X, Y), ⟨⟨by simp only; omega, hM2, hO2, hP2, by rw [hps, wayL_no (next_no (.inr (by assumption)))], hh.less (.cons _ (.refl _))⟩, (hf.head (by repeat' (first | exact True.intro | refine And.intro rfl ?_)) (Keep.cons rfl (Keep.cons rfl (Keep.cons rfl (Keep.cons rfl (Keep.cons rfl (Keep.cons rfl (Keep.cons rfl (Keep.cons rfl (Keep.cons rfl (Keep.cons rfl (Keep.cons rfl (Keep.app rfl (Keep.rm rfl Keep.base))))))))))))))⟩, by simp only; omega⟩
          | exact ⟨((i + 1, es3, cm3), ps ++ [((i :: pl3.1.1, pl3.1.2), oa5, cp5)], v9, X9, X5 ++ (K3 ++ Y)), ⟨⟨by simp only; omega, hM3.mono fun p v h => h.more fun q hq => by
              simp only [List.mem_append] at hq ⊢
              rcases hq with h | h | h
              · exact .inl (.inr (.inl h))
              · exact .inl (.inr (.inr h))
              · exact .inr h, by rw [plnL_snoc, List.length_append]; exact hO9, fun x hx w2 hw => by
              rcases List.mem_append.1 hx with hx | hx
              · exact hP2 x hx w2 fun q hq => hw q (by simp only [List.mem_append]; exact .inr (.inr hq))
              · rw [List.mem_singleton.1 hx]
                exact hV5 w2 fun q hq => hw q (List.mem_append_left _ hq), by
              show _ = ([], left) :: wayL t seen fr left (i + 1)
              rw [List.map_append, hps, wayL_put (next_yes hti (by assumption) hp3)]; rfl, hh.less (.cons _ (.cons _ (.refl _)))⟩, (hf.head (by repeat' (first | exact True.intro | refine And.intro rfl ?_)) (Keep.cons rfl (Keep.cons rfl (Keep.cons rfl (Keep.cons rfl (Keep.cons rfl (Keep.cons rfl (Keep.cons rfl (Keep.cons rfl (Keep.cons rfl (Keep.cons rfl (Keep.cons rfl (Keep.app rfl (Keep.rm rfl Keep.base))))))))))))))⟩, by simp only; omega⟩
       ·have hG10 := hg10; try simp only [gS] at hG10
        refine sy_skip ?_
        refine then_n ?_
        refine sy_seq ?_
        have hti : seen.testBit i = false := by assumption
        have hbd := beg_bd hO hfr (v := i) (by omega) hl
        refine sy_ops ?_
        refine o_v hf hh (y_ld Tryz.sc_75 rfl) ?_; clear hf a; intro a hf
        refine o_v hf hh (yv_fieldAddr Tryz.fo_140_1 rfl) ?_; clear hf a; intro a hf
        refine o_v hf hh (y_ld Tryz.sc_3 rfl) ?_; clear hf a; intro a hf
        refine o_v hf hh (yv_move rfl) ?_; clear hf a; intro a hf
        refine o_v hf hh (yv_fieldAddr Tryz.fo_140_2 rfl) ?_; clear hf a; intro a hf
        refine o_v hf hh (y_ld Tryz.sc_3 rfl) ?_; clear hf a; intro a hf
        refine o_v hf hh (yv_fieldAddr Tryz.fo_140_2 rfl) ?_; clear hf a; intro a hf
        refine o_v hf hh (y_ld Tryz.sc_3 rfl) ?_; clear hf a; intro a hf
        refine o_v hf hh (yv_buildS Tryz.bs_131 rfl rfl) ?_; clear hf a; intro a hf
        refine o_call hf Tryz.en_73 rfl rfl rfl (k73 t _ Bt _ (hC.extM hmo hh.ext).b (hC.extM hmo hh.ext).a hO fr i (left, left) hfr (by omega) (by dsimp only; omega) (by dsimp only; omega)) ?_; clear hf a; intro v a w hR hf
        obtain ⟨rfl, hx⟩ := hR; replace hh := hh.more hx; clear hx
        refine o_alloc hf hh Tryz.ze_131 ?_; clear hf hh a; intro B10 a w hf hh
        refine o_store hf hh Tryz.sz_131 fun w hh => ?_
        replace hh : Hp u [bm] ((B10, .cells #[.int .i64 (begV t fr i (left, left)).1, .int .i64 (begV t fr i (left, left)).2] 131) :: ((bm, .map es2 cm2) :: (B5, .cells #[.slice none 0 0, .int .i64 0] 74) :: (B4, .cells #[.int .i64 (seen : Nat), .int .i64 fr, .int .i64 left] 140) :: (X ++ Y))) w := hh
        refine o_end ?_
        refine sy_seq ?_
        refine sy_sq ?_
        refine o_v hf hh (yv_buildS Tryz.bs_82 rfl rfl) ?_; clear hf a; intro a hf
        refine o_v hf hh (y_ld Tryz.sc_75 rfl) ?_; clear hf a; intro a hf
        refine o_v hf hh (yv_move rfl) ?_; clear hf a; intro a hf
        refine o_v hf hh (y_lds Tryz.ag_131 rfl) ?_; clear hf a; intro a hf
        refine o_call hf Tryz.en_74 rfl rfl rfl (k74 t _ Bt _ (hC.extM hmo hh.ext).b (hC.extM hmo hh.ext).a hO i (begV t fr i (left, left)) (by omega)) ?_; clear hf a; intro v a w hR hf
        obtain ⟨rfl, hx⟩ := hR; replace hh := hh.more hx; clear hx
        refine o_v hf hh (yv_not rfl) ?_; clear hf a; intro a hf
        refine o_end ?_
        refine sy_cond hf rfl (fun hg13 => ?_) (fun hg13 => ?_)
        ·have hG13 := hg13; try simp only [gS] at hG13
         refine sy_exit ?_
         refine then_e ?_
         refine blk_e ?_
         refine then_n ?_
         refine sy_ops ?_
         refine o_v hf hh (y_add rfl rfl) ?_; clear hf a; intro a hf
         refine o_v hf hh (yv_move rfl) ?_; clear hf a; intro a hf
         refine ops_end ?_
         refine then_n ?_
         first
           | exact ⟨((i + 1, es2, cm2), ps, v8, X, Y), ⟨⟨by simp only; omega, hM2, hO2, hP2, by rw [hps, wayL_no (next_no (.inl (by assumption)))], hh⟩, (hf.head (by repeat' (first | exact True.intro | refine And.intro rfl ?_)) (Keep.cons rfl (Keep.cons rfl (Keep.cons rfl (Keep.cons rfl (Keep.cons rfl (Keep.cons rfl (Keep.cons rfl (Keep.cons rfl (Keep.cons rfl (Keep.cons rfl (Keep.cons rfl (Keep.cons rfl (Keep.cons rfl (Keep.cons rfl (Keep.cons rfl (Keep.cons rfl (Keep.cons rfl (Keep.cons rfl (Keep.cons rfl (Keep.cons rfl (Keep.cons rfl (Keep.cons rfl (Keep.cons rfl (Keep.cons rfl (Keep.cons rfl (Keep.cons rfl (Keep.cons rfl (Keep.cons rfl (Keep.app rfl (Keep.rm rfl Keep.base)))))))))))))))))))))))))))))))⟩, by simp only; omega⟩
           | exact ⟨((i + 1, es2, cm2), ps, v8, X, Y), ⟨⟨by simp only; omega, hM2, hO2, hP2, by rw [hps, wayL_no (next_no (.inr (by assumption)))], hh.less (.cons _ (.refl _))⟩, (hf.head (by repeat' (first | exact True.intro | refine And.intro rfl ?_)) (Keep.cons rfl (Keep.cons rfl (Keep.cons rfl (Keep.cons rfl (Keep.cons rfl (Keep.cons rfl (Keep.cons rfl (Keep.cons rfl (Keep.cons rfl (Keep.cons rfl (Keep.cons rfl (Keep.cons rfl (Keep.cons rfl (Keep.cons rfl (Keep.cons rfl (Keep.cons rfl (Keep.cons rfl (Keep.cons rfl (Keep.cons rfl (Keep.cons rfl (Keep.cons rfl (Keep.cons rfl (Keep.cons rfl (Keep.cons rfl (Keep.cons rfl (Keep.cons rfl (Keep.cons rfl (Keep.cons rfl (Keep.app rfl (Keep.rm rfl Keep.base)))))))))))))))))))))))))))))))⟩, by simp only; omega⟩
           | exact ⟨((i + 1, es3, cm3), ps ++ [((i :: pl3.1.1, pl3.1.2), oa5, cp5)], v9, X9, X5 ++ (K3 ++ Y)), ⟨⟨by simp only; omega, hM3.mono fun p v h => h.more fun q hq => by
               simp only [List.mem_append] at hq ⊢
               rcases hq with h | h | h
               · exact .inl (.inr (.inl h))
               · exact .inl (.inr (.inr h))
               · exact .inr h, by rw [plnL_snoc, List.length_append]; exact hO9, fun x hx w2 hw => by
               rcases List.mem_append.1 hx with hx | hx
               · exact hP2 x hx w2 fun q hq => hw q (by simp only [List.mem_append]; exact .inr (.inr hq))
               · rw [List.mem_singleton.1 hx]
                 exact hV5 w2 fun q hq => hw q (List.mem_append_left _ hq), by
               show _ = ([], left) :: wayL t seen fr left (i + 1)
               rw [List.map_append, hps, wayL_put (next_yes hti (by assumption) hp3)]; rfl, hh.less (.cons _ (.cons _ (.refl _)))⟩, (hf.head (by repeat' (first | exact True.intro | refine And.intro rfl ?_)) (Keep.cons rfl (Keep.cons rfl (Keep.cons rfl (Keep.cons rfl (Keep.cons rfl (Keep.cons rfl (Keep.cons rfl (Keep.cons rfl (Keep.cons rfl (Keep.cons rfl (Keep.cons rfl (Keep.cons rfl (Keep.cons rfl (Keep.cons rfl (Keep.cons rfl (Keep.cons rfl (Keep.cons rfl (Keep.cons rfl (Keep.cons rfl (Keep.cons rfl (Keep.cons rfl (Keep.cons rfl (Keep.cons rfl (Keep.cons rfl (Keep.cons rfl (Keep.cons rfl (Keep.cons rfl (Keep.cons rfl (Keep.app rfl (Keep.rm rfl Keep.base)))))))))))))))))))))))))))))))⟩, by simp only; omega⟩
        ·have hG13 := hg13; try simp only [gS] at hG13
         refine sy_skip ?_
         refine then_n ?_
         refine sy_cut (σ := Nat × (Array MapEntry × Nat) × PlnD × List (Nat × Obj)) [11, 53, 54, 55, 56, 57, 58, 59, 60, 61, 62, 63, 64, 65, 66, 67, 68, 69, 70, 71, 72] (fun q => [(11, ptr q.1 0)]) (fun q => fun w' => q.2.2.1.1 = bestF t (seen ||| 2 ^ i) ((i : Nat) : Int) (aftV t i (begV t fr i (left, left))).2 ∧ (∀ w2 : World, (∀ x ∈ q.2.2.2 ++ (Y ++ K), w2.heap[x.1]? = some x.2) → PlnAt w2 q.2.2.1) ∧ MemoR encK (PlnF t (q.2.2.2 ++ (Y ++ K))) q.2.1.1 ∧ Hp u [bm] ((q.1, .cells #[.slice q.2.2.1.2.1 q.2.2.1.1.1.length q.2.2.1.2.2, .int .i64 q.2.2.1.1.2] 74) :: (B10, .cells #[.int .i64 (begV t fr i (left, left)).1, .int .i64 (begV t fr i (left, left)).2] 131) :: (bm, .map q.2.1.1 q.2.1.2) :: (B5, .cells #[.slice none 0 0, .int .i64 0] 74) :: (B4, .cells #[.int .i64 (seen : Nat), .int .i64 fr, .int .i64 left] 140) :: (X ++ (q.2.2.2 ++ Y))) w') hf ?_ ?_
         ·have hsu : surV t i (begV t fr i (left, left)) = true := by first | assumption | (simpa using hG8) | (cases h : surV t i (begV t fr i (left, left)) <;> simp_all)
          have haf := best_bd hO hfr (v := i) (by omega) hl hsu
          obtain ⟨s0, s1, s2⟩ := sp_ok (l := t.stay) (v := i) (by omega) hO.s
          obtain ⟨blk1, off1, cc1, T1, fr1, es1, hb1, hc1⟩ := hC.a.s i _ (sp_at (l := t.stay) (v := i) (by omega))
          dsimp only at es1; subst es1
          have nb1 := nn hb1
          have hpw : 2 ^ i ≤ 2 ^ 5 := Nat.pow_le_pow_right (by decide) (by omega)
          have hls := unS_less (t := t) (v := i) (by show i < t.fr.length; omega) hti
          refine sy_treeC (.q 0 0 (.p 1 (.q 0 2 (.p 3 (.p 4 (.p 5 (.p 6 (.q 0 7 (.q 0 8 (.p 9 (.p 10 (.p 11 (.q 0 12 (.p 13 (.p 14 (.q 0 15 (.e2 16 (.p 17 (.p 18 (.e2 19 (.e1 20 (.e1 21 (.fin))) 20 (.e1 19 (.e1 21 (.fin)))))) 20 (.e1 16 (.p 17 (.p 18 (.e1 19 (.e1 21 (.fin))))))))))))))))))))))) [[]] [(AtE u [bm] [(B10, .cells #[.int .i64 (begV t fr i (left, left)).1, .int .i64 (begV t fr i (left, left)).2] 131), (B4, .cells #[.int .i64 (seen : Nat), .int .i64 fr, .int .i64 left] 140)], [])] Tryz.follows (by kernel_rfl) rfl hh (fun w hh => ?_)
          refine mc_q rfl rfl (AtE.of hh (by intro q hq; simp only [List.mem_cons, List.mem_append, List.not_mem_nil, or_false] at hq ⊢; rcases hq with h | h <;> simp [h])) hf (y_ld Tryz.sc_138 rfl) (.inl rfl) rfl rfl ?_; clear hf a; intro a hf
          refine mc_p rfl   hf (yv_fieldAddr Tryz.fo_140_0 rfl) (.inl rfl) rfl rfl ?_; clear hf a; intro a hf
          refine mc_q rfl rfl (AtE.of hh (by intro q hq; simp only [List.mem_cons, List.mem_append, List.not_mem_nil, or_false] at hq ⊢; rcases hq with h | h <;> simp [h])) hf (y_ld Tryz.sc_3 rfl) (.inl rfl) rfl rfl ?_; clear hf a; intro a hf
          refine mc_p rfl   hf (yv_move rfl) (.inl rfl) rfl rfl ?_; clear hf a; intro a hf
          refine mc_p rfl   hf (yv_cast (yv_shl1 (.inl rfl) rfl rfl (by omega) (by omega)) (intv (b := ((2 ^ i : Nat) : Int)) (by rw [Int.toNat_natCast]))) (.inl rfl) rfl rfl ?_; clear hf a; intro a hf
          refine mc_p rfl   hf (yv_orI rfl rfl (by omega) (by omega)) (.inl rfl) rfl rfl ?_; clear hf a; intro a hf
          refine mc_p rfl   hf (yv_move rfl) (.inl rfl) rfl rfl ?_; clear hf a; intro a hf
          refine mc_q rfl rfl (AtE.of hh (by intro q hq; simp only [List.mem_cons, List.mem_append, List.not_mem_nil, or_false] at hq ⊢; rcases hq with h | h <;> simp [h])) hf (y_lds Tryz.ag_131 rfl) (.inl rfl) rfl rfl ?_; clear hf a; intro a hf
          refine mc_q rfl rfl (AtE.of hh (by intro q hq; simp only [List.mem_cons, List.mem_append, List.not_mem_nil, or_false] at hq ⊢; rcases hq with h | h <;> simp [h])) hf (y_ld Tryz.sc_75 rfl) (.inl rfl) rfl rfl ?_; clear hf a; intro a hf
          refine mc_p rfl   hf (yv_nilCheck rfl) (.inl rfl) rfl rfl ?_; clear hf a; intro a hf
          refine mc_p rfl   hf (yv_fieldAddr Tryz.fo_136_0 rfl) (.inl rfl) rfl rfl ?_; clear hf a; intro a hf
          refine mc_p rfl   hf (yv_fieldAddr Tryz.fo_25_3 rfl) (.inl rfl) rfl rfl ?_; clear hf a; intro a hf
          refine mc_q rfl rfl (AtE.of hh (by intro q hq; simp only [List.mem_cons, List.mem_append, List.not_mem_nil, or_false] at hq ⊢; rcases hq with h | h <;> simp [h])) hf (y_ld Tryz.sc_22 rfl) (.inl rfl) rfl rfl ?_; clear hf a; intro a hf
          refine mc_p rfl   hf (yv_move rfl) (.inl rfl) rfl rfl ?_; clear hf a; intro a hf
          refine mc_p rfl   hf (y_ix Tryz.se_22 rfl rfl) (.inl rfl) rfl rfl ?_; clear hf a; intro a hf
          refine mc_q rfl rfl (AtE.of hh (by intro q hq; simp only [List.mem_cons, List.mem_append, List.not_mem_nil, or_false] at hq ⊢; rcases hq with h | h <;> simp [h])) hf (y_lds Tryz.ag_49 rfl) (.inl rfl) rfl rfl ?_; clear hf a; intro a hf
          refine ⟨?_, ?_⟩
          ·refine mc_e rfl fun Q1 => ?_
           refine o_call hf Tryz.en_75 rfl rfl rfl (k75 (begV t fr i (left, left)) (sp0 t.stay i) _ (by omega) (by omega) (by omega) (by omega)) ?_; clear hf a; intro v a w hR hf
           obtain ⟨rfl, hx⟩ := hR; replace hh := hh.more hx; clear hx
           refine ops_end ?_
           refine then_n ⟨⟨fun _ _ => (AtE.of hh (by intro q hq; simp only [List.mem_cons, List.mem_append, List.not_mem_nil, or_false] at hq ⊢; rcases hq with h | h <;> simp [h])), trivial⟩, ?_⟩
           refine mc_p rfl   hf (yv_fieldS Tryz.fs_131_1 rfl rfl) (.inl rfl) rfl rfl ?_; clear hf a; intro a hf
           refine mc_p rfl   hf (yv_buildS Tryz.bs_140 rfl rfl) (.inl rfl) rfl rfl ?_; clear hf a; intro a hf
           refine ⟨?_, ?_⟩
           ·refine mc_e rfl fun Q1 => ?_
            have hK2 : ∀ q ∈ Y ++ K, w.heap[q.1]? = some q.2 := fun q hq => by
              rcases List.mem_append.1 hq with h | h
              · exact hh.get q (by simp [h])
              · exact hKw w hh.ext q h
            have hKn2 : ∀ q ∈ Y ++ K, q.1 ≠ bm := fun q hq => by
              rcases List.mem_append.1 hq with h | h
              · intro e
                have hnd := hh.nodup
                simp only [List.map_cons, List.map_append, List.nodup_cons, List.mem_cons, List.mem_append, List.mem_map, not_or] at hnd
                first
                | exact hnd.2.1.2.2.2 ⟨q, h, e⟩
                | exact hnd.2.2.1.2.2.2 ⟨q, h, e⟩
              · exact hKn q h
            refine o_call hf Tryz.en_72 rfl rfl rfl (ih _ (by rw [← hu]; exact hls) (seen ||| 2 ^ i) i (aftV t i (begV t fr i (left, left))).2 cm2 es2 (Y ++ K) w rfl (by first | exact hh.at (i := 1) rfl | exact hh.at (i := 2) rfl) hM2 hK2 hKn2 (hC.extM hmo hh.ext) (.inr ⟨by omega, by show ((i : Nat) : Int) < t.fr.length; omega⟩) haf (seen_lt (t := t) hs (by omega))) ?_; clear hf a; intro v a w hR hf
            obtain ⟨es3, cm3, K3, ⟨pl3, rfl, hp3, hq3⟩, hM3, hx3⟩ := hR
            dsimp only at hp3
            first
            | (replace hh := (hh.joinM (i := 1) rfl hx3).perm (perm_in K3 [_, _, _, _] X Y); clear hx3)
            | (replace hh := (hh.joinM (i := 2) rfl hx3).perm (perm_in K3 [_, _, _, _, _] X Y); clear hx3)
            simp only [List.cons_append, List.nil_append] at hh
            refine ops_end ?_
            refine then_n ⟨⟨fun _ _ => (AtE.of hh (by intro q hq; simp only [List.mem_cons, List.mem_append, List.not_mem_nil, or_false] at hq ⊢; rcases hq with h | h <;> simp [h])), trivial⟩, ?_⟩
            refine mc_e rfl fun Q1 => ?_
            refine o_alloc hf hh Tryz.ze_74 ?_; clear hf hh a; intro B11 a w hf hh
            refine ops_end ?_
            refine then_n ⟨⟨fun _ _ => (AtE.of hh (by intro q hq; simp only [List.mem_cons, List.mem_append, List.not_mem_nil, or_false] at hq ⊢; rcases hq with h | h <;> simp [h])), trivial⟩, ?_⟩
            refine mc_e rfl fun Q1 => ?_
            refine o_store hf hh Tryz.sz_74 fun w hh => ?_
            refine ops_end ?_
            refine then_n ⟨⟨fun _ _ => (AtE.of hh (by intro q hq; simp only [List.mem_cons, List.mem_append, List.not_mem_nil, or_false] at hq ⊢; rcases hq with h | h <;> simp [h])), trivial⟩, ?_⟩
            refine mc_end ?_
            refine then_n ?_
            exact ⟨(B11, (es3, cm3), pl3, K3), ⟨hp3, hq3, hM3, hh⟩, hf.head ⟨rfl, True.intro⟩ (Keep.cons rfl (Keep.cons rfl (Keep.cons rfl (Keep.cons rfl (Keep.cons rfl (Keep.cons rfl (Keep.cons rfl (Keep.cons rfl (Keep.cons rfl (Keep.cons rfl (Keep.cons rfl (Keep.cons rfl (Keep.cons rfl (Keep.cons rfl (Keep.cons rfl (Keep.cons rfl (Keep.cons rfl (Keep.cons rfl (Keep.cons rfl (Keep.cons rfl (Keep.cons rfl (Keep.base))))))))))))))))))))))⟩
           ·refine mc_e rfl fun Q1 => ?_
            refine o_alloc hf hh Tryz.ze_74 ?_; clear hf hh a; intro B11 a w hf hh
            refine ops_end ?_
            refine then_n ⟨⟨fun _ _ => (AtE.of hh (by intro q hq; simp only [List.mem_cons, List.mem_append, List.not_mem_nil, or_false] at hq ⊢; rcases hq with h | h <;> simp [h])), trivial⟩, ?_⟩
            refine mc_e rfl fun Q1 => ?_
            have hK2 : ∀ q ∈ Y ++ K, w.heap[q.1]? = some q.2 := fun q hq => by
              rcases List.mem_append.1 hq with h | h
              · exact hh.get q (by simp [h])
              · exact hKw w hh.ext q h
            have hKn2 : ∀ q ∈ Y ++ K, q.1 ≠ bm := fun q hq => by
              rcases List.mem_append.1 hq with h | h
              · intro e
                have hnd := hh.nodup
                simp only [List.map_cons, List.map_append, List.nodup_cons, List.mem_cons, List.mem_append, List.mem_map, not_or] at hnd
                first
                | exact hnd.2.1.2.2.2 ⟨q, h, e⟩
                | exact hnd.2.2.1.2.2.2 ⟨q, h, e⟩
              · exact hKn q h
            refine o_call hf Tryz.en_72 rfl rfl rfl (ih _ (by rw [← hu]; exact hls) (seen ||| 2 ^ i) i (aftV t i (begV t fr i (left, left))).2 cm2 es2 (Y ++ K) w rfl (by first | exact hh.at (i := 1) rfl | exact hh.at (i := 2) rfl) hM2 hK2 hKn2 (hC.extM hmo hh.ext) (.inr ⟨by omega, by show ((i : Nat) : Int) < t.fr.length; omega⟩) haf (seen_lt (t := t) hs (by omega))) ?_; clear hf a; intro v a w hR hf
            obtain ⟨es3, cm3, K3, ⟨pl3, rfl, hp3, hq3⟩, hM3, hx3⟩ := hR
            dsimp only at hp3
            first
            | (replace hh := (hh.joinM (i := 1) rfl hx3).perm (perm_in K3 [_, _, _, _] X Y); clear hx3)
            | (replace hh := (hh.joinM (i := 2) rfl hx3).perm (perm_in K3 [_, _, _, _, _] X Y); clear hx3)
            simp only [List.cons_append, List.nil_append] at hh
            refine ops_end ?_
            refine then_n ⟨⟨fun _ _ => (AtE.of hh (by intro q hq; simp only [List.mem_cons, List.mem_append, List.not_mem_nil, or_false] at hq ⊢; rcases hq with h | h <;> simp [h])), trivial⟩, ?_⟩
            refine mc_e rfl fun Q1 => ?_
            refine o_store hf hh Tryz.sz_74 fun w hh => ?_
            refine ops_end ?_
            refine then_n ⟨⟨fun _ _ => (AtE.of hh (by intro q hq; simp only [List.mem_cons, List.mem_append, List.not_mem_nil, or_false] at hq ⊢; rcases hq with h | h <;> simp [h])), trivial⟩, ?_⟩
            refine mc_end ?_
            refine then_n ?_
            exact ⟨(B11, (es3, cm3), pl3, K3), ⟨hp3, hq3, hM3, hh⟩, hf.head ⟨rfl, True.intro⟩ (Keep.cons rfl (Keep.cons rfl (Keep.cons rfl (Keep.cons rfl (Keep.cons rfl (Keep.cons rfl (Keep.cons rfl (Keep.cons rfl (Keep.cons rfl (Keep.cons rfl (Keep.cons rfl (Keep.cons rfl (Keep.cons rfl (Keep.cons rfl (Keep.cons rfl (Keep.cons rfl (Keep.cons rfl (Keep.cons rfl (Keep.cons rfl (Keep.cons rfl (Keep.cons rfl (Keep.base))))))))))))))))))))))⟩
          ·refine mc_e rfl fun Q1 => ?_
           refine o_alloc hf hh Tryz.ze_74 ?_; clear hf hh a; intro B11 a w hf hh
           refine ops_end ?_
           refine then_n ⟨⟨fun _ _ => (AtE.of hh (by intro q hq; simp only [List.mem_cons, List.mem_append, List.not_mem_nil, or_false] at hq ⊢; rcases hq with h | h <;> simp [h])), trivial⟩, ?_⟩
           refine mc_e rfl fun Q1 => ?_
           refine o_call hf Tryz.en_75 rfl rfl rfl (k75 (begV t fr i (left, left)) (sp0 t.stay i) _ (by omega) (by omega) (by omega) (by omega)) ?_; clear hf a; intro v a w hR hf
           obtain ⟨rfl, hx⟩ := hR; replace hh := hh.more hx; clear hx
           refine ops_end ?_
           refine then_n ⟨⟨fun _ _ => (AtE.of hh (by intro q hq; simp only [List.mem_cons, List.mem_append, List.not_mem_nil, or_false] at hq ⊢; rcases hq with h | h <;> simp [h])), trivial⟩, ?_⟩
           refine mc_p rfl   hf (yv_fieldS Tryz.fs_131_1 rfl rfl) (.inl rfl) rfl rfl ?_; clear hf a; intro a hf
           refine mc_p rfl   hf (yv_buildS Tryz.bs_140 rfl rfl) (.inl rfl) rfl rfl ?_; clear hf a; intro a hf
           refine mc_e rfl fun Q1 => ?_
           have hK2 : ∀ q ∈ Y ++ K, w.heap[q.1]? = some q.2 := fun q hq => by
             rcases List.mem_append.1 hq with h | h
             · exact hh.get q (by simp [h])
             · exact hKw w hh.ext q h
           have hKn2 : ∀ q ∈ Y ++ K, q.1 ≠ bm := fun q hq => by
             rcases List.mem_append.1 hq with h | h
             · intro e
               have hnd := hh.nodup
               simp only [List.map_cons, List.map_append, List.nodup_cons, List.mem_cons, List.mem_append, List.mem_map, not_or] at hnd
               first
               | exact hnd.2.1.2.2.2 ⟨q, h, e⟩
               | exact hnd.2.2.1.2.2.2 ⟨q, h, e⟩
             · exact hKn q h
           refine o_call hf Tryz.en_72 rfl rfl rfl (ih _ (by rw [← hu]; exact hls) (seen ||| 2 ^ i) i (aftV t i (begV t fr i (left, left))).2 cm2 es2 (Y ++ K) w rfl (by first | exact hh.at (i := 1) rfl | exact hh.at (i := 2) rfl) hM2 hK2 hKn2 (hC.extM hmo hh.ext) (.inr ⟨by omega, by show ((i : Nat) : Int) < t.fr.length; omega⟩) haf (seen_lt (t := t) hs (by omega))) ?_; clear hf a; intro v a w hR hf
           obtain ⟨es3, cm3, K3, ⟨pl3, rfl, hp3, hq3⟩, hM3, hx3⟩ := hR
           dsimp only at hp3
           first
           | (replace hh := (hh.joinM (i := 1) rfl hx3).perm (perm_in K3 [_, _, _, _] X Y); clear hx3)
           | (replace hh := (hh.joinM (i := 2) rfl hx3).perm (perm_in K3 [_, _, _, _, _] X Y); clear hx3)
           simp only [List.cons_append, List.nil_append] at hh
           refine ops_end ?_
           refine then_n ⟨⟨fun _ _ => (AtE.of hh (by intro q hq; simp only [List.mem_cons, List.mem_append, List.not_mem_nil, or_false] at hq ⊢; rcases hq with h | h <;> simp [h])), trivial⟩, ?_⟩
           refine mc_e rfl fun Q1 => ?_
           refine o_store hf hh Tryz.sz_74 fun w hh => ?_
           refine ops_end ?_
           refine then_n ⟨⟨fun _ _ => (AtE.of hh (by intro q hq; simp only [List.mem_cons, List.mem_append, List.not_mem_nil, or_false] at hq ⊢; rcases hq with h | h <;> simp [h])), trivial⟩, ?_⟩
           refine mc_end ?_
           refine then_n ?_
           exact ⟨(B11, (es3, cm3), pl3, K3), ⟨hp3, hq3, hM3, hh⟩, hf.head ⟨rfl, True.intro⟩ (Keep.cons rfl (Keep.cons rfl (Keep.cons rfl (Keep.cons rfl (Keep.cons rfl (Keep.cons rfl (Keep.cons rfl (Keep.cons rfl (Keep.cons rfl (Keep.cons rfl (Keep.cons rfl (Keep.cons rfl (Keep.cons rfl (Keep.cons rfl (Keep.cons rfl (Keep.cons rfl (Keep.cons rfl (Keep.cons rfl (Keep.cons rfl (Keep.cons rfl (Keep.cons rfl (Keep.base))))))))))))))))))))))⟩
         ·rintro q a w ⟨hp3, hq3, hM3, hh⟩ hf
          obtain ⟨B11, ⟨es3, cm3⟩, pl3, K3⟩ := q; dsimp only at hp3 hq3 hM3 hh hf
          have hpl3 := best_len t (seen ||| 2 ^ i) ((i : Nat) : Int) (aftV t i (begV t fr i (left, left))).2
          rw [← hp3] at hpl3
          have hpl4 : pl3.1.1.length ≤ 6 := Nat.le_trans hpl3 hn6
          have hps2 : ps.length ≤ 7 := by
            have h1 := congrArg List.length hps
            rw [List.length_map, List.length_cons] at h1
            have := wayL_len t seen fr left i
            omega
          refine sy_tree1 (.p 0 (.p 1 (.p 3 (.q 0 4 (.p 6 (.q 0 7 (.e1 2 (.e1 5 (.p 8 (.e1 9 (.e1 10 (.p 11 (.fin))))))))))))) [9, 10] Tryz.follows (by kernel_rfl) hh (fun w hh => ?_)
          refine mc_p rfl   hf (yv_move rfl) (.inl rfl) rfl rfl ?_; clear hf a; intro a hf
          refine mc_p rfl   hf (yv_move rfl) (.inl rfl) rfl rfl ?_; clear hf a; intro a hf
          refine mc_p rfl   hf (yv_fieldAddr Tryz.fo_74_0 rfl) (.inl rfl) rfl rfl ?_; clear hf a; intro a hf
          refine mc_q rfl rfl (by first | exact hh | exact hh.less (.cons _ (.refl _)) | exact hh.less (List.sublist_append_right _ _)) hf (y_ld Tryz.sc_28 rfl) (.inl rfl) rfl rfl ?_; clear hf a; intro a hf
          refine mc_p rfl   hf (yv_fieldAddr Tryz.fo_74_1 rfl) (.inl rfl) rfl rfl ?_; clear hf a; intro a hf
          refine mc_q rfl rfl (by first | exact hh | exact hh.less (.cons _ (.refl _)) | exact hh.less (List.sublist_append_right _ _)) hf (y_ld Tryz.sc_3 rfl) (.inl rfl) rfl rfl ?_; clear hf a; intro a hf
          refine mc_e rfl fun Q1 => ?_
          refine ops_buildSl hf hh Tryz.bl_28_1 rfl rfl (.inl rfl) rfl ?_; clear hf hh; clear a; intro B75 a w hf hh
          refine ops_end ?_
          refine then_n ⟨⟨fun _ _ => (by first | exact hh | exact hh.less (.cons _ (.refl _)) | exact hh.less (List.sublist_append_right _ _)), trivial⟩, ?_⟩
          refine mc_e rfl fun Q1 => ?_
          refine ops_appendV (e := 3) (size := 1) (xs := [.int .i64 ((i : Nat) : Int)]) (news := ivs pl3.1.1) (X := [(B75, .cells #[.int .i64 ((i : Nat) : Int)] 3)]) (m := 1) hf hh Tryz.eb_28 rfl rfl ⟨rfl, .inr ⟨B75, 1, _, rfl, rfl, Nat.le_refl _, by decide, rfl, rfl⟩⟩ (vw_vals (hq3 w (fun q hq => by
            rcases List.mem_append.1 hq with h | h
            · exact hh.get q (by simp [h])
            · rcases List.mem_append.1 h with h | h
              · exact hh.get q (by simp [h])
              · exact hKw w hh.ext q h))) ((ivs_len _).trans (Nat.mul_one _).symm) (by omega) (ivs_one _) (by simp only [maxLen]; omega) (by omega) (.inl rfl) rfl ?_
          clear hf hh a; intro v5 X5 a w hO5 hf hh
          obtain ⟨oa5, cp5, rfl, hV5⟩ := own_vw (l := i :: pl3.1.1) hO5
          refine ops_end ?_
          refine then_n ⟨⟨fun _ _ => (by first | exact hh | exact hh.less (.cons _ (.refl _)) | exact hh.less (List.sublist_append_right _ _)), trivial⟩, ?_⟩
          refine mc_p rfl   hf (yv_buildS Tryz.bs_74 rfl rfl) (.inl rfl) rfl rfl ?_; clear hf a; intro a hf
          refine mc_e rfl fun Q1 => ?_
          refine ops_buildSl hf hh Tryz.bl_142_1 rfl rfl (.inl rfl) rfl ?_; clear hf hh; clear a; intro B82 a w hf hh
          refine ops_end ?_
          refine then_n ⟨⟨fun h => Bool.noConfusion (show true = false from h), trivial⟩, ?_⟩
          refine mc_e rfl fun Q1 => ?_
          replace hh : Hp u [bm] ((B82, .cells #[.slice oa5 (i :: pl3.1.1).length cp5, .int .i64 pl3.1.2] 74) :: (X5 ++ ([(B11, .cells #[.slice pl3.2.1 pl3.1.1.length pl3.2.2, .int .i64 pl3.1.2] 74), (B10, .cells #[.int .i64 (begV t fr i (left, left)).1, .int .i64 (begV t fr i (left, left)).2] 131), (bm, .map es3 cm3), (B5, .cells #[.slice none 0 0, .int .i64 0] 74), (B4, .cells #[.int .i64 (seen : Nat), .int .i64 fr, .int .i64 left] 140)] ++ (X ++ (K3 ++ Y))))) w := hh
          replace hh := hh.perm (.cons _ (perm_out X5 _ X (K3 ++ Y)))
          refine ops_append (e := 74) (size := 2) (xs := plnL ps) (news := plnC ((i :: pl3.1.1, pl3.1.2), oa5, cp5)) (X := X) (m := ps.length) (q := 1) hf hh Tryz.eb_142 rfl rfl hO2 rfl rfl rfl (by simp only [maxLen]; omega) (by omega) (.inl rfl) rfl ?_; clear hf hh a; intro v9 X9 a w hO9 hf hh
          replace hh := hh.perm (List.perm_append_comm_assoc X9 [_, _, _, _, _] (X5 ++ (K3 ++ Y)))
          simp only [List.cons_append, List.nil_append] at hh
          refine ops_end ?_
          refine then_n ⟨⟨fun h => Bool.noConfusion (show true = false from h), trivial⟩, ?_⟩
          refine mc_p rfl   hf (yv_assign rfl) (.inl rfl) rfl rfl ?_; clear hf a; intro a hf
          refine mc_end ?_
          refine blk_n ?_
          refine then_n ?_
          refine sy_ops ?_
          refine o_v hf hh (y_add rfl rfl) ?_; clear hf a; intro a hf
          refine o_v hf hh (yv_move rfl) ?_; clear hf a; intro a hf
          refine ops_end ?_
          refine then_n ?_
          first
            | exact ⟨((i + 1, es2, cm2), ps, v8, X, Y), ⟨⟨by simp only; omega, hM2, hO2, hP2, by rw [hps, wayL_no (next_no (.inl (by assumption)))], hh⟩, (hf.head (by repeat' (first | exact True.intro | refine And.intro rfl ?_)) (Keep.cons rfl (Keep.cons rfl (Keep.cons rfl (Keep.cons rfl (Keep.cons rfl (Keep.cons rfl (Keep.cons rfl (Keep.cons rfl (Keep.cons rfl (Keep.cons rfl (Keep.cons rfl (Keep.cons rfl (Keep.cons rfl (Keep.cons rfl (Keep.app rfl (Keep.rm rfl (Keep.cons rfl (Keep.cons rfl (Keep.cons rfl (Keep.cons rfl (Keep.cons rfl (Keep.cons rfl (Keep.cons rfl (Keep.cons rfl (Keep.cons rfl (Keep.cons rfl (Keep.cons rfl (Keep.cons rfl (Keep.cons rfl (Keep.cons rfl (Keep.cons rfl (Keep.cons rfl (Keep.cons rfl (Keep.cons rfl (Keep.cons rfl (Keep.cons rfl (Keep.cons rfl (Keep.cons rfl (Keep.cons rfl (Keep.cons rfl (Keep.cons rfl (Keep.cons rfl (Keep.app rfl (Keep.rm rfl Keep.base)))))))))))))))))))))))))))))))))))))))))))))⟩, by simp only; omega⟩
            | exact ⟨((i + 1, es2, cm2), ps, v8, X, Y), ⟨⟨by simp only; omega, hM2, hO2, hP2, by rw [hps, wayL_no (next_no (.inr (by assumption)))], hh.less (.cons _ (.refl _))⟩, (hf.head (by repeat' (first | exact True.intro | refine And.intro rfl ?_)) (Keep.cons rfl (Keep.cons rfl (Keep.cons rfl (Keep.cons rfl (Keep.cons rfl (Keep.cons rfl (Keep.cons rfl (Keep.cons rfl (Keep.cons rfl (Keep.cons rfl (Keep.cons rfl (Keep.cons rfl (Keep.cons rfl (Keep.cons rfl (Keep.app rfl (Keep.rm rfl (Keep.cons rfl (Keep.cons rfl (Keep.cons rfl (Keep.cons rfl (Keep.cons rfl (Keep.cons rfl (Keep.cons rfl (Keep.cons rfl (Keep.cons rfl (Keep.cons rfl (Keep.cons rfl (Keep.cons rfl (Keep.cons rfl (Keep.cons rfl (Keep.cons rfl (Keep.cons rfl (Keep.cons rfl (Keep.cons rfl (Keep.cons rfl (Keep.cons rfl (Keep.cons rfl (Keep.cons rfl (Keep.cons rfl (Keep.cons rfl (Keep.cons rfl (Keep.cons rfl (Keep.app rfl (Keep.rm rfl Keep.base)))))))))))))))))))))))))))))))))))))))))))))⟩, by simp only; omega⟩
            | exact ⟨((i + 1, es3, cm3), ps ++ [((i :: pl3.1.1, pl3.1.2), oa5, cp5)], v9, X9, X5 ++ (K3 ++ Y)), ⟨⟨by simp only; omega, hM3.mono fun p v h => h.more fun q hq => by
                simp only [List.mem_append] at hq ⊢
                rcases hq with h | h | h
                · exact .inl (.inr (.inl h))
                · exact .inl (.inr (.inr h))
                · exact .inr h, by rw [plnL_snoc, List.length_append]; exact hO9, fun x hx w2 hw => by
                rcases List.mem_append.1 hx with hx | hx
                · exact hP2 x hx w2 fun q hq => hw q (by simp only [List.mem_append]; exact .inr (.inr hq))
                · rw [List.mem_singleton.1 hx]
                  exact hV5 w2 fun q hq => hw q (List.mem_append_left _ hq), by
                show _ = ([], left) :: wayL t seen fr left (i + 1)
                rw [List.map_append, hps, wayL_put (next_yes hti (by assumption) hp3)]; rfl, hh.less (.cons _ (.cons _ (.refl _)))⟩, (hf.head (by repeat' (first | exact True.intro | refine And.intro rfl ?_)) (Keep.cons rfl (Keep.cons rfl (Keep.cons rfl (Keep.cons rfl (Keep.cons rfl (Keep.cons rfl (Keep.cons rfl (Keep.cons rfl (Keep.cons rfl (Keep.cons rfl (Keep.cons rfl (Keep.cons rfl (Keep.cons rfl (Keep.cons rfl (Keep.app rfl (Keep.rm rfl (Keep.cons rfl (Keep.cons rfl (Keep.cons rfl (Keep.cons rfl (Keep.cons rfl (Keep.cons rfl (Keep.cons rfl (Keep.cons rfl (Keep.cons rfl (Keep.cons rfl (Keep.cons rfl (Keep.cons rfl (Keep.cons rfl (Keep.cons rfl (Keep.cons rfl (Keep.cons rfl (Keep.cons rfl (Keep.cons rfl (Keep.cons rfl (Keep.cons rfl (Keep.cons rfl (Keep.cons rfl (Keep.cons rfl (Keep.cons rfl (Keep.cons rfl (Keep.cons rfl (Keep.app rfl (Keep.rm rfl Keep.base)))))))))))))))))))))))))))))))))))))))))))))⟩, by simp only; omega⟩
      ·have hG6 := hg6; try simp only [gS] at hG6
       refine sy_exit ?_
       refine then_e ?_
       refine then_e ?_
       refine blk_e ?_
       refine then_n ?_
       refine sy_seq ?_
       obtain rfl : i = t.fr.length := by omega
       cases ps with
       | nil => cases hps
       | cons f0 rest =>
       rw [List.map_cons, List.cons.injEq] at hps
       obtain ⟨hf0, hrs⟩ := hps
       obtain ⟨Bv, cv, cur, rfl, rfl, hcv, hc0, hPL⟩ := own_plns hO2
       have hps2 : rest.length ≤ 6 := by
         have h1 := congrArg List.length hrs
         rw [List.length_map] at h1
         have := wayL_len t seen fr left t.fr.length
         omega
       
       refine sy_tree1 (.q 0 0 (.q 0 1 (.p 2 (.p 3 (.q 0 4 (.p 5 (.p 6 (.e1 7 (.e1 8 (.fin)))))))))) [8] Tryz.follows (by kernel_rfl) hh (fun w hh => ?_)
       refine mc_q rfl rfl hh hf (y_ld Tryz.sc_137 rfl) (.inl rfl) rfl rfl ?_; clear hf a; intro a hf
       refine mc_q rfl rfl hh hf (y_lds Tryz.ag_140 rfl) (.inl rfl) rfl rfl ?_; clear hf a; intro a hf
       refine mc_p rfl   hf (yv_move rfl) (.inl rfl) rfl rfl ?_; clear hf a; intro a hf
       refine mc_p rfl   hf (y_ix Tryz.se_142 rfl rfl) (.inl rfl) rfl rfl ?_; clear hf a; intro a hf
       refine mc_q rfl rfl hh hf (y_lds Tryz.ag_74 rfl) (.inl rfl) rfl rfl ?_; clear hf a; intro a hf
       refine mc_p rfl   hf (yv_move rfl) (.inl rfl) rfl rfl ?_; clear hf a; intro a hf
       refine mc_p rfl   hf (yv_lo (m := 1) Tryz.se_142 rfl rfl (by omega)) (.inl rfl) rfl rfl ?_; clear hf a; intro a hf
       refine mc_e rfl fun Q1 => ?_
       have hall : ∀ x ∈ f0 :: rest, PlnAt w x ∧ x.1.1.length ≤ 1000 := fun x hx => ⟨hP2 x hx w fun q hq => hh.get q (by simp [hq]), by
         have h1 := List.mem_map_of_mem (f := Prod.fst) hx
         rw [List.map_cons, hf0, hrs] at h1
         have h2 := way_len h1
         have h3 : t.n ≤ 6 := hn6
         omega⟩
       refine o_call hf Tryz.en_76 rfl rfl rfl (k76 f0 rest _ (cv - 1) w (hPL w (hh.at (i := 3) rfl)) (by omega) hall) ?_; clear hf a; intro v a w hR hf
       obtain ⟨rfl, hx⟩ := hR; replace hh := hh.more hx; clear hx
       refine ops_end ?_
       refine then_n ⟨⟨fun _ _ => hh, trivial⟩, ?_⟩
       refine mc_e rfl fun Q1 => ?_
       have hbe : (leastD f0 rest).1 = bestF t seen fr left := by
         rw [leastD_fst, hf0, hrs, bestF_step]; rfl
       have hpf : PlnF t (Y ++ K) (seen, fr, left) (plnV (leastD f0 rest)) := ⟨leastD f0 rest, rfl, hbe, fun w2 hw => hP2 _ (leastD_mem f0 rest) w2 fun q hq => hw q (List.mem_append_left _ hq)⟩
       refine ops_putR (i := 0) (p := ((seen, fr, left) : Key3)) hf hh key140 mke137 rfl rfl rfl rfl hM2 hpf (.inl rfl) fun es4 cm4 w hM4 hH4 hh => ?_
       replace hh : Hp u [bm] ((bm, .map es4 cm4) :: (B5, .cells #[.slice none 0 0, .int .i64 0] 74) :: (B4, .cells #[.int .i64 (seen : Nat), .int .i64 fr, .int .i64 left] 140) :: ([(Bv, .cells cur 74)] ++ Y)) w := hh
       refine ops_end ?_
       refine then_n ⟨⟨fun h => Bool.noConfusion (show true = false from h), trivial⟩, ?_⟩
       refine mc_end ?_
       refine then_n ?_
       refine sy_sq ?_
       refine o_v hf hh (y_ld Tryz.sc_137 rfl) ?_; clear hf a; intro a hf
       refine o_v hf hh (y_lds Tryz.ag_140 rfl) ?_; clear hf a; intro a hf
       refine ops_getR (i := 0) (p := ((seen, fr, left) : Key3)) hf hh key140 mke137 rfl rfl rfl hM4 hH4 (.inl rfl) rfl fun v95 a hR5 hf => ?_
       obtain ⟨pl5, rfl, hp5, hq5⟩ := hR5
       refine o_store hf hh Tryz.sz_74 fun w hh => ?_
       refine o_end ?_
       refine sy_ret ?_
       refine ng_r ?_
       refine ret_c (vs := [plnV pl5]) hf ?_ ?_
       · exact ⟨⟨B5, 0, _, _, _, rfl, hh.at (i := 1) rfl, .inr ⟨2, _, Tryz.ag_74, rfl, rfl⟩⟩, True.intro⟩
       · exact ⟨es4, cm4, Y, ⟨pl5, rfl, hp5, hq5⟩, hM4, hh.less (.cons_cons _ (.cons _ (.cons _ (.cons _ (.refl _)))))⟩
end Go.Proofs.YtccpgpnekoncoaaGreat

namespace Go.Proofs.YtccpgpnekoncoaaGreat
open Go Go.Sy Go.WalM
/-- An order that is new, or none: what Most and Shortest return. -/
def NewVw (u : World) (l : List Nat) (oa : Option Addr) (K : List (Nat × Obj)) (w : World) : Prop := (∀ w2 : World, (∀ q ∈ K, w2.heap[q.1]? = some q.2) → VwAt w2 oa (ints l)) ∧ Hp u [] K w
theorem k32 (t : TourD) (p : TPl) (Bt : Nat) (u : World) (hB : u.heap[Bt]? = some (.cells (tpC t p) 136 (0, 0))) (hA : TouAt u t p) (hO : TourOk t) : Calls Tryz.prog 32 #[ptr Bt 0] u (Ret fun v w' => ∃ (pl : PlnD) (K : List (Nat × Obj)), v = plnV pl ∧ pl.1 = mostP t ∧ (∀ w2 : World, (∀ q ∈ K, w2.heap[q.1]? = some q.2) → PlnAt w2 pl) ∧ Hp u [] K w') := by
  refine calls_of Tryz.func32 rfl rfl (fun a hf => ?_)
  have hh := Hp.init u []
  have hd0 := hO.d0; have hd1 := hO.d1
  refine sy_sq ?_
  refine o_box hf hh ?_; clear hf hh a; intro B1 a w hf hh
  refine o_alloc hf hh Tryz.ze_74 ?_; clear hf hh a; intro B2 a w hf hh
  refine o_end ?_
  refine sy_sq ?_
  refine ops_makeMap hf hh (.inl rfl) rfl ?_; clear hf hh; clear a; intro B5 a w hf hh
  refine o_alloc hf hh Tryz.ze_137 ?_; clear hf hh a; intro B3 a w hf hh
  refine o_store hf hh Tryz.sz_137 fun w hh => ?_
  refine o_end ?_
  refine sy_sq ?_
  refine o_alloc hf hh Tryz.ze_138 ?_; clear hf hh a; intro B4 a w hf hh
  refine o_end ?_
  refine sy_sq ?_
  refine o_v hf hh (yv_makeFunc rfl rfl) ?_; clear hf a; intro a hf
  refine o_store hf hh Tryz.sz_138 fun w hh => ?_
  refine o_end ?_
  refine sy_seq ?_
  refine sy_tree1 (.q 0 0 (.q 0 1 (.p 2 (.p 3 (.p 4 (.q 0 5 (.p 6 (.e1 7 (.e1 8 (.fin)))))))))) [7, 8] Tryz.follows (by kernel_rfl) hh (fun w hh => ?_)
  refine mc_q rfl rfl hh hf (y_ld Tryz.sc_138 rfl) (.inl rfl) rfl rfl ?_; clear hf a; intro a hf
  refine mc_q rfl rfl hh hf (y_ld Tryz.sc_75 rfl) (.inl rfl) rfl rfl ?_; clear hf a; intro a hf
  refine mc_p rfl   hf (yv_nilCheck rfl) (.inl rfl) rfl rfl ?_; clear hf a; intro a hf
  refine mc_p rfl   hf (yv_fieldAddr Tryz.fo_136_0 rfl) (.inl rfl) rfl rfl ?_; clear hf a; intro a hf
  refine mc_p rfl   hf (yv_fieldAddr Tryz.fo_25_0 rfl) (.inl rfl) rfl rfl ?_; clear hf a; intro a hf
  refine mc_q rfl rfl hh hf (y_ld Tryz.sc_3 rfl) (.inl rfl) rfl rfl ?_; clear hf a; intro a hf
  refine mc_p rfl   hf (yv_buildS Tryz.bs_140 rfl rfl) (.inl rfl) rfl rfl ?_; clear hf a; intro a hf
  refine mc_e rfl fun Q1 => ?_
  replace hh : Hp u [] [(B4, .cells #[.func (.func 72) #[] #[ptr B3 0, ptr B1 0, ptr B4 0]] 138), (B3, .cells #[.map (some B5)] 137), (B5, .map #[] 0), (B2, .cells #[.slice none 0 0, .int .i64 0] 74), (B1, .cells #[ptr Bt 0] 75)] w := hh
  refine o_call hf Tryz.en_72 rfl rfl rfl (k72 t p Bt B3 B1 B4 B5 hO _ 0 (-1) t.dawn 0 #[] [] w rfl (hh.at (i := 2) rfl) (MemoR.nil _ _) (fun q h => by cases h) (fun q h => by cases h) ⟨hh.old hB, hh.at (i := 1) rfl, hh.at (i := 4) rfl, hh.at (i := 0) rfl, hA.ext hh.ext⟩ (.inl rfl) (by omega) (by decide)) ?_; clear hf a; intro v a w hR hf
  obtain ⟨es3, cm3, K3, ⟨pl3, rfl, hp3, hq3⟩, hM3, hx3⟩ := hR
  dsimp only at hp3
  replace hh := (hh.joinM (i := 2) rfl hx3).perm (perm_in K3 [_, _, _, _, _] [] [])
  simp only [List.cons_append, List.nil_append, List.append_nil] at hh
  refine ops_end ?_
  refine then_n ⟨⟨fun h => Bool.noConfusion (show true = false from h), trivial⟩, ?_⟩
  refine mc_e rfl fun Q1 => ?_
  refine o_store hf hh Tryz.sz_74 fun w hh => ?_
  refine ops_end ?_
  refine then_n ⟨⟨fun h => Bool.noConfusion (show true = false from h), trivial⟩, ?_⟩
  refine mc_end ?_
  refine then_n ?_
  refine sy_ret ?_
  refine ret_c (vs := [plnV pl3]) hf ?_ ?_
  · exact ⟨⟨B2, 0, _, _, _, rfl, hh.at (i := 3) rfl, .inr ⟨2, _, Tryz.ag_74, rfl, rfl⟩⟩, True.intro⟩
  · exact ⟨pl3, K3, rfl, by rw [hp3, most_best], fun w2 h => hq3 w2 (fun q hq => h q (by simpa using hq)), hh.less (.cons _ (.cons _ (.cons _ (.cons _ (.cons _ (.refl _))))))⟩
theorem k9 (t : TourD) (p : TPl) (u : World) (hA : TouAt u t p) : Calls Tryz.prog 9 #[.agg (touC t p)] u (Ret fun v w' => ∃ (l : List Nat) (oa : Option Addr) (cp : Nat) (K : List (Nat × Obj)), v = .tuple #[.slice oa l.length cp, .int .i64 (opnE t true)] ∧ (touB t = true → l = (mostP t).1) ∧ (touB t = false → l = []) ∧ NewVw u l oa K w') := by
  refine calls_ofM Tryz.func9 rfl rfl (fun a hf => ?_)
  have hh := Hp.init u []
  refine sy_sq ?_
  refine o_box hf hh ?_; clear hf hh a; intro B1 a w hf hh
  refine o_v hf hh (yv_assign rfl) ?_; clear hf a; intro a hf
  refine o_alloc hf hh Tryz.ze_34 ?_; clear hf hh a; intro B3 a w hf hh
  refine o_end ?_
  refine sy_sq ?_
  refine o_v hf hh (yv_makeFunc rfl rfl) ?_; clear hf a; intro a hf
  refine o_defer hf ?_; clear hf a; intro a hf
  refine o_end ?_
  refine sy_sq ?_
  refine o_v hf hh (y_lds Tryz.ag_25 rfl) ?_; clear hf a; intro a hf
  refine o_callX hf Tryz.en_30 rfl rfl rfl (k30 t p _ (hA.ext hh.ext) 31 #[] true Tryz.en_31 (fun _ Bc w2 _ _ => k31 Bc w2)) ?_ ?_
  ·clear hf a; intro v a w hR hf
   obtain ⟨he, Bc, rfl, hx⟩ := hR; replace hh := hh.join hx; clear hx
   obtain ⟨hok, -⟩ := opnE_zero.1 he
   refine o_call hf Tryz.en_32 rfl rfl rfl (k32 t p Bc w (hh.at (i := 0) rfl) (hA.ext hh.ext) (touB_iff.1 hok)) ?_; clear hf a; intro v a w hR hf
   obtain ⟨pl, K, rfl, hp, hq, hx⟩ := hR
   replace hh := (hh.join hx).perm (perm_in K [_, _, _] [] [])
   simp only [List.cons_append, List.nil_append, List.append_nil] at hh
   refine o_v hf hh (yv_fieldS Tryz.fs_74_0 rfl rfl) ?_; clear hf a; intro a hf
   refine o_v hf hh (yv_assign rfl) ?_; clear hf a; intro a hf
   refine o_store hf hh Tryz.sz_34 fun w hh => ?_
   refine o_end ?_
   refine sy_ret ?_
   exact ret_d (Ds := []) hf hh Tryz.en_28 (fun w' => kd28r B3 w') fun w' hh => ⟨[.slice pl.2.1 pl.1.1.length pl.2.2, .int .i64 0], ⟨rfl, ⟨B3, 0, _, _, _, rfl, hh.at (i := 1) rfl, .inl ⟨Tryz.sc_34, rfl⟩⟩, True.intro⟩, pl.1.1, pl.2.1, pl.2.2, K, by rw [he]; rfl, fun _ => by rw [hp], fun h => absurd (hok.symm.trans h) (by decide), ⟨hq, hh.less (.cons _ (.cons _ (.cons _ (.refl _))))⟩⟩
  ·intro ch w hX hf
   obtain ⟨rfl, he, hx⟩ := hX; replace hh := hh.more hx; clear hx
   refine then_p ?_
   exact pan_d (Ds := []) hf hh Tryz.en_28 (fun w' hh => kd28p B3 _ 0 w' (hh.at (i := 0) rfl)) fun w' w'' hh h2 => ⟨[.slice none 0 0, .int .i64 (opnE t true)], ⟨rfl, ⟨B3, 0, _, _, _, rfl, h2.at (i := 0) rfl, .inl ⟨Tryz.sc_34, rfl⟩⟩, True.intro⟩, [], none, 0, [], rfl, fun h => absurd (opnE_zero.2 ⟨h, rfl⟩) he, fun _ => rfl, ⟨fun w2 _ i s h => (by cases h), (hh.turn (i := 0) rfl h2.ext (h2.at (i := 0) rfl)).less (List.nil_sublist _)⟩⟩
end Go.Proofs.YtccpgpnekoncoaaGreat

