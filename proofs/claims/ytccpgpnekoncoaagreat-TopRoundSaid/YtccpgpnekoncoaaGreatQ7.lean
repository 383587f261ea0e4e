/- Lemmas, in order: Cards that are sold, one after the other. Cards that are sold.. -/
import Derived.Test.YtccpgpnekoncoaaGreatQ6
namespace Go.RoyM
open Go Go.Sy
/-- Things in memory that the rounds of a range do not turn. -/
def TOff {α : Type} (n : Nat) (enc : α → List Value) (N : List Nat) (w : World) (sa : Option Addr) (l : List α) : Prop :=
  ∀ i s, l[i]? = some s → ∃ blk off c T fr, sa = some ⟨blk, off, none⟩ ∧ blk ∉ N ∧ w.heap[blk]? = some (.cells c T fr) ∧ cellsAt c (off + ((i : Nat) : Int).toNat * n) n = some (enc s)
section
variable {α : Type} {n : Nat} {enc : α → List Value} {N N' : List Nat} {u w w' : World} {sa : Option Addr} {l : List α}
theorem TOff.at (h : TOff n enc N w sa l) : TAt n enc w sa l := fun i s hi => by
  obtain ⟨blk, off, c, T, fr, h1, _, h2, h3⟩ := h i s hi
  exact ⟨blk, off, c, T, fr, h1, h2, h3⟩
theorem TOff.step (h : TOff n enc N w sa l) (e : Ext N w w') (g : Grows N N' w) : TOff n enc N' w' sa l := fun i s hi => by
  obtain ⟨blk, off, c, T, fr, h1, h0, h2, h3⟩ := h i s hi
  refine ⟨blk, off, c, T, fr, h1, fun hx => ?_, e.getM h2 h0, h3⟩
  have := (Array.getElem?_eq_some_iff.1 h2).1
  rcases g _ hx with h4 | h4
  · exact h0 h4
  · omega
theorem TOff.ext (h : TOff n enc N w sa l) (e : Ext [] w w') : TOff n enc N w' sa l := h.step (e.mono (by simp)) (.refl _ _)
theorem TOff.new (h : TAt n enc u sa l) (e : Ext [] u w) (hN : ∀ x ∈ N, u.heap.size ≤ x) : TOff n enc N w sa l := fun i s hi => by
  obtain ⟨blk, off, c, T, fr, h1, h2, h3⟩ := h i s hi
  refine ⟨blk, off, c, T, fr, h1, fun hx => ?_, e.get h2, h3⟩
  have := (Array.getElem?_eq_some_iff.1 h2).1
  have := hN _ hx
  omega
end
abbrev sV (x : Nat × Nat) : Array Value := #[.int .i64 (x.1 : Nat), .int .u64 (x.2 : Nat)]
theorem soldT_pre (d : RoyD) (k : Int) (m : Nat) : ∀ n, ∃ R, soldT d k (m + n) = soldT d k m ++ R
  | 0 => ⟨[], (List.append_nil _).symm⟩
  | n + 1 => by
    obtain ⟨R, h⟩ := soldT_pre d k m n
    exact ⟨R ++ if whoN d k (m + n) = 0 then [] else [(m + n, whoN d k (m + n))], by rw [← Nat.add_assoc, soldT, h, List.append_assoc]⟩
theorem soldT_at {d : RoyD} {k : Int} {c : Nat} (hc : c < 12) (hw : whoN d k c ≠ 0) : ((soldL d k).map sV)[(soldT d k c).length]? = some (sV (c, whoN d k c)) := by
  obtain ⟨R, hR⟩ := soldT_pre d k (c + 1) (11 - c)
  have e : soldT d k (c + 1) = soldT d k c ++ [(c, whoN d k c)] := by rw [soldT, if_neg hw]
  rw [show c + 1 + (11 - c) = 12 by omega, e] at hR
  unfold soldL
  rw [hR, List.append_assoc, List.map_append, List.getElem?_append_right (by simp), List.length_map, Nat.sub_self]
  rfl
theorem soldT_put {d : RoyD} {k : Int} {c : Nat} (hw : whoN d k c ≠ 0) : (soldT d k (c + 1)).length = (soldT d k c).length + 1 := by
  rw [soldT, if_neg hw, List.length_append]; rfl
theorem soldT_no {d : RoyD} {k : Int} {c : Nat} (hw : whoN d k c = 0) : soldT d k (c + 1) = soldT d k c := by
  rw [soldT, if_pos hw, List.append_nil]
end Go.RoyM

namespace Go.Proofs.YtccpgpnekoncoaaGreat
set_option maxRecDepth 100000
open Go Go.Sy Go.RoyM
theorem p82 (Bc : Nat) (k : Int) (u : World) : Calls Tryz.prog 83 #[ptr Bc 0, .int .i64 k] u (Ret fun v w' => ∃ B2 B3, v = .func (.func 120) #[] #[ptr B2 0, ptr B3 0] ∧ Hp u [] [(B3, .cells #[.int .i64 k] 3), (B2, .cells #[ptr Bc 0] 84)] w') := by
  refine calls_of Tryz.func83 rfl rfl (fun a hf => ?_)
  have hh := Hp.init u []
  refine sy_sq ?_
  refine o_box hf hh ?_; clear hf hh a; intro B2 a w hf hh
  refine o_box hf hh ?_; clear hf hh a; intro B3 a w hf hh
  refine o_v hf hh (yv_assign rfl) ?_; clear hf a; intro a hf
  refine o_end ?_
  refine sy_sq ?_
  refine o_v hf hh (yv_makeFunc rfl rfl) ?_; clear hf a; intro a hf
  refine o_v hf hh (yv_assign rfl) ?_; clear hf a; intro a hf
  refine o_end ?_
  refine sy_ret ?_
  refine ret_r hf rfl rfl ?_
  exact ⟨B2, B3, rfl, hh⟩
theorem it100 (d : RoyD) (p : Pl) (k : Int) (Bc B1 B2 : Nat) (hV : RoyOk d) (hr4 : d.reps.length ≤ 1000) :
    IterF Tryz.prog 120 #[] #[ptr B1 0, ptr B2 0] ((soldL d k).map sV) [] (fun N w => Held N w [(B1, .cells #[ptr Bc 0] 84), (B2, .cells #[.int .i64 k] 3), (Bc, .cells (royC d p) 89)] ∧ TOff 4 rpC N w p.sr d.reps) := by
  intro l J K u N0 hJl hKl hJe hKe hy hJ0 hOT
  obtain ⟨hO0, hT0⟩ := hOT
  show Calls Tryz.prog 120 #[.func (.yield l) #[] #[], ptr B1 0, ptr B2 0] u _
  have jE : ∀ {k N v v'}, J k N v → Ext [] v v' → J k N v' := fun h e => hJe _ _ _ _ [] h e (by simp)
  have kE : ∀ {k N v v'}, K k N v → Ext [] v v' → K k N v' := fun h e => hKe _ _ _ _ [] h e (by simp)
  have m1 := hO0.at 0 rfl; have m2 := hO0.at 1 rfl; have m3 := hO0.at 2 rfl
  have hlt0 := hJl _ _ _ hJ0
  refine calls_of Tryz.func120 rfl rfl (fun a hf => ?_)
  have hh := Hp.init u []
  refine sy_scope ?_
  refine sy_sq ?_
  refine o_v hf hh (y_ld Tryz.sc_84 rfl) ?_; clear hf a; intro a hf
  refine o_v hf hh (y_ld Tryz.sc_3 rfl) ?_; clear hf a; intro a hf
  refine o_call hf Tryz.en_81 rfl rfl rfl (p96 d p Bc _ (hh.old m3) (hT0.at.ext hh.ext) hr4 hV k) ?_; clear hf a; intro v a w hR hf
  obtain ⟨rfl, hx⟩ := hR; replace hh := hh.more hx; clear hx
  refine o_alloc hf hh Tryz.ze_155 ?_; clear hf hh a; intro B4 a w hf hh
  refine o_store hf hh Tryz.sz_155 fun w hh => ?_
  refine o_end ?_
  refine sy_seq ?_
  refine sy_label ?_
  refine then_n ?_
  refine sy_seq ?_
  have hO : Held N0 w [(B4, .cells (clmC d.reps k) 155), (B1, .cells #[ptr Bc 0] 84), (B2, .cells #[.int .i64 k] 3), (Bc, .cells (royC d p) 89)] := Held.cons (hh.at (i := 0) rfl) (fun h => by
    have h1 := hlt0 _ h
    rcases hh.mine _ (.head _) with h2 | h2
    · omega
    · cases h2) (hO0.ext hh.ext)
  refine sy_ops ?_
  refine o_v hf hh (yv_move rfl) ?_; clear hf a; intro a hf
  refine o_end ?_
  refine sy_block ?_
  refine sy_loopH (σ := Nat) [5, 6, 7, 8, 12, 13, 14, 15, 16, 17, 18, 19, 20, 21, 22, 23, 24, 25, 26, 27, 28, 29, 30, 31, 32, 33, 34, 35] (fun c => [(12, .int .i64 (c : Nat))]) (fun c => fun w' => c ≤ 12 ∧ ∃ N, J (soldT d k c).length N w' ∧ Held N w' [(B4, .cells (clmC d.reps k) 155), (B1, .cells #[ptr Bc 0] 84), (B2, .cells #[.int .i64 k] 3), (Bc, .cells (royC d p) 89)] ∧ TOff 4 rpC N w' p.sr d.reps) (fun c => 12 - c) (0) hf ?_ ?_ ?_
  · repeat' (first | exact True.intro | refine And.intro rfl ?_)
  · exact ⟨Nat.zero_le _, N0, jE hJ0 hh.ext, hO, hT0.ext hh.ext⟩
  ·rintro c a w ⟨hc12, N, hJ, hO, hT⟩ hf
   clear m1 m2 m3 hh
   have m4 := (hO).at 0 rfl; have m1 := (hO).at 1 rfl; have m2 := (hO).at 2 rfl; have m3 := (hO).at 3 rfl
   have hh := Hp.init w []
   refine sy_sq ?_
   refine o_v hf hh (yv_bin rfl rfl rfl) ?_; clear hf a; intro a hf
   refine o_end ?_
   refine sy_seq ?_
   refine sy_cond hf rfl (fun hg3 => ?_) (fun hg3 => ?_)
   ·have hG3 := hg3; try simp only [gS] at hG3
    refine sy_skip ?_
    refine then_n ?_
    refine sy_seq ?_
    refine sy_block ?_
    refine sy_sq ?_
    refine o_v hf hh (yv_move rfl) ?_; clear hf a; intro a hf
    refine o_v hf hh (yv_assign rfl) ?_; clear hf a; intro a hf
    refine o_end ?_
    refine sy_sq ?_
    refine o_v hf hh (yv_assign rfl) ?_; clear hf a; intro a hf
    refine o_end ?_
    refine sy_seq ?_
    refine sy_sq ?_
    refine o_v hf hh (y_lds Tryz.ag_155 rfl) ?_; clear hf a; intro a hf
    refine o_v hf hh (yv_move rfl) ?_; clear hf a; intro a hf
    refine o_end ?_
    refine sy_block ?_
    refine sy_loopF (σ := Nat) [6, 7, 8, 16, 17, 18, 19, 20, 21, 22, 23, 24, 25, 26, 27] (fun g => [(6, .int .u64 (whoT d k c g : Nat)), (16, .int .i64 (g : Nat))]) (fun g => g ≤ 4) (fun g => 4 - g) (0) hf hh ?_ ?_ ?_
    · repeat' (first | exact True.intro | refine And.intro rfl ?_)
    · omega
    ·rintro g a w hg4 hf hh
     refine sy_sq ?_
     refine o_v hf hh (yv_bin rfl rfl rfl) ?_; clear hf a; intro a hf
     refine o_end ?_
     refine sy_seq ?_
     refine sy_cond hf rfl (fun hg5 => ?_) (fun hg5 => ?_)
     ·have hG5 := hg5; try simp only [gS] at hG5
      refine sy_skip ?_
      refine then_n ?_
      refine sy_seq ?_
      refine sy_block ?_
      refine sy_seq ?_
      have hcg := clmC_at0 d.reps k (show g < 4 by omega)
      rw [clmL_all] at hcg
      have hwl := whoT_lt d k c g
      have hp2 : 2 ^ g ≤ 2 ^ 3 := Nat.pow_le_pow_right (by omega) (by omega)
      obtain ⟨q, hq⟩ : ∃ q, q = 2 ^ g := ⟨_, rfl⟩
      rw [← hq] at hwl hp2
      refine sy_ops ?_
      refine o_v hf hh (yv_move rfl) ?_; clear hf a; intro a hf
      refine o_v hf hh (yv_idxS Tryz.ae_155 Tryz.sc_91 rfl rfl hcg) ?_; clear hf a; intro a hf
      refine o_v hf hh (yv_assign rfl) ?_; clear hf a; intro a hf
      refine o_v hf hh (yv_assign rfl) ?_; clear hf a; intro a hf
      refine o_end ?_
      refine sy_sq ?_
      refine o_v hf hh (yv_move rfl) ?_; clear hf a; intro a hf
      refine o_v hf hh (yv_move rfl) ?_; clear hf a; intro a hf
      refine o_call hf Tryz.en_84 rfl rfl rfl (p84 (clm d k g) c (by have := clm_lt12 hV k g; omega) (by omega) _) ?_; clear hf a; intro v a w hR hf
      obtain ⟨rfl, hx⟩ := hR; replace hh := hh.more hx; clear hx
      refine o_end ?_
      refine sy_cond hf rfl (fun hg8 => ?_) (fun hg8 => ?_)
      ·have hG8 := hg8; try simp only [gS] at hG8
       refine sy_ops ?_
       refine o_v hf hh (yv_move rfl) ?_; clear hf a; intro a hf
       refine o_v hf hh (yv_move rfl) ?_; clear hf a; intro a hf
       refine o_v hf hh (yv_cast (yv_shl1 (.inr rfl) rfl rfl (by omega) (by omega)) (intv (b := ((q : Nat) : Int)) (by rw [hq, Int.toNat_natCast]))) ?_; clear hf a; intro a hf
       refine o_v hf hh (yv_orU rfl rfl (by omega) (by omega)) ?_; clear hf a; intro a hf
       refine o_v hf hh (yv_assign rfl) ?_; clear hf a; intro a hf
       refine ops_end ?_
       refine blk_n ?_
       refine then_n ?_
       refine sy_ops ?_
       refine o_v hf hh (y_add rfl rfl) ?_; clear hf a; intro a hf
       refine o_v hf hh (yv_move rfl) ?_; clear hf a; intro a hf
       refine ops_end ?_
       refine then_n ?_
       first
         | exact ⟨g + 1, ⟨by omega, hf.head ⟨congrArg (fun z => some (Value.int IntKind.u64 ((z : Nat) : Int))) (by rw [whoT, if_pos (by rw [← clm_bit hV]; assumption), hq]), rfl, True.intro⟩ (Keep.cons rfl (Keep.cons rfl (Keep.cons rfl (Keep.cons rfl (Keep.cons rfl (Keep.cons rfl (Keep.cons rfl (Keep.cons rfl (Keep.cons rfl (Keep.cons rfl (Keep.cons rfl (Keep.cons rfl (Keep.cons rfl (Keep.cons rfl (Keep.cons rfl (Keep.app rfl (Keep.rm rfl Keep.base))))))))))))))))), hh⟩, by omega⟩
         | exact ⟨g + 1, ⟨by omega, hf.head ⟨congrArg (fun z => some (Value.int IntKind.u64 ((z : Nat) : Int))) (by rw [whoT, if_neg (by rw [← clm_bit hV]; simp_all)]), rfl, True.intro⟩ (Keep.cons rfl (Keep.cons rfl (Keep.cons rfl (Keep.cons rfl (Keep.cons rfl (Keep.cons rfl (Keep.cons rfl (Keep.cons rfl (Keep.cons rfl (Keep.cons rfl (Keep.cons rfl (Keep.cons rfl (Keep.cons rfl (Keep.cons rfl (Keep.cons rfl (Keep.app rfl (Keep.rm rfl Keep.base))))))))))))))))), hh⟩, by omega⟩
         | omega
      ·have hG8 := hg8; try simp only [gS] at hG8
       refine sy_skip ?_
       refine blk_n ?_
       refine then_n ?_
       refine sy_ops ?_
       refine o_v hf hh (y_add rfl rfl) ?_; clear hf a; intro a hf
       refine o_v hf hh (yv_move rfl) ?_; clear hf a; intro a hf
       refine ops_end ?_
       refine then_n ?_
       first
         | exact ⟨g + 1, ⟨by omega, hf.head ⟨congrArg (fun z => some (Value.int IntKind.u64 ((z : Nat) : Int))) (by rw [whoT, if_pos (by rw [← clm_bit hV]; assumption), hq]), rfl, True.intro⟩ (Keep.cons rfl (Keep.cons rfl (Keep.cons rfl (Keep.cons rfl (Keep.cons rfl (Keep.cons rfl (Keep.cons rfl (Keep.cons rfl (Keep.cons rfl (Keep.cons rfl (Keep.app rfl (Keep.rm rfl Keep.base)))))))))))), hh⟩, by omega⟩
         | exact ⟨g + 1, ⟨by omega, hf.head ⟨congrArg (fun z => some (Value.int IntKind.u64 ((z : Nat) : Int))) (by rw [whoT, if_neg (by rw [← clm_bit hV]; simp_all)]), rfl, True.intro⟩ (Keep.cons rfl (Keep.cons rfl (Keep.cons rfl (Keep.cons rfl (Keep.cons rfl (Keep.cons rfl (Keep.cons rfl (Keep.cons rfl (Keep.cons rfl (Keep.cons rfl (Keep.app rfl (Keep.rm rfl Keep.base)))))))))))), hh⟩, by omega⟩
         | omega
     ·have hG5 := hg5; try simp only [gS] at hG5
      refine sy_exit ?_
      refine then_e ?_
      refine then_e ?_
      refine blk_e ?_
      refine then_n ?_
      refine sy_seq ?_
      refine sy_seq ?_
      obtain rfl : g = 4 := by omega
      refine sy_ops ?_
      refine o_v hf hh (yv_move rfl) ?_; clear hf a; intro a hf
      refine o_v hf hh (yv_bin rfl rfl rfl) ?_; clear hf a; intro a hf
      refine o_end ?_
      refine sy_cond hf rfl (fun hg12 => ?_) (fun hg12 => ?_)
      ·have hG12 := hg12; try simp only [gS] at hG12
       refine sy_exit ?_
       refine then_e ?_
       refine blk_e ?_
       refine then_n ?_
       refine sy_ops ?_
       refine o_v hf hh (y_add rfl rfl) ?_; clear hf a; intro a hf
       refine o_v hf hh (yv_move rfl) ?_; clear hf a; intro a hf
       refine ops_end ?_
       refine then_n ?_
       first
         | exact ⟨c + 1, ⟨⟨by omega, N', by rw [soldT_put hw0]; exact jE (ho1 (by assumption)) hh.ext, hO'.ext hh.ext, hT'.ext hh.ext⟩, (hf.head (by repeat' (first | exact True.intro | refine And.intro rfl ?_)) (Keep.cons rfl (Keep.cons rfl (Keep.cons rfl (Keep.cons rfl (Keep.cons rfl (Keep.app rfl (Keep.rm rfl (Keep.cons rfl (Keep.cons rfl (Keep.cons rfl (Keep.cons rfl (Keep.cons rfl (Keep.cons rfl (Keep.app rfl (Keep.rm rfl Keep.base))))))))))))))))⟩, by omega⟩
         | exact ⟨c + 1, ⟨⟨by omega, N, by rw [soldT_no (show whoN d k c = 0 by unfold whoN; omega)]; exact jE hJ hh.ext, hO.ext hh.ext, hT.ext hh.ext⟩, (hf.head (by repeat' (first | exact True.intro | refine And.intro rfl ?_)) (Keep.cons rfl (Keep.cons rfl (Keep.cons rfl (Keep.cons rfl (Keep.cons rfl (Keep.app rfl (Keep.rm rfl (Keep.cons rfl (Keep.cons rfl (Keep.cons rfl (Keep.cons rfl (Keep.cons rfl (Keep.cons rfl (Keep.app rfl (Keep.rm rfl Keep.base))))))))))))))))⟩, by omega⟩
         | omega
      ·have hG12 := hg12; try simp only [gS] at hG12
       refine sy_skip ?_
       refine then_n ?_
       refine sy_seq ?_
       have hw0 : whoN d k c ≠ 0 := by have hz : ¬ (((whoT d k c 4 : Nat) : Int) = 0) := (by assumption); unfold whoN; omega
       refine sy_ops ?_
       refine o_v hf hh (yv_move rfl) ?_; clear hf a; intro a hf
       refine o_v hf hh (yv_move rfl) ?_; clear hf a; intro a hf
       refine o_v hf hh (yv_move rfl) ?_; clear hf a; intro a hf
       refine ops_yield hf rfl rfl (.inl rfl) rfl (hy _ _ _ _ (soldT_at (by omega) hw0) (jE hJ hh.ext)) ?_; clear hf; clear a; intro v a w hR hf
       have hR2 : ∃ (o : Bool) (N' : List Nat), v = .bool o ∧ Held N' w [(B4, .cells (clmC d.reps k) 155), (B1, .cells #[ptr Bc 0] 84), (B2, .cells #[.int .i64 k] 3), (Bc, .cells (royC d p) 89)] ∧ TOff 4 rpC N' w p.sr d.reps ∧ (o = true → J ((soldT d k c).length + 1) N' w) ∧ (o = false → K (soldT d k c).length N' w) := by
         obtain ⟨N', hg, he, hR⟩ := hR
         have hO' := (hO.ext hh.ext).step he hg
         have hT' := (hT.ext hh.ext).step he hg
         rcases hR with ⟨rfl, h⟩ | ⟨rfl, h⟩
         · exact ⟨true, N', rfl, hO', hT', fun _ => h, fun h => by cases h⟩
         · exact ⟨false, N', rfl, hO', hT', (fun h => by cases h), fun _ => h⟩
       clear hR
       obtain ⟨o, N', rfl, hO', hT', ho1, ho2⟩ := hR2
       clear hh m1 m2 m3 m4; have m4 := (hO').at 0 rfl; have m1 := (hO').at 1 rfl; have m2 := (hO').at 2 rfl; have m3 := (hO').at 3 rfl
       have hh := Hp.init w []
       refine o_v hf hh (yv_not rfl) ?_; clear hf a; intro a hf
       refine o_end ?_
       refine sy_cond hf rfl (fun hg14 => ?_) (fun hg14 => ?_)
       ·have hG14 := hg14; try simp only [gS] at hG14
        refine sy_ret ?_
        refine blk_r ?_
        refine then_r ?_
        refine then_r ?_
        refine blk_r ?_
        refine ng_r ?_
        refine ret_r hf rfl rfl ?_
        first
          | exact ⟨N', ⟨(hO'.ext hh.ext).sub (by simp), hT'.ext hh.ext⟩, .inr ⟨_, kE (ho2 (by assumption)) hh.ext⟩⟩
          | (obtain rfl : c = 12 := by omega
             exact ⟨N, ⟨(hO.ext hh.ext).sub (by simp), hT.ext hh.ext⟩, .inl (by rw [List.length_map]; exact jE hJ hh.ext)⟩)
          | omega
       ·have hG14 := hg14; try simp only [gS] at hG14
        refine sy_skip ?_
        refine blk_n ?_
        refine then_n ?_
        refine sy_ops ?_
        refine o_v hf hh (y_add rfl rfl) ?_; clear hf a; intro a hf
        refine o_v hf hh (yv_move rfl) ?_; clear hf a; intro a hf
        refine ops_end ?_
        refine then_n ?_
        first
          | exact ⟨c + 1, ⟨⟨by omega, N', by rw [soldT_put hw0]; exact jE (ho1 (by assumption)) hh.ext, hO'.ext hh.ext, hT'.ext hh.ext⟩, (hf.head (by repeat' (first | exact True.intro | refine And.intro rfl ?_)) (Keep.cons rfl (Keep.cons rfl (Keep.cons rfl (Keep.cons rfl (Keep.cons rfl (Keep.cons rfl (Keep.cons rfl (Keep.cons rfl (Keep.cons rfl (Keep.cons rfl (Keep.app rfl (Keep.rm rfl (Keep.cons rfl (Keep.cons rfl (Keep.cons rfl (Keep.cons rfl (Keep.cons rfl (Keep.cons rfl (Keep.app rfl (Keep.rm rfl Keep.base)))))))))))))))))))))⟩, by omega⟩
          | exact ⟨c + 1, ⟨⟨by omega, N, by rw [soldT_no (show whoN d k c = 0 by unfold whoN; omega)]; exact jE hJ hh.ext, hO.ext hh.ext, hT.ext hh.ext⟩, (hf.head (by repeat' (first | exact True.intro | refine And.intro rfl ?_)) (Keep.cons rfl (Keep.cons rfl (Keep.cons rfl (Keep.cons rfl (Keep.cons rfl (Keep.cons rfl (Keep.cons rfl (Keep.cons rfl (Keep.cons rfl (Keep.cons rfl (Keep.app rfl (Keep.rm rfl (Keep.cons rfl (Keep.cons rfl (Keep.cons rfl (Keep.cons rfl (Keep.cons rfl (Keep.cons rfl (Keep.app rfl (Keep.rm rfl Keep.base)))))))))))))))))))))⟩, by omega⟩
          | omega
   ·have hG3 := hg3; try simp only [gS] at hG3
    refine sy_exit ?_
    refine then_e ?_
    refine then_e ?_
    refine blk_e ?_
    refine ng_n ?_
    refine ret_n hf rfl rfl ?_
    first
      | exact ⟨N', ⟨(hO'.ext hh.ext).sub (by simp), hT'.ext hh.ext⟩, .inr ⟨_, kE (ho2 (by assumption)) hh.ext⟩⟩
      | (obtain rfl : c = 12 := by omega
         exact ⟨N, ⟨(hO.ext hh.ext).sub (by simp), hT.ext hh.ext⟩, .inl (by rw [List.length_map]; exact jE hJ hh.ext)⟩)
      | omega
end Go.Proofs.YtccpgpnekoncoaaGreat

