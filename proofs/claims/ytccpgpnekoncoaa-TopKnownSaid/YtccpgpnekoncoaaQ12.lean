/- Lemmas, in order: Things that are copied, and one of them changed, in memory. The document's card told; spans in spans. TopKnown: the law's early ends. TopKnown: the law, where a trimming helps. TopKnown: the law. What a law is handed, opened: cards, numbers.. -/
import Derived.Test.YtccpgpnekoncoaaQ11
import Derived.Test.YtccpgpnekoncoaaRows
import Derived.Test.YtccpgpnekoncoaaChecked
import Derived.JoinedOf
import Derived.LaidLaws
import Derived.RowKit
import Derived.RowKitTokens
import Derived.LaidHandle
import Derived.Stop.Joined
import Derived.Lay
import Derived.OpenShut
import Derived.SizedLaws
import Derived.SevenTiedAt
namespace Go.PaiM
open Go Go.Sy
theorem thC_len (t : ThD) : (thC t).length = 9 := rfl
theorem flat_getP : ∀ {l : List ThD} {j : Nat} {v : Value}, (l.flatMap thC)[j]? = some v → ∃ i y r, l[i]? = some y ∧ (thC y)[r]? = some v ∧ j = i * 9 + r
  | [], j, v, h => by simp at h
  | x :: l, j, v, h => by
    rw [List.flatMap_cons] at h
    by_cases hj : j < 9
    · rw [List.getElem?_append_left (by rw [thC_len]; exact hj)] at h
      exact ⟨0, x, j, rfl, h, by simp⟩
    · rw [List.getElem?_append_right (by rw [thC_len]; omega), thC_len] at h
      obtain ⟨i, y, r, h1, h2, h3⟩ := flat_getP h
      exact ⟨i + 1, y, r, h1, h2, by omega⟩
theorem flat_lenP : ∀ l : List ThD, (l.flatMap thC).length = l.length * 9
  | [] => by simp
  | y :: l => by rw [List.flatMap_cons, List.length_append, thC_len, flat_lenP l, List.length_cons]; omega
theorem vals_ofP {w : World} {sa : Option Addr} {l : List ThD} (h : ThAt w sa l) : ValsIn w sa (l.flatMap thC) := by
  match l, h with
  | [], _ => exact .inl rfl
  | x :: l, h =>
    obtain ⟨blk, off, c, T, fr, h1, h2, _⟩ := h 0 x rfl
    refine .inr ⟨blk, off, c, T, fr, h1, h2, fun j v hj => ?_⟩
    obtain ⟨i, y, r, h3, h4, h5⟩ := flat_getP hj
    obtain ⟨blk', off', c', T', fr', k1, k2, k3⟩ := h i y h3
    rw [h1] at k1; cases k1
    rw [h2] at k2; cases k2
    have := (cellsAt_get 9 _ _ k3).2 r v h4
    rw [Int.toNat_natCast] at this
    rw [h5, ← Nat.add_assoc]; exact this
theorem th_one (l : List ThD) : (l.flatMap thC).all (·.oneCell') = true := by
  rw [List.all_eq_true]
  intro v hv
  obtain ⟨x, _, hx⟩ := List.mem_flatMap.1 hv
  simp only [thC, List.mem_cons, List.not_mem_nil, or_false] at hx
  rcases hx with rfl | rfl | rfl | rfl | rfl | rfl | rfl | rfl | rfl <;> rfl
theorem flat_atP {l : List ThD} {i r : Nat} {t : ThD} {v : Value} (h : l[i]? = some t) (hr : (thC t)[r]? = some v) : (l.flatMap thC)[i * 9 + r]? = some v := by
  have hrl : r < 9 := by have := (List.getElem?_eq_some_iff.1 hr).1; rwa [thC_len] at this
  induction l generalizing i with
  | nil => simp at h
  | cons y l ih =>
    rw [List.flatMap_cons, List.getElem?_append, thC_len]
    match i, h with
    | 0, h => cases h; rw [if_pos (by omega), Nat.zero_mul, Nat.zero_add]; exact hr
    | i + 1, h =>
      rw [if_neg (by omega), show (i + 1) * 9 + r - 9 = i * 9 + r by omega]
      exact ih h
/-- The cells of things. -/
def ThCs (c : Array Value) (l : List ThD) : Prop := ∀ i t, l[i]? = some t → ∀ r v, (thC t)[r]? = some v → c[i * 9 + r]? = some v
theorem cs_at {w : World} {B : Nat} {T : TypeId} {fr : Nat × Nat} {c : Array Value} {l : List ThD} (hb : w.heap[B]? = some (.cells c T fr)) (h : ThCs c l) : ThAt w (some ⟨B, 0, none⟩) l := fun i t hi => by
  refine ⟨B, 0, c, T, fr, rfl, hb, ?_⟩
  have := cellsAt_of (c := c) (thC t) (0 + ((i : Nat) : Int).toNat * 9) fun r v hr => by
    rw [Int.toNat_natCast, Nat.zero_add]; exact h i t hi r v hr
  exact this
theorem cs_own {c : Array Value} {l : List ThD} (h : c.toList.take (l.length * 9) = l.flatMap thC) : ThCs c l := fun i t hi r v hr => by
  have h7 := flat_atP hi hr
  rw [← h, List.getElem?_take] at h7
  split at h7
  · rw [← Array.getElem?_toList]; exact h7
  · cases h7
/-- The distance of one thing is put in. -/
theorem cs_put {c : Array Value} {p : PrD} {k : Nat} {t : ThD} {z : Int} (h : ThCs c p.th) (hk : p.th[k]? = some t) (hs : k * 9 + 8 < c.size) : ThCs (c.setIfInBounds (k * 9 + 8) (.int .i64 z)) (knw p k z).th := fun i s hi r v hr => by
  have hrl : r < 9 := by have := (List.getElem?_eq_some_iff.1 hr).1; rwa [thC_len] at this
  rw [Array.getElem?_setIfInBounds]
  by_cases hik : i = k
  · subst hik
    rw [knw_ok hk] at hi
    cases hi
    by_cases h8 : r = 8
    · subst h8
      rw [if_pos rfl, if_pos hs]
      cases hr; rfl
    · rw [if_neg (by omega)]
      refine h i t hk r v ?_
      rw [← hr]
      match r, hrl, h8 with
      | 0, _, _ => rfl
      | 1, _, _ => rfl
      | 2, _, _ => rfl
      | 3, _, _ => rfl
      | 4, _, _ => rfl
      | 5, _, _ => rfl
      | 6, _, _ => rfl
      | 7, _, _ => rfl
      | n + 8, h1, h2 => exact absurd (show n + 8 = 8 by omega) h2
  · rw [if_neg (by omega)]
    rw [knw_ne hik] at hi
    exact h i s hi r v hr
theorem own_valP {e size m : Nat} {v : Value} {xs : List Value} {X : List (Nat × Obj)} (h : OwnSl e size v m xs X) (hm : 0 < m) : ∃ B cap cur, v = .slice (some ⟨B, 0, none⟩) m cap ∧ X = [(B, .cells cur e (0, 0))] ∧ m ≤ cap ∧ cap ≤ maxLen ∧ cur.size = cap * size ∧ cur.toList.take (m * size) = xs := by
  rcases h.2 with ⟨h1, h2, _⟩ | h
  · omega
  · exact h
/-- What is seen of less is less. -/
theorem sub_none {s1 s2 : Nat} (h : ∀ i, s2.testBit i = true → s1.testBit i = true) : s2 ^^^ (s2 &&& s1) = 0 := by
  apply Nat.eq_of_testBit_eq
  intro i
  rw [Nat.testBit_xor, Nat.testBit_and, Nat.zero_testBit]
  cases h2 : s2.testBit i
  · rfl
  · rw [h i h2]; rfl
end Go.PaiM

namespace Go.Proofs.Ytccpgpnekoncoaa
open Go Go.Sy Go.PaiM
theorem c_Trim03 (B : Nat) (u : World) (hb : u.heap[B]? = some (.cells ts03 73 (0, 0))) : Calls Try.prog 21 #[.agg (caA ca03 (some ⟨B, 0, none⟩) 2)] u (Ret fun v w' => v = .tuple #[.agg #[.int .i64 2, .int .i64 1, .int .i64 0, .int .i64 3], .int .i64 0] ∧ Ext [] u w') := by
  have h := c_Trim ca03 (some ⟨B, 0, none⟩) 2 y03 ok03 pow03 u (th03_at hb)
  rw [bst03] at h
  exact h
theorem c_Depths03 (B : Nat) (u : World) (hb : u.heap[B]? = some (.cells ts03 73 (0, 0))) : Calls Try.prog 27 #[.agg (caA ca03 (some ⟨B, 0, none⟩) 2), .agg #[.int .i64 2, .int .i64 1, .int .i64 0, .int .i64 3]] u (Ret fun v w' => v = .tuple #[.agg #[.int .i64 2956, .int .i64 11700], .int .i64 0] ∧ Ext [] u w') := by
  have h := c_Depths ca03 (some ⟨B, 0, none⟩) 2 y03 ok03 pow03 e03 trm03 u (th03_at hb)
  rw [dep03] at h
  exact h
theorem c_Dist03 (B : Nat) (u : World) (hb : u.heap[B]? = some (.cells ts03 73 (0, 0))) : Calls Try.prog 18 #[.agg (prA ca03.pr (some ⟨B, 0, none⟩) 2), .int .i64 1] u (Ret fun v w' => v = .tuple #[.agg #[.int .i64 9591, .int .i64 10241], .int .i64 0] ∧ Ext [] u w') := by
  have h := c_Distance ca03.pr (some ⟨B, 0, none⟩) 2 (t03 1) 1 ok03.pr rfl u (th03_at hb)
  obtain ⟨e1, e2⟩ := dis_yes pow03 st03
  rw [e1, e2, dis03] at h
  exact h
set_option maxRecDepth 100000 in
set_option maxHeartbeats 4000000 in
theorem c_awake03 (u : World) : Calls Try.prog 17 #[] u (Ret fun v w' => v = .bool true ∧ Ext [] u w') := by
  refine calls_of Try.func17 rfl rfl (fun a hf => ?_)
  have hh := Hp.init u []
  refine sy_sq ?_
  refine o_v hf hh (yv_assign rfl) ?_; clear hf a; intro a hf
  refine o_end ?_
  refine sy_sq ?_
  refine o_call hf Try.en_61 rfl rfl rfl (c_card03 _) ?_; clear hf a; intro v a w hR hf
  obtain ⟨Ca, rfl, hx⟩ := hR; replace hh := hh.join hx; clear hx
  refine o_call hf Try.en_21 rfl rfl rfl (c_Trim03 Ca _ (hh.at (i := 0) rfl)) ?_; clear hf a; intro v a w hR hf
  obtain ⟨rfl, hx⟩ := hR; replace hh := hh.more hx; clear hx
  refine o_v hf hh (yv_move rfl) ?_; clear hf a; intro a hf
  refine o_v hf hh (yv_extract rfl rfl) ?_; clear hf a; intro a hf
  refine o_v hf hh (yv_extract rfl rfl) ?_; clear hf a; intro a hf
  refine o_alloc hf hh Try.ze_77 ?_; clear hf hh a; intro B1 a w hf hh
  refine o_store hf hh Try.sz_77 fun w hh => ?_
  refine o_v hf hh (yv_assign rfl) ?_; clear hf a; intro a hf
  refine o_end ?_
  refine sy_cut (σ := Nat) [3, 4, 12, 13, 14, 15, 16, 17] (fun B3 => [(3, ptr B3 0), (4, .int .i64 0)]) (fun B3 => fun w' => Hp u [] [(B3, .cells #[.int .i64 2956, .int .i64 11700] 36), (B1, .cells #[.int .i64 2, .int .i64 1, .int .i64 0, .int .i64 3] 77)] w') hf ?_ ?_
  ·replace hh := hh.pick [0]
   replace hh : Hp u [] [(B1, .cells #[.int .i64 2, .int .i64 1, .int .i64 0, .int .i64 3] 77)] w := hh
   refine sy_treeC (.q 0 1 (.e2 0 (.e2 2 (.p 3 (.p 4 (.p 5 (.e1 6 (.e1 7 (.p 8 (.fin))))))) 6 (.e1 2 (.p 3 (.p 4 (.p 5 (.e1 7 (.p 8 (.fin)))))))) 6 (.e1 0 (.e1 2 (.p 3 (.p 4 (.p 5 (.e1 7 (.p 8 (.fin)))))))))) [[]] [(AtE u [] [(B1, .cells #[.int .i64 2, .int .i64 1, .int .i64 0, .int .i64 3] 77)], [])] Try.follows (by kernel_rfl) rfl hh (fun w hh => ?_)
   refine mc_q rfl rfl (AtE.of hh (by intro q hq; rw [List.mem_singleton.1 hq]; simp)) hf (y_lds Try.ag_77 rfl) (.inl rfl) rfl rfl ?_; clear hf a; intro a hf
   refine ⟨?_, ?_⟩
   ·refine mc_e rfl fun Q1 => ?_
    refine o_call hf Try.en_61 rfl rfl rfl (c_card03 _) ?_; clear hf a; intro v a w hR hf
    obtain ⟨Cb, rfl, hx⟩ := hR; replace hh := hh.join hx; clear hx
    refine ops_end ?_
    refine then_n ⟨⟨fun _ _ => (AtE.of hh (by intro q hq; rw [List.mem_singleton.1 hq]; simp)), trivial⟩, ?_⟩
    refine ⟨?_, ?_⟩
    ·refine mc_e rfl fun Q1 => ?_
     refine o_call hf Try.en_27 rfl rfl rfl (c_Depths03 Cb _ (hh.get (Cb, .cells ts03 73) (by simp))) ?_; clear hf a; intro v a w hR hf
     obtain ⟨rfl, hx⟩ := hR; replace hh := hh.more hx; clear hx
     refine ops_end ?_
     refine then_n ⟨⟨fun _ _ => (AtE.of hh (by intro q hq; rw [List.mem_singleton.1 hq]; simp)), trivial⟩, ?_⟩
     refine mc_p rfl   hf (yv_move rfl) (.inl rfl) rfl rfl ?_; clear hf a; intro a hf
     refine mc_p rfl   hf (yv_extract rfl rfl) (.inl rfl) rfl rfl ?_; clear hf a; intro a hf
     refine mc_p rfl   hf (yv_extract rfl rfl) (.inl rfl) rfl rfl ?_; clear hf a; intro a hf
     refine mc_e rfl fun Q1 => ?_
     refine o_alloc hf hh Try.ze_36 ?_; clear hf hh a; intro B3 a w hf hh
     refine ops_end ?_
     refine then_n ⟨⟨fun _ _ => (AtE.of hh (by intro q hq; rw [List.mem_singleton.1 hq]; simp)), trivial⟩, ?_⟩
     refine mc_e rfl fun Q1 => ?_
     refine o_store hf hh Try.sz_36 fun w hh => ?_
     refine ops_end ?_
     refine then_n ⟨⟨fun _ _ => (AtE.of hh (by intro q hq; rw [List.mem_singleton.1 hq]; simp)), trivial⟩, ?_⟩
     refine mc_p rfl   hf (yv_assign rfl) (.inl rfl) rfl rfl ?_; clear hf a; intro a hf
     refine mc_end ?_
     refine then_n ?_
     first
       | exact ⟨B3, hh.pick [0, 2], hf.head ⟨rfl, rfl, True.intro⟩ (Keep.cons rfl (Keep.cons rfl (Keep.cons rfl (Keep.cons rfl (Keep.cons rfl (Keep.cons rfl (Keep.cons rfl (Keep.cons rfl (Keep.base)))))))))⟩
       | exact ⟨B3, hh.pick [1, 2], hf.head ⟨rfl, rfl, True.intro⟩ (Keep.cons rfl (Keep.cons rfl (Keep.cons rfl (Keep.cons rfl (Keep.cons rfl (Keep.cons rfl (Keep.cons rfl (Keep.cons rfl (Keep.base)))))))))⟩
    ·refine mc_e rfl fun Q1 => ?_
     refine o_alloc hf hh Try.ze_36 ?_; clear hf hh a; intro B3 a w hf hh
     refine ops_end ?_
     refine then_n ⟨⟨fun _ _ => (AtE.of hh (by intro q hq; rw [List.mem_singleton.1 hq]; simp)), trivial⟩, ?_⟩
     refine mc_e rfl fun Q1 => ?_
     refine o_call hf Try.en_27 rfl rfl rfl (c_Depths03 Cb _ (hh.get (Cb, .cells ts03 73) (by simp))) ?_; clear hf a; intro v a w hR hf
     obtain ⟨rfl, hx⟩ := hR; replace hh := hh.more hx; clear hx
     refine ops_end ?_
     refine then_n ⟨⟨fun _ _ => (AtE.of hh (by intro q hq; rw [List.mem_singleton.1 hq]; simp)), trivial⟩, ?_⟩
     refine mc_p rfl   hf (yv_move rfl) (.inl rfl) rfl rfl ?_; clear hf a; intro a hf
     refine mc_p rfl   hf (yv_extract rfl rfl) (.inl rfl) rfl rfl ?_; clear hf a; intro a hf
     refine mc_p rfl   hf (yv_extract rfl rfl) (.inl rfl) rfl rfl ?_; clear hf a; intro a hf
     refine mc_e rfl fun Q1 => ?_
     refine o_store hf hh Try.sz_36 fun w hh => ?_
     refine ops_end ?_
     refine then_n ⟨⟨fun _ _ => (AtE.of hh (by intro q hq; rw [List.mem_singleton.1 hq]; simp)), trivial⟩, ?_⟩
     refine mc_p rfl   hf (yv_assign rfl) (.inl rfl) rfl rfl ?_; clear hf a; intro a hf
     refine mc_end ?_
     refine then_n ?_
     first
       | exact ⟨B3, hh.pick [0, 2], hf.head ⟨rfl, rfl, True.intro⟩ (Keep.cons rfl (Keep.cons rfl (Keep.cons rfl (Keep.cons rfl (Keep.cons rfl (Keep.cons rfl (Keep.cons rfl (Keep.cons rfl (Keep.base)))))))))⟩
       | exact ⟨B3, hh.pick [1, 2], hf.head ⟨rfl, rfl, True.intro⟩ (Keep.cons rfl (Keep.cons rfl (Keep.cons rfl (Keep.cons rfl (Keep.cons rfl (Keep.cons rfl (Keep.cons rfl (Keep.cons rfl (Keep.base)))))))))⟩
   ·refine mc_e rfl fun Q1 => ?_
    refine o_alloc hf hh Try.ze_36 ?_; clear hf hh a; intro B3 a w hf hh
    refine ops_end ?_
    refine then_n ⟨⟨fun _ _ => (AtE.of hh (by intro q hq; rw [List.mem_singleton.1 hq]; simp)), trivial⟩, ?_⟩
    refine mc_e rfl fun Q1 => ?_
    refine o_call hf Try.en_61 rfl rfl rfl (c_card03 _) ?_; clear hf a; intro v a w hR hf
    obtain ⟨Cb, rfl, hx⟩ := hR; replace hh := hh.join hx; clear hx
    refine ops_end ?_
    refine then_n ⟨⟨fun _ _ => (AtE.of hh (by intro q hq; rw [List.mem_singleton.1 hq]; simp)), trivial⟩, ?_⟩
    refine mc_e rfl fun Q1 => ?_
    refine o_call hf Try.en_27 rfl rfl rfl (c_Depths03 Cb _ (hh.get (Cb, .cells ts03 73) (by simp))) ?_; clear hf a; intro v a w hR hf
    obtain ⟨rfl, hx⟩ := hR; replace hh := hh.more hx; clear hx
    refine ops_end ?_
    refine then_n ⟨⟨fun _ _ => (AtE.of hh (by intro q hq; rw [List.mem_singleton.1 hq]; simp)), trivial⟩, ?_⟩
    refine mc_p rfl   hf (yv_move rfl) (.inl rfl) rfl rfl ?_; clear hf a; intro a hf
    refine mc_p rfl   hf (yv_extract rfl rfl) (.inl rfl) rfl rfl ?_; clear hf a; intro a hf
    refine mc_p rfl   hf (yv_extract rfl rfl) (.inl rfl) rfl rfl ?_; clear hf a; intro a hf
    refine mc_e rfl fun Q1 => ?_
    refine o_store hf hh Try.sz_36 fun w hh => ?_
    refine ops_end ?_
    refine then_n ⟨⟨fun _ _ => (AtE.of hh (by intro q hq; rw [List.mem_singleton.1 hq]; simp)), trivial⟩, ?_⟩
    refine mc_p rfl   hf (yv_assign rfl) (.inl rfl) rfl rfl ?_; clear hf a; intro a hf
    refine mc_end ?_
    refine then_n ?_
    first
      | exact ⟨B3, hh.pick [0, 2], hf.head ⟨rfl, rfl, True.intro⟩ (Keep.cons rfl (Keep.cons rfl (Keep.cons rfl (Keep.cons rfl (Keep.cons rfl (Keep.cons rfl (Keep.cons rfl (Keep.cons rfl (Keep.base)))))))))⟩
      | exact ⟨B3, hh.pick [1, 2], hf.head ⟨rfl, rfl, True.intro⟩ (Keep.cons rfl (Keep.cons rfl (Keep.cons rfl (Keep.cons rfl (Keep.cons rfl (Keep.cons rfl (Keep.cons rfl (Keep.cons rfl (Keep.base)))))))))⟩
  ·rintro B3 a w hh hf
   refine sy_sq ?_
   refine o_call hf Try.en_61 rfl rfl rfl (c_card03 _) ?_; clear hf a; intro v a w hR hf
   obtain ⟨Cc, rfl, hx⟩ := hR; replace hh := hh.join hx; clear hx
   refine o_v hf hh (yv_cast (v' := .agg (prA ca03.pr (some ⟨Cc, 0, none⟩) 2)) (yv_fieldG Try.fg_66_0 rfl rfl) rfl) ?_; clear hf a; intro a hf
   refine o_call hf Try.en_18 rfl rfl rfl (c_Dist03 Cc _ (hh.at (i := 0) rfl)) ?_; clear hf a; intro v a w hR hf
   obtain ⟨rfl, hx⟩ := hR; replace hh := hh.more hx; clear hx
   refine o_v hf hh (yv_move rfl) ?_; clear hf a; intro a hf
   refine o_v hf hh (yv_extract rfl rfl) ?_; clear hf a; intro a hf
   refine o_v hf hh (yv_extract rfl rfl) ?_; clear hf a; intro a hf
   refine o_alloc hf hh Try.ze_36 ?_; clear hf hh a; intro B5 a w hf hh
   refine o_store hf hh Try.sz_36 fun w hh => ?_
   refine o_v hf hh (yv_assign rfl) ?_; clear hf a; intro a hf
   refine o_end ?_
   refine sy_seq ?_
   replace hh := hh.pick [0, 2, 3]
   replace hh : Hp u [] [(B5, .cells #[.int .i64 9591, .int .i64 10241] 36), (B3, .cells #[.int .i64 2956, .int .i64 11700] 36), (B1, .cells #[.int .i64 2, .int .i64 1, .int .i64 0, .int .i64 3] 77)] w := hh
   refine sy_quiet (C := Hp _ _ _) Try.follows (by kernel_rfl) (hh.drawn _) ?_
   refine oq_v hf (y_lds Try.ag_77 rfl) ?_; clear hf a; intro a hf
   refine oq_v hf (yv_buildS Try.bs_77 rfl rfl) ?_; clear hf a; intro a hf
   refine oq_v hf (yv_eqF [2, 1, 0, 3] [2, 1, 0, 3] (by kernel_rfl) rfl rfl) ?_; clear hf a; intro a hf
   refine oq_v hf (yv_move rfl) ?_; clear hf a; intro a hf
   refine oq_v hf (yv_move rfl) ?_; clear hf a; intro a hf
   refine oq_v hf (yv_bin rfl rfl rfl) ?_; clear hf a; intro a hf
   refine oq_v hf (y_pt rfl rfl) ?_; clear hf a; intro a hf
   refine oq_v hf (yv_move rfl) ?_; clear hf a; intro a hf
   refine oq_v hf (y_lds Try.ag_36 rfl) ?_; clear hf a; intro a hf
   refine oq_call hf Try.en_62 rfl rfl rfl (fun w hh => c_sp3 2956 11700 _) ?_; clear hf a; intro a hf
   refine oq_v hf (yv_eqF [2956, 11700] [2956, 11700] (by kernel_rfl) rfl rfl) ?_; clear hf a; intro a hf
   refine oq_v hf (y_pt rfl rfl) ?_; clear hf a; intro a hf
   refine oq_v hf (yv_move rfl) ?_; clear hf a; intro a hf
   refine oq_v hf (yv_move rfl) ?_; clear hf a; intro a hf
   refine oq_v hf (yv_bin rfl rfl rfl) ?_; clear hf a; intro a hf
   refine oq_v hf (y_pt rfl rfl) ?_; clear hf a; intro a hf
   refine oq_v hf (yv_move rfl) ?_; clear hf a; intro a hf
   refine oq_v hf (y_lds Try.ag_36 rfl) ?_; clear hf a; intro a hf
   refine oq_call hf Try.en_62 rfl rfl rfl (fun w hh => c_sp3 9591 10241 _) ?_; clear hf a; intro a hf
   refine oq_v hf (yv_eqF [9591, 10241] [9591, 10241] (by kernel_rfl) rfl rfl) ?_; clear hf a; intro a hf
   refine oq_v hf (y_pt rfl rfl) ?_; clear hf a; intro a hf
   refine oq_v hf (yv_move rfl) ?_; clear hf a; intro a hf
   refine oq_v hf (yv_move rfl) ?_; clear hf a; intro a hf
   refine oq_v hf (yv_bin rfl rfl rfl) ?_; clear hf a; intro a hf
   refine oq_v hf (y_pt rfl rfl) ?_; clear hf a; intro a hf
   refine oq_v hf (yv_assign rfl) ?_; clear hf a; intro a hf
   refine q_end fun w hh => ?_
   refine then_n ?_
   refine sy_ret ?_
   refine ret_r hf rfl rfl ?_
   exact ⟨rfl, hh.ext⟩
theorem c_ink (x z : Int × Int) (u : World) : Calls Try.prog 25 #[spV x, spV z] u (Ret fun v w' => v = .bool (decide (z.1 ≤ x.1) && decide (x.2 ≤ z.2)) ∧ Ext [] u w') := by
  refine calls_of Try.func25 rfl rfl (fun a hf => ?_)
  have hh := Hp.init u []
  refine sy_sq ?_
  refine o_box hf hh ?_; clear hf hh a; intro B2 a w hf hh
  refine o_box hf hh ?_; clear hf hh a; intro B3 a w hf hh
  refine o_v hf hh (yv_assign rfl) ?_; clear hf a; intro a hf
  refine o_end ?_
  refine sy_sq ?_
  refine o_v hf hh (yv_fieldAddr Try.fo_36_0 rfl) ?_; clear hf a; intro a hf
  refine o_v hf hh (y_ld Try.sc_3 rfl) ?_; clear hf a; intro a hf
  refine o_v hf hh (yv_fieldAddr Try.fo_36_0 rfl) ?_; clear hf a; intro a hf
  refine o_v hf hh (y_ld Try.sc_3 rfl) ?_; clear hf a; intro a hf
  refine o_v hf hh (yv_bin rfl rfl rfl) ?_; clear hf a; intro a hf
  refine o_v hf hh (yv_move rfl) ?_; clear hf a; intro a hf
  refine guard_split hf (t := 10) rfl (fun hg2 => ?_) (fun hg2 => ?_)
  ·have hG2 := hg2; try simp only [gS] at hG2
   refine o_v hf hh (yv_fieldAddr Try.fo_36_1 rfl) ?_; clear hf a; intro a hf
   refine o_v hf hh (y_ld Try.sc_3 rfl) ?_; clear hf a; intro a hf
   refine o_v hf hh (yv_fieldAddr Try.fo_36_1 rfl) ?_; clear hf a; intro a hf
   refine o_v hf hh (y_ld Try.sc_3 rfl) ?_; clear hf a; intro a hf
   refine o_v hf hh (yv_bin rfl rfl rfl) ?_; clear hf a; intro a hf
   refine o_v hf hh (y_pt rfl rfl) ?_; clear hf a; intro a hf
   refine o_v hf hh (yv_assign rfl) ?_; clear hf a; intro a hf
   refine o_end ?_
   refine sy_ret ?_
   refine ret_r hf rfl rfl ?_
   refine ⟨congrArg Value.bool ?_, hh.ext⟩
   clear hf hh
   first
     | rfl
     | (simp_all; done)
     | (simp only [*, Bool.false_and, Bool.and_false, Bool.true_and, Bool.and_true, Bool.not_true, Bool.not_false]; done)
     | (rw [Bool.eq_iff_iff]; simp_all <;> omega)
  ·have hG2 := hg2; try simp only [gS] at hG2
   refine o_off hf ?_; clear hf a; intro a hf
   refine o_off hf ?_; clear hf a; intro a hf
   refine o_off hf ?_; clear hf a; intro a hf
   refine o_off hf ?_; clear hf a; intro a hf
   refine o_off hf ?_; clear hf a; intro a hf
   refine o_v hf hh (y_pf rfl rfl) ?_; clear hf a; intro a hf
   refine o_v hf hh (yv_assign rfl) ?_; clear hf a; intro a hf
   refine o_end ?_
   refine sy_ret ?_
   refine ret_r hf rfl rfl ?_
   refine ⟨congrArg Value.bool ?_, hh.ext⟩
   clear hf hh
   first
     | rfl
     | (simp_all; done)
     | (simp only [*, Bool.false_and, Bool.and_false, Bool.true_and, Bool.and_true, Bool.not_true, Bool.not_false]; done)
     | (rw [Bool.eq_iff_iff]; simp_all <;> omega)
end Go.Proofs.Ytccpgpnekoncoaa

namespace Go.Proofs.Ytccpgpnekoncoaa
open Go Go.Sy Go.PaiM
set_option maxRecDepth 100000 in
set_option maxHeartbeats 4000000 in
theorem k_bad (c : CaD) (sa : Option Addr) (cp wn bn : Nat) (hw : wn ≤ 255) (hbn : bn < 4294967296) (hl : c.pr.th.length ≤ 9223372036854775807) (hbad : c.pr.th.length = 0 ∨ 40 < c.pr.th.length ∨ caB c = false ∨ 20 < c.cuts) (u : World) (hA : ThAt u sa c.pr.th) : Calls Try.prog 4 #[.agg (caA c sa cp), .int .u8 ((wn : Nat) : Int), .int .u32 ((bn : Nat) : Int)] u (Ret fun v w' => v = .bool true ∧ Ext [] u w') := by
  refine calls_of Try.func4 rfl rfl (fun a hf => ?_)
  have hh := Hp.init u []
  refine sy_sq ?_
  refine o_box hf hh ?_; clear hf hh a; intro B3 a w hf hh
  refine o_v hf hh (yv_assign rfl) ?_; clear hf a; intro a hf
  refine o_end ?_
  refine sy_sq ?_
  refine o_v hf hh (yv_fieldAddr Try.fo_66_0 rfl) ?_; clear hf a; intro a hf
  refine o_v hf hh (yv_fieldAddr Try.fo_64_5 rfl) ?_; clear hf a; intro a hf
  refine o_v hf hh (y_ld Try.sc_62 rfl) ?_; clear hf a; intro a hf
  refine o_v hf hh (yv_len Try.se_62 rfl) ?_; clear hf a; intro a hf
  refine o_v hf hh (yv_assign rfl) ?_; clear hf a; intro a hf
  refine o_end ?_
  refine sy_seq ?_
  refine sy_sq ?_
  refine o_v hf hh (yv_move rfl) ?_; clear hf a; intro a hf
  refine o_v hf hh (yv_bin rfl rfl rfl) ?_; clear hf a; intro a hf
  refine o_v hf hh (yv_move rfl) ?_; clear hf a; intro a hf
  refine guard_split hf (t := 40) rfl (fun hg2 => ?_) (fun hg2 => ?_)
  ·have hG2 := hg2; try simp only [gS] at hG2
   refine o_off hf ?_; clear hf a; intro a hf
   refine o_off hf ?_; clear hf a; intro a hf
   refine o_v hf hh (y_pt rfl rfl) ?_; clear hf a; intro a hf
   refine o_v hf hh (yv_move rfl) ?_; clear hf a; intro a hf
   refine o_off hf ?_; clear hf a; intro a hf
   refine o_off hf ?_; clear hf a; intro a hf
   refine o_off hf ?_; clear hf a; intro a hf
   refine o_v hf hh (y_pt rfl rfl) ?_; clear hf a; intro a hf
   refine o_v hf hh (yv_move rfl) ?_; clear hf a; intro a hf
   refine o_off hf ?_; clear hf a; intro a hf
   refine o_off hf ?_; clear hf a; intro a hf
   refine o_off hf ?_; clear hf a; intro a hf
   refine o_v hf hh (y_pt rfl rfl) ?_; clear hf a; intro a hf
   refine o_end ?_
   refine c_t hf ?_
   refine sy_sq ?_
   refine o_call hf Try.en_17 rfl rfl rfl (c_awake03 _) ?_; clear hf a; intro v a w hR hf
   obtain ⟨rfl, hx⟩ := hR; replace hh := hh.more hx; clear hx
   refine o_v hf hh (yv_assign rfl) ?_; clear hf a; intro a hf
   refine o_end ?_
   refine sy_ret ?_
   refine then_r ?_
   refine ret_r hf rfl rfl ?_
   exact ⟨rfl, hh.ext⟩
  ·have hG2 := hg2; try simp only [gS] at hG2
   refine o_v hf hh (yv_move rfl) ?_; clear hf a; intro a hf
   refine o_v hf hh (yv_bin rfl rfl rfl) ?_; clear hf a; intro a hf
   refine o_v hf hh (y_pf rfl rfl) ?_; clear hf a; intro a hf
   refine o_v hf hh (yv_move rfl) ?_; clear hf a; intro a hf
   refine guard_split hf (t := 44) rfl (fun hg5 => ?_) (fun hg5 => ?_)
   ·have hG5 := hg5; try simp only [gS] at hG5
    refine o_off hf ?_; clear hf a; intro a hf
    refine o_off hf ?_; clear hf a; intro a hf
    refine o_off hf ?_; clear hf a; intro a hf
    refine o_v hf hh (y_pt rfl rfl) ?_; clear hf a; intro a hf
    refine o_v hf hh (yv_move rfl) ?_; clear hf a; intro a hf
    refine o_off hf ?_; clear hf a; intro a hf
    refine o_off hf ?_; clear hf a; intro a hf
    refine o_off hf ?_; clear hf a; intro a hf
    refine o_v hf hh (y_pt rfl rfl) ?_; clear hf a; intro a hf
    refine o_end ?_
    refine c_t hf ?_
    refine sy_sq ?_
    refine o_call hf Try.en_17 rfl rfl rfl (c_awake03 _) ?_; clear hf a; intro v a w hR hf
    obtain ⟨rfl, hx⟩ := hR; replace hh := hh.more hx; clear hx
    refine o_v hf hh (yv_assign rfl) ?_; clear hf a; intro a hf
    refine o_end ?_
    refine sy_ret ?_
    refine then_r ?_
    refine ret_r hf rfl rfl ?_
    exact ⟨rfl, hh.ext⟩
   ·have hG5 := hg5; try simp only [gS] at hG5
    refine o_v hf hh (y_lds Try.ag_66 rfl) ?_; clear hf a; intro a hf
    refine o_call hf Try.en_16 rfl rfl rfl (c_Card c sa cp _ (hA.ext hh.ext) hl) ?_; clear hf a; intro v a w hR hf
    obtain ⟨rfl, hx⟩ := hR; replace hh := hh.more hx; clear hx
    refine o_v hf hh (yv_not rfl) ?_; clear hf a; intro a hf
    refine o_v hf hh (y_pf rfl rfl) ?_; clear hf a; intro a hf
    refine o_v hf hh (yv_move rfl) ?_; clear hf a; intro a hf
    refine guard_split hf (t := 49) rfl (fun hg8 => ?_) (fun hg8 => ?_)
    ·have hG8 := hg8; try simp only [gS] at hG8
     refine o_off hf ?_; clear hf a; intro a hf
     refine o_off hf ?_; clear hf a; intro a hf
     refine o_off hf ?_; clear hf a; intro a hf
     refine o_v hf hh (y_pt rfl rfl) ?_; clear hf a; intro a hf
     refine o_end ?_
     refine c_t hf ?_
     refine sy_sq ?_
     refine o_call hf Try.en_17 rfl rfl rfl (c_awake03 _) ?_; clear hf a; intro v a w hR hf
     obtain ⟨rfl, hx⟩ := hR; replace hh := hh.more hx; clear hx
     refine o_v hf hh (yv_assign rfl) ?_; clear hf a; intro a hf
     refine o_end ?_
     refine sy_ret ?_
     refine then_r ?_
     refine ret_r hf rfl rfl ?_
     exact ⟨rfl, hh.ext⟩
    ·have hG8 := hg8; try simp only [gS] at hG8
     refine o_v hf hh (yv_fieldAddr Try.fo_66_3 rfl) ?_; clear hf a; intro a hf
     refine o_v hf hh (y_ld Try.sc_3 rfl) ?_; clear hf a; intro a hf
     refine o_v hf hh (yv_bin rfl rfl rfl) ?_; clear hf a; intro a hf
     refine o_v hf hh (y_pf rfl rfl) ?_; clear hf a; intro a hf
     refine o_end ?_
     refine sy_cond hf rfl (fun hg11 => ?_) (fun hg11 => ?_)
     ·have hG11 := hg11; try simp only [gS] at hG11
      refine sy_sq ?_
      refine o_call hf Try.en_17 rfl rfl rfl (c_awake03 _) ?_; clear hf a; intro v a w hR hf
      obtain ⟨rfl, hx⟩ := hR; replace hh := hh.more hx; clear hx
      refine o_v hf hh (yv_assign rfl) ?_; clear hf a; intro a hf
      refine o_end ?_
      refine sy_ret ?_
      refine then_r ?_
      refine ret_r hf rfl rfl ?_
      exact ⟨rfl, hh.ext⟩
     ·have hG11 := hg11; try simp only [gS] at hG11
      refine sy_skip ?_
      refine then_n ?_
      exfalso
      clear hf hh
      rcases hbad with h | h | h | h
      · omega
      · omega
      · simp_all
      · omega
set_option maxRecDepth 100000 in
set_option maxHeartbeats 4000000 in
theorem k_no4 (c : CaD) (sa : Option Addr) (cp wn bn : Nat) (hw : wn ≤ 255) (hbn : bn < 4294967296) (hl : c.pr.th.length ≤ 9223372036854775807) (k : Nat) (t : ThD) (hcb : caB c = true) (h20 : c.cuts ≤ 20) (hkd : k = wn % c.pr.th.length) (ht : c.pr.th[k]? = some t) (hE : disE c.pr t = 4) (hV : disV c.pr t = (0, 0)) (u : World) (hA : ThAt u sa c.pr.th) : Calls Try.prog 4 #[.agg (caA c sa cp), .int .u8 ((wn : Nat) : Int), .int .u32 ((bn : Nat) : Int)] u (Ret fun v w' => v = .bool true ∧ Ext [] u w') := by
  refine calls_of Try.func4 rfl rfl (fun a hf => ?_)
  have hh := Hp.init u []
  have hc := caB_iff.1 hcb
  have hnt := hc.pr.nt
  have hkl := (List.getElem?_eq_some_iff.1 ht).1
  obtain ⟨k1, k2⟩ := hc.cu
  obtain ⟨n1, n2⟩ := hc.pr.ne
  obtain ⟨f1, f2⟩ := hc.pr.fa
  refine sy_sq ?_
  refine o_box hf hh ?_; clear hf hh a; intro B3 a w hf hh
  refine o_v hf hh (yv_assign rfl) ?_; clear hf a; intro a hf
  refine o_end ?_
  refine sy_sq ?_
  refine o_v hf hh (yv_fieldAddr Try.fo_66_0 rfl) ?_; clear hf a; intro a hf
  refine o_v hf hh (yv_fieldAddr Try.fo_64_5 rfl) ?_; clear hf a; intro a hf
  refine o_v hf hh (y_ld Try.sc_62 rfl) ?_; clear hf a; intro a hf
  refine o_v hf hh (yv_len Try.se_62 rfl) ?_; clear hf a; intro a hf
  refine o_v hf hh (yv_assign rfl) ?_; clear hf a; intro a hf
  refine o_end ?_
  refine sy_seq ?_
  refine sy_sq ?_
  refine o_v hf hh (yv_move rfl) ?_; clear hf a; intro a hf
  refine o_v hf hh (yv_bin rfl rfl rfl) ?_; clear hf a; intro a hf
  refine o_v hf hh (yv_move rfl) ?_; clear hf a; intro a hf
  refine o_v hf hh (yv_move rfl) ?_; clear hf a; intro a hf
  refine o_v hf hh (yv_bin rfl rfl rfl) ?_; clear hf a; intro a hf
  refine o_v hf hh (y_pf rfl rfl) ?_; clear hf a; intro a hf
  refine o_v hf hh (yv_move rfl) ?_; clear hf a; intro a hf
  refine o_v hf hh (y_lds Try.ag_66 rfl) ?_; clear hf a; intro a hf
  refine o_call hf Try.en_16 rfl rfl rfl (c_Card c sa cp _ (hA.ext hh.ext) hl) ?_; clear hf a; intro v a w hR hf
  obtain ⟨rfl, hx⟩ := hR; replace hh := hh.more hx; clear hx
  refine o_v hf hh (yv_not rfl) ?_; clear hf a; intro a hf
  refine o_v hf hh (y_pf rfl rfl) ?_; clear hf a; intro a hf
  refine o_v hf hh (yv_move rfl) ?_; clear hf a; intro a hf
  refine o_v hf hh (yv_fieldAddr Try.fo_66_3 rfl) ?_; clear hf a; intro a hf
  refine o_v hf hh (y_ld Try.sc_3 rfl) ?_; clear hf a; intro a hf
  refine o_v hf hh (yv_bin rfl rfl rfl) ?_; clear hf a; intro a hf
  refine o_v hf hh (y_pf rfl rfl) ?_; clear hf a; intro a hf
  refine o_end ?_
  refine c_f hf ?_
  refine sy_skip ?_
  refine then_n ?_
  refine sy_sq ?_
  refine o_v hf hh (yv_move rfl) ?_; clear hf a; intro a hf
  refine o_v hf hh (yv_convx (.inl rfl) (by kernel_rfl) Try.un_3 rfl (by omega) (by simp only [IntKind.top]; omega)) ?_; clear hf a; intro a hf
  refine o_v hf hh (yv_move rfl) ?_; clear hf a; intro a hf
  refine ops_v hf hh (yv_cast (yv_rem rfl rfl (by omega) (by omega)) (intv (b := ((k : Nat) : Int)) (by rw [hkd, Int.natCast_emod]))) (.inl rfl) rfl rfl rfl ?_; clear hf a; intro a hf
  refine o_v hf hh (yv_assign rfl) ?_; clear hf a; intro a hf
  refine o_end ?_
  refine sy_sq ?_
  refine o_v hf hh (yv_fieldAddr Try.fo_66_0 rfl) ?_; clear hf a; intro a hf
  refine o_v hf hh (y_lds Try.ag_64 rfl) ?_; clear hf a; intro a hf
  refine o_v hf hh (yv_move rfl) ?_; clear hf a; intro a hf
  refine o_call hf Try.en_18 rfl rfl rfl (c_Distance c.pr sa cp t k hc.pr ht _ (hA.ext hh.ext)) ?_; clear hf a; intro v a w hR hf
  rw [hE, hV] at hR
  obtain ⟨rfl, hx⟩ := hR; replace hh := hh.more hx; clear hx
  refine o_v hf hh (yv_move rfl) ?_; clear hf a; intro a hf
  refine o_v hf hh (yv_extract rfl rfl) ?_; clear hf a; intro a hf
  refine o_v hf hh (yv_extract rfl rfl) ?_; clear hf a; intro a hf
  refine o_alloc hf hh Try.ze_36 ?_; clear hf hh a; intro B9 a w hf hh
  refine o_store hf hh Try.sz_36 fun w hh => ?_
  refine o_v hf hh (yv_assign rfl) ?_; clear hf a; intro a hf
  refine o_end ?_
  refine sy_seq ?_
  refine sy_sq ?_
  refine o_v hf hh (yv_move rfl) ?_; clear hf a; intro a hf
  refine o_v hf hh (yv_bin rfl rfl rfl) ?_; clear hf a; intro a hf
  refine o_end ?_
  refine c_t hf ?_
  refine sy_sq ?_
  refine o_v hf hh (y_lds Try.ag_36 rfl) ?_; clear hf a; intro a hf
  refine o_v hf hh (yv_buildS Try.bs_36 rfl rfl) ?_; clear hf a; intro a hf
  refine o_v hf hh (yv_eqF [0, 0] [0, 0] (by kernel_rfl) rfl rfl) ?_; clear hf a; intro a hf
  refine o_v hf hh (yv_move rfl) ?_; clear hf a; intro a hf
  refine o_v hf hh (yv_move rfl) ?_; clear hf a; intro a hf
  refine o_v hf hh (yv_bin rfl rfl rfl) ?_; clear hf a; intro a hf
  refine o_v hf hh (yv_move rfl) ?_; clear hf a; intro a hf
  refine o_off hf ?_; clear hf a; intro a hf
  refine o_off hf ?_; clear hf a; intro a hf
  refine o_v hf hh (y_pt rfl rfl) ?_; clear hf a; intro a hf
  refine o_v hf hh (y_pt rfl rfl) ?_; clear hf a; intro a hf
  refine o_v hf hh (yv_move rfl) ?_; clear hf a; intro a hf
  refine o_call hf Try.en_17 rfl rfl rfl (c_awake03 _) ?_; clear hf a; intro v a w hR hf
  obtain ⟨rfl, hx⟩ := hR; replace hh := hh.more hx; clear hx
  refine o_v hf hh (y_pt rfl rfl) ?_; clear hf a; intro a hf
  refine o_v hf hh (yv_assign rfl) ?_; clear hf a; intro a hf
  refine o_end ?_
  refine sy_ret ?_
  refine then_r ?_
  refine ret_r hf rfl rfl ?_
  exact ⟨rfl, hh.ext⟩
set_option maxRecDepth 100000 in
set_option maxHeartbeats 4000000 in
theorem k_no11 (c : CaD) (sa : Option Addr) (cp wn bn : Nat) (hw : wn ≤ 255) (hbn : bn < 4294967296) (hl : c.pr.th.length ≤ 9223372036854775807) (k : Nat) (t : ThD) (hcb : caB c = true) (h20 : c.cuts ≤ 20) (hkd : k = wn % c.pr.th.length) (ht : c.pr.th[k]? = some t) (hE : disE c.pr t = 11) (hV : disV c.pr t = (0, 0)) (u : World) (hA : ThAt u sa c.pr.th) : Calls Try.prog 4 #[.agg (caA c sa cp), .int .u8 ((wn : Nat) : Int), .int .u32 ((bn : Nat) : Int)] u (Ret fun v w' => v = .bool true ∧ Ext [] u w') := by
  refine calls_of Try.func4 rfl rfl (fun a hf => ?_)
  have hh := Hp.init u []
  have hc := caB_iff.1 hcb
  have hnt := hc.pr.nt
  have hkl := (List.getElem?_eq_some_iff.1 ht).1
  obtain ⟨k1, k2⟩ := hc.cu
  obtain ⟨n1, n2⟩ := hc.pr.ne
  obtain ⟨f1, f2⟩ := hc.pr.fa
  refine sy_sq ?_
  refine o_box hf hh ?_; clear hf hh a; intro B3 a w hf hh
  refine o_v hf hh (yv_assign rfl) ?_; clear hf a; intro a hf
  refine o_end ?_
  refine sy_sq ?_
  refine o_v hf hh (yv_fieldAddr Try.fo_66_0 rfl) ?_; clear hf a; intro a hf
  refine o_v hf hh (yv_fieldAddr Try.fo_64_5 rfl) ?_; clear hf a; intro a hf
  refine o_v hf hh (y_ld Try.sc_62 rfl) ?_; clear hf a; intro a hf
  refine o_v hf hh (yv_len Try.se_62 rfl) ?_; clear hf a; intro a hf
  refine o_v hf hh (yv_assign rfl) ?_; clear hf a; intro a hf
  refine o_end ?_
  refine sy_seq ?_
  refine sy_sq ?_
  refine o_v hf hh (yv_move rfl) ?_; clear hf a; intro a hf
  refine o_v hf hh (yv_bin rfl rfl rfl) ?_; clear hf a; intro a hf
  refine o_v hf hh (yv_move rfl) ?_; clear hf a; intro a hf
  refine o_v hf hh (yv_move rfl) ?_; clear hf a; intro a hf
  refine o_v hf hh (yv_bin rfl rfl rfl) ?_; clear hf a; intro a hf
  refine o_v hf hh (y_pf rfl rfl) ?_; clear hf a; intro a hf
  refine o_v hf hh (yv_move rfl) ?_; clear hf a; intro a hf
  refine o_v hf hh (y_lds Try.ag_66 rfl) ?_; clear hf a; intro a hf
  refine o_call hf Try.en_16 rfl rfl rfl (c_Card c sa cp _ (hA.ext hh.ext) hl) ?_; clear hf a; intro v a w hR hf
  obtain ⟨rfl, hx⟩ := hR; replace hh := hh.more hx; clear hx
  refine o_v hf hh (yv_not rfl) ?_; clear hf a; intro a hf
  refine o_v hf hh (y_pf rfl rfl) ?_; clear hf a; intro a hf
  refine o_v hf hh (yv_move rfl) ?_; clear hf a; intro a hf
  refine o_v hf hh (yv_fieldAddr Try.fo_66_3 rfl) ?_; clear hf a; intro a hf
  refine o_v hf hh (y_ld Try.sc_3 rfl) ?_; clear hf a; intro a hf
  refine o_v hf hh (yv_bin rfl rfl rfl) ?_; clear hf a; intro a hf
  refine o_v hf hh (y_pf rfl rfl) ?_; clear hf a; intro a hf
  refine o_end ?_
  refine c_f hf ?_
  refine sy_skip ?_
  refine then_n ?_
  refine sy_sq ?_
  refine o_v hf hh (yv_move rfl) ?_; clear hf a; intro a hf
  refine o_v hf hh (yv_convx (.inl rfl) (by kernel_rfl) Try.un_3 rfl (by omega) (by simp only [IntKind.top]; omega)) ?_; clear hf a; intro a hf
  refine o_v hf hh (yv_move rfl) ?_; clear hf a; intro a hf
  refine ops_v hf hh (yv_cast (yv_rem rfl rfl (by omega) (by omega)) (intv (b := ((k : Nat) : Int)) (by rw [hkd, Int.natCast_emod]))) (.inl rfl) rfl rfl rfl ?_; clear hf a; intro a hf
  refine o_v hf hh (yv_assign rfl) ?_; clear hf a; intro a hf
  refine o_end ?_
  refine sy_sq ?_
  refine o_v hf hh (yv_fieldAddr Try.fo_66_0 rfl) ?_; clear hf a; intro a hf
  refine o_v hf hh (y_lds Try.ag_64 rfl) ?_; clear hf a; intro a hf
  refine o_v hf hh (yv_move rfl) ?_; clear hf a; intro a hf
  refine o_call hf Try.en_18 rfl rfl rfl (c_Distance c.pr sa cp t k hc.pr ht _ (hA.ext hh.ext)) ?_; clear hf a; intro v a w hR hf
  rw [hE, hV] at hR
  obtain ⟨rfl, hx⟩ := hR; replace hh := hh.more hx; clear hx
  refine o_v hf hh (yv_move rfl) ?_; clear hf a; intro a hf
  refine o_v hf hh (yv_extract rfl rfl) ?_; clear hf a; intro a hf
  refine o_v hf hh (yv_extract rfl rfl) ?_; clear hf a; intro a hf
  refine o_alloc hf hh Try.ze_36 ?_; clear hf hh a; intro B9 a w hf hh
  refine o_store hf hh Try.sz_36 fun w hh => ?_
  refine o_v hf hh (yv_assign rfl) ?_; clear hf a; intro a hf
  refine o_end ?_
  refine sy_seq ?_
  refine sy_sq ?_
  refine o_v hf hh (yv_move rfl) ?_; clear hf a; intro a hf
  refine o_v hf hh (yv_bin rfl rfl rfl) ?_; clear hf a; intro a hf
  refine o_end ?_
  refine c_t hf ?_
  refine sy_sq ?_
  refine o_v hf hh (y_lds Try.ag_36 rfl) ?_; clear hf a; intro a hf
  refine o_v hf hh (yv_buildS Try.bs_36 rfl rfl) ?_; clear hf a; intro a hf
  refine o_v hf hh (yv_eqF [0, 0] [0, 0] (by kernel_rfl) rfl rfl) ?_; clear hf a; intro a hf
  refine o_v hf hh (yv_move rfl) ?_; clear hf a; intro a hf
  refine o_v hf hh (yv_move rfl) ?_; clear hf a; intro a hf
  refine o_v hf hh (yv_bin rfl rfl rfl) ?_; clear hf a; intro a hf
  refine o_v hf hh (yv_move rfl) ?_; clear hf a; intro a hf
  refine o_v hf hh (yv_move rfl) ?_; clear hf a; intro a hf
  refine o_v hf hh (yv_bin rfl rfl rfl) ?_; clear hf a; intro a hf
  refine o_v hf hh (y_pf rfl rfl) ?_; clear hf a; intro a hf
  refine o_v hf hh (y_pt rfl rfl) ?_; clear hf a; intro a hf
  refine o_v hf hh (yv_move rfl) ?_; clear hf a; intro a hf
  refine o_call hf Try.en_17 rfl rfl rfl (c_awake03 _) ?_; clear hf a; intro v a w hR hf
  obtain ⟨rfl, hx⟩ := hR; replace hh := hh.more hx; clear hx
  refine o_v hf hh (y_pt rfl rfl) ?_; clear hf a; intro a hf
  refine o_v hf hh (yv_assign rfl) ?_; clear hf a; intro a hf
  refine o_end ?_
  refine sy_ret ?_
  refine then_r ?_
  refine ret_r hf rfl rfl ?_
  exact ⟨rfl, hh.ext⟩
set_option maxRecDepth 100000 in
set_option maxHeartbeats 4000000 in
theorem k_hurt1 (c : CaD) (sa : Option Addr) (cp wn bn : Nat) (hw : wn ≤ 255) (hbn : bn < 4294967296) (hl : c.pr.th.length ≤ 9223372036854775807) (k : Nat) (t : ThD) (hcb : caB c = true) (h20 : c.cuts ≤ 20) (hkd : k = wn % c.pr.th.length) (ht : c.pr.th[k]? = some t) (y dv y' : Int × Int) (z : Int) (x : CaD) (hy : powO c.pr = some y) (hst : stB c.pr t y = true) (hdv : dstV c.pr t y = dv) (hdb : c.pr.near ≤ dv.1 ∧ dv.1 ≤ dv.2 ∧ dv.2 ≤ c.pr.far) (hzd : z = dv.1 + ((bn : Nat) : Int) % (dv.2 - dv.1 + 1)) (hxO : CaOk x) (hyx : powO x.pr = some y') (hxc : ∀ s cap, caA x s cap = caA c s cap) (hxt : x.pr.th = (knw c.pr k z).th) (hsee : ∀ i, seeB x y' i = true → seeB c y i = true) (hk1 : seeB c y k = true) (hk2 : seeB x y' k = true) (hxl : x.pr.th.length = c.pr.th.length) (u2 : Edg) (ho1 : bstO c y = none) (ho2 : bstO x y' = some u2) (u : World) (hA : ThAt u sa c.pr.th) : Calls Try.prog 4 #[.agg (caA c sa cp), .int .u8 ((wn : Nat) : Int), .int .u32 ((bn : Nat) : Int)] u (Ret fun v w' => v = .bool true ∧ Ext [] u w') := by
  refine calls_of Try.func4 rfl rfl (fun a hf => ?_)
  have hh := Hp.init u []
  have hc := caB_iff.1 hcb
  have hnt := hc.pr.nt
  have hkl := (List.getElem?_eq_some_iff.1 ht).1
  obtain ⟨k1, k2⟩ := hc.cu
  obtain ⟨n1, n2⟩ := hc.pr.ne
  obtain ⟨f1, f2⟩ := hc.pr.fa
  obtain ⟨e1, e2⟩ := dis_yes hy hst
  rw [hdv] at e2
  obtain ⟨v1, v2, v3⟩ := hdb
  have hm0 := Int.emod_nonneg ((bn : Nat) : Int) (show dv.2 - dv.1 + 1 ≠ 0 by omega)
  have hm1 := Int.emod_lt_of_pos ((bn : Nat) : Int) (show 0 < dv.2 - dv.1 + 1 by omega)
  refine sy_sq ?_
  refine o_box hf hh ?_; clear hf hh a; intro B3 a w hf hh
  refine o_v hf hh (yv_assign rfl) ?_; clear hf a; intro a hf
  refine o_end ?_
  refine sy_sq ?_
  refine o_v hf hh (yv_fieldAddr Try.fo_66_0 rfl) ?_; clear hf a; intro a hf
  refine o_v hf hh (yv_fieldAddr Try.fo_64_5 rfl) ?_; clear hf a; intro a hf
  refine o_v hf hh (y_ld Try.sc_62 rfl) ?_; clear hf a; intro a hf
  refine o_v hf hh (yv_len Try.se_62 rfl) ?_; clear hf a; intro a hf
  refine o_v hf hh (yv_assign rfl) ?_; clear hf a; intro a hf
  refine o_end ?_
  refine sy_seq ?_
  refine sy_sq ?_
  refine o_v hf hh (yv_move rfl) ?_; clear hf a; intro a hf
  refine o_v hf hh (yv_bin rfl rfl rfl) ?_; clear hf a; intro a hf
  refine o_v hf hh (yv_move rfl) ?_; clear hf a; intro a hf
  refine o_v hf hh (yv_move rfl) ?_; clear hf a; intro a hf
  refine o_v hf hh (yv_bin rfl rfl rfl) ?_; clear hf a; intro a hf
  refine o_v hf hh (y_pf rfl rfl) ?_; clear hf a; intro a hf
  refine o_v hf hh (yv_move rfl) ?_; clear hf a; intro a hf
  refine o_v hf hh (y_lds Try.ag_66 rfl) ?_; clear hf a; intro a hf
  refine o_call hf Try.en_16 rfl rfl rfl (c_Card c sa cp _ (hA.ext hh.ext) hl) ?_; clear hf a; intro v a w hR hf
  obtain ⟨rfl, hx⟩ := hR; replace hh := hh.more hx; clear hx
  refine o_v hf hh (yv_not rfl) ?_; clear hf a; intro a hf
  refine o_v hf hh (y_pf rfl rfl) ?_; clear hf a; intro a hf
  refine o_v hf hh (yv_move rfl) ?_; clear hf a; intro a hf
  refine o_v hf hh (yv_fieldAddr Try.fo_66_3 rfl) ?_; clear hf a; intro a hf
  refine o_v hf hh (y_ld Try.sc_3 rfl) ?_; clear hf a; intro a hf
  refine o_v hf hh (yv_bin rfl rfl rfl) ?_; clear hf a; intro a hf
  refine o_v hf hh (y_pf rfl rfl) ?_; clear hf a; intro a hf
  refine o_end ?_
  refine c_f hf ?_
  refine sy_skip ?_
  refine then_n ?_
  refine sy_sq ?_
  refine o_v hf hh (yv_move rfl) ?_; clear hf a; intro a hf
  refine o_v hf hh (yv_convx (.inl rfl) (by kernel_rfl) Try.un_3 rfl (by omega) (by simp only [IntKind.top]; omega)) ?_; clear hf a; intro a hf
  refine o_v hf hh (yv_move rfl) ?_; clear hf a; intro a hf
  refine ops_v hf hh (yv_cast (yv_rem rfl rfl (by omega) (by omega)) (intv (b := ((k : Nat) : Int)) (by rw [hkd, Int.natCast_emod]))) (.inl rfl) rfl rfl rfl ?_; clear hf a; intro a hf
  refine o_v hf hh (yv_assign rfl) ?_; clear hf a; intro a hf
  refine o_end ?_
  refine sy_sq ?_
  refine o_v hf hh (yv_fieldAddr Try.fo_66_0 rfl) ?_; clear hf a; intro a hf
  refine o_v hf hh (y_lds Try.ag_64 rfl) ?_; clear hf a; intro a hf
  refine o_v hf hh (yv_move rfl) ?_; clear hf a; intro a hf
  refine o_call hf Try.en_18 rfl rfl rfl (c_Distance c.pr sa cp t k hc.pr ht _ (hA.ext hh.ext)) ?_; clear hf a; intro v a w hR hf
  rw [e1, e2] at hR
  obtain ⟨rfl, hx⟩ := hR; replace hh := hh.more hx; clear hx
  refine o_v hf hh (yv_move rfl) ?_; clear hf a; intro a hf
  refine o_v hf hh (yv_extract rfl rfl) ?_; clear hf a; intro a hf
  refine o_v hf hh (yv_extract rfl rfl) ?_; clear hf a; intro a hf
  refine o_alloc hf hh Try.ze_36 ?_; clear hf hh a; intro B9 a w hf hh
  refine o_store hf hh Try.sz_36 fun w hh => ?_
  refine o_v hf hh (yv_assign rfl) ?_; clear hf a; intro a hf
  refine o_end ?_
  refine sy_seq ?_
  refine sy_sq ?_
  refine o_v hf hh (yv_move rfl) ?_; clear hf a; intro a hf
  refine o_v hf hh (yv_bin rfl rfl rfl) ?_; clear hf a; intro a hf
  refine o_end ?_
  refine c_f hf ?_
  refine sy_skip ?_
  refine then_n ?_
  refine sy_seq ?_
  refine sy_sq ?_
  refine o_v hf hh (yv_fieldAddr Try.fo_36_0 rfl) ?_; clear hf a; intro a hf
  refine o_v hf hh (y_ld Try.sc_3 rfl) ?_; clear hf a; intro a hf
  refine o_v hf hh (yv_fieldAddr Try.fo_66_0 rfl) ?_; clear hf a; intro a hf
  refine o_v hf hh (yv_fieldAddr Try.fo_64_3 rfl) ?_; clear hf a; intro a hf
  refine o_v hf hh (y_ld Try.sc_3 rfl) ?_; clear hf a; intro a hf
  refine o_v hf hh (yv_bin rfl rfl rfl) ?_; clear hf a; intro a hf
  refine o_v hf hh (yv_move rfl) ?_; clear hf a; intro a hf
  refine o_v hf hh (yv_fieldAddr Try.fo_36_0 rfl) ?_; clear hf a; intro a hf
  refine o_v hf hh (y_ld Try.sc_3 rfl) ?_; clear hf a; intro a hf
  refine o_v hf hh (yv_fieldAddr Try.fo_36_1 rfl) ?_; clear hf a; intro a hf
  refine o_v hf hh (y_ld Try.sc_3 rfl) ?_; clear hf a; intro a hf
  refine o_v hf hh (yv_bin rfl rfl rfl) ?_; clear hf a; intro a hf
  refine o_v hf hh (y_pf rfl rfl) ?_; clear hf a; intro a hf
  refine o_v hf hh (yv_move rfl) ?_; clear hf a; intro a hf
  refine o_v hf hh (yv_fieldAddr Try.fo_36_1 rfl) ?_; clear hf a; intro a hf
  refine o_v hf hh (y_ld Try.sc_3 rfl) ?_; clear hf a; intro a hf
  refine o_v hf hh (yv_fieldAddr Try.fo_66_0 rfl) ?_; clear hf a; intro a hf
  refine o_v hf hh (yv_fieldAddr Try.fo_64_4 rfl) ?_; clear hf a; intro a hf
  refine o_v hf hh (y_ld Try.sc_3 rfl) ?_; clear hf a; intro a hf
  refine o_v hf hh (yv_bin rfl rfl rfl) ?_; clear hf a; intro a hf
  refine o_v hf hh (y_pf rfl rfl) ?_; clear hf a; intro a hf
  refine o_end ?_
  refine c_f hf ?_
  refine sy_skip ?_
  refine then_n ?_
  refine sy_sq ?_
  refine o_v hf hh (y_lds Try.ag_66 rfl) ?_; clear hf a; intro a hf
  refine o_alloc hf hh Try.ze_66 ?_; clear hf hh a; intro B11 a w hf hh
  refine o_store hf hh Try.sz_66 fun w hh => ?_
  refine o_end ?_
  refine sy_seq ?_
  replace hh : Hp u [] [(B11, .cells (caA c sa cp) 66), (B9, .cells #[.int .i64 dv.1, .int .i64 dv.2] 36), (B3, .cells (caA c sa cp) 66)] w := hh
  refine sy_ops ?_
  refine ops_buildSl hf hh Try.bl_62_0 rfl rfl (.inl rfl) rfl ?_; clear hf hh; clear a; intro B104 a w hf hh
  refine o_v hf hh (yv_fieldAddr Try.fo_66_0 rfl) ?_; clear hf a; intro a hf
  refine o_v hf hh (yv_fieldAddr Try.fo_64_5 rfl) ?_; clear hf a; intro a hf
  refine o_v hf hh (y_ld Try.sc_62 rfl) ?_; clear hf a; intro a hf
  refine ops_appendV (e := 73) (size := 9) (xs := []) (news := c.pr.th.flatMap thC) (X := [(B104, Obj.cells #[] 73)]) (Z := [(B11, Obj.cells (caA c sa cp) 66), (B9, Obj.cells #[.int .i64 dv.1, .int .i64 dv.2] 36), (B3, Obj.cells (caA c sa cp) 66)]) (m := 0) hf hh Try.eb_62 rfl rfl ⟨rfl, .inr ⟨B104, 0, #[], rfl, rfl, Nat.le_refl _, Nat.zero_le _, rfl, rfl⟩⟩ (vals_ofP (hA.ext hh.ext)) (flat_lenP _) (by omega) (th_one _) (by simp only [maxLen]; omega) (by omega) (.inl rfl) rfl ?_
  clear hf hh a; intro v108 X a w hOw hf hh
  rw [Nat.zero_add, List.nil_append] at hOw
  obtain ⟨Bx, cap, cur, rfl, rfl, hcx, hcm, hsz, hct⟩ := own_valP hOw (by omega)
  replace hh : Hp u [] [(Bx, .cells cur 73), (B11, .cells (caA c sa cp) 66), (B9, .cells #[.int .i64 dv.1, .int .i64 dv.2] 36), (B3, .cells (caA c sa cp) 66)] w := hh
  refine o_v hf hh (yv_fieldAddr Try.fo_66_0 rfl) ?_; clear hf a; intro a hf
  refine o_v hf hh (yv_fieldAddr Try.fo_64_5 rfl) ?_; clear hf a; intro a hf
  refine o_store hf hh Try.sz_62 fun w hh => ?_
  refine o_end ?_
  refine sy_seq ?_
  replace hh : Hp u [] [(Bx, .cells cur 73), (B11, .cells (caA c (some ⟨Bx, 0, none⟩) cap) 66), (B9, .cells #[.int .i64 dv.1, .int .i64 dv.2] 36), (B3, .cells (caA c sa cp) 66)] w := hh
  refine sy_tail (C := Hp _ _ _) 18 Try.follows (by kernel_rfl) rfl rfl (hh.drawn _) ?_
  refine oq_v hf (yv_fieldAddr Try.fo_66_0 rfl) ?_; clear hf a; intro a hf
  refine oq_v hf (yv_fieldAddr Try.fo_64_5 rfl) ?_; clear hf a; intro a hf
  refine oq_v hf (y_ld Try.sc_62 rfl) ?_; clear hf a; intro a hf
  refine oq_v hf (yv_move rfl) ?_; clear hf a; intro a hf
  refine oq_v hf (yv_fieldAddr Try.fo_36_0 rfl) ?_; clear hf a; intro a hf
  refine oq_v hf (y_ld Try.sc_3 rfl) ?_; clear hf a; intro a hf
  refine oq_v hf (yv_move rfl) ?_; clear hf a; intro a hf
  refine oq_v hf (yv_convx (.inl rfl) (by kernel_rfl) Try.un_3 rfl (by omega) (by simp only [IntKind.top]; omega)) ?_; clear hf a; intro a hf
  refine oq_v hf (yv_fieldAddr Try.fo_36_1 rfl) ?_; clear hf a; intro a hf
  refine oq_v hf (y_ld Try.sc_3 rfl) ?_; clear hf a; intro a hf
  refine oq_v hf (yv_fieldAddr Try.fo_36_0 rfl) ?_; clear hf a; intro a hf
  refine oq_v hf (y_ld Try.sc_3 rfl) ?_; clear hf a; intro a hf
  refine oq_v hf (y_sub rfl rfl) ?_; clear hf a; intro a hf
  refine oq_v hf (y_add rfl rfl) ?_; clear hf a; intro a hf
  refine oq_v hf (yv_rem rfl rfl (by omega) (by omega)) ?_; clear hf a; intro a hf
  refine q_v hf (yv_cast (y_add rfl rfl (by omega) (by omega)) (intv (b := z) hzd.symm)) (.inl rfl) rfl rfl ?_; clear hf a; intro a hf
  refine oq_v hf (y_ix Try.se_62 rfl rfl) ?_; clear hf a; intro a hf
  refine oq_v hf (yv_fieldAddr Try.fo_73_2 rfl) ?_; clear hf a; intro a hf
  refine q_end fun w hh => ?_
  refine o_store (i := 0) hf hh Try.sz_3 (hx := rfl) (hi := atI (i := 0) rfl) (hy := rfl) (hl := Nat.ble_eq_true_of_le (by rw [Int.toNat_natCast, hsz]; omega)) fun w hh => ?_
  refine o_end ?_
  refine sy_seq ?_
  refine sy_seq ?_
  obtain ⟨c2, hcs2, hh⟩ : ∃ c2, ThCs c2 x.pr.th ∧ Hp u [] [(Bx, .cells c2 73), (B11, .cells (caA x (some ⟨Bx, 0, none⟩) cap) 66), (B9, .cells #[.int .i64 dv.1, .int .i64 dv.2] 36), (B3, .cells (caA c sa cp) 66)] w := by
    have h9 : spl cur (0 + ((k : Nat) : Int).toNat * 9 + 8) [.int .i64 z] = cur.setIfInBounds (k * 9 + 8) (.int .i64 z) := by rw [Int.toNat_natCast, Nat.zero_add, spl_one _ _ (by omega)]
    refine ⟨spl cur (0 + ((k : Nat) : Int).toNat * 9 + 8) [.int .i64 z], ?_, by rw [hxc]; exact hh⟩
    rw [h9, hxt]
    exact cs_put (cs_own hct) ht (by omega)
  refine sy_ops ?_
  refine o_v hf hh (yv_fieldAddr Try.fo_66_0 rfl) ?_; clear hf a; intro a hf
  refine o_v hf hh (y_lds Try.ag_64 rfl) ?_; clear hf a; intro a hf
  refine o_call hf Try.en_19 rfl rfl rfl (c_PowerS x.pr (some ⟨Bx, 0, none⟩) cap hxO.pr y' hyx _ (cs_at (hh.get (Bx, .cells c2 73) (by simp)) hcs2)) ?_; clear hf a; intro v a w hR hf
  obtain ⟨rfl, hx⟩ := hR; replace hh := hh.more hx; clear hx
  refine o_v hf hh (yv_move rfl) ?_; clear hf a; intro a hf
  refine o_v hf hh (yv_extract rfl rfl) ?_; clear hf a; intro a hf
  refine o_v hf hh (yv_extract rfl rfl) ?_; clear hf a; intro a hf
  refine o_alloc hf hh Try.ze_36 ?_; clear hf hh a; intro B12 a w hf hh
  refine o_store hf hh Try.sz_36 fun w hh => ?_
  refine o_v hf hh (yv_assign rfl) ?_; clear hf a; intro a hf
  refine o_end ?_
  refine sy_sq ?_
  refine o_v hf hh (yv_move rfl) ?_; clear hf a; intro a hf
  refine o_v hf hh (yv_bin rfl rfl rfl) ?_; clear hf a; intro a hf
  refine o_end ?_
  refine c_f hf ?_
  refine sy_skip ?_
  refine then_n ?_
  refine sy_sq ?_
  refine o_v hf hh (y_lds Try.ag_66 rfl) ?_; clear hf a; intro a hf
  refine o_call hf Try.en_20 rfl rfl rfl (c_Seen c sa cp y hc hy _ (hA.ext hh.ext)) ?_; clear hf a; intro v a w hR hf
  obtain ⟨s1, rfl, hs1, hx⟩ := hR; replace hh := hh.more hx; clear hx
  refine o_v hf hh (yv_move rfl) ?_; clear hf a; intro a hf
  refine o_v hf hh (yv_extract rfl rfl) ?_; clear hf a; intro a hf
  refine o_v hf hh (yv_extract rfl rfl) ?_; clear hf a; intro a hf
  refine o_v hf hh (yv_assign rfl) ?_; clear hf a; intro a hf
  refine o_v hf hh (yv_assign rfl) ?_; clear hf a; intro a hf
  refine o_end ?_
  refine sy_sq ?_
  refine o_v hf hh (y_lds Try.ag_66 rfl) ?_; clear hf a; intro a hf
  refine o_call hf Try.en_20 rfl rfl rfl (c_Seen x (some ⟨Bx, 0, none⟩) cap y' hxO hyx _ (cs_at (hh.get (Bx, .cells c2 73) (by simp)) hcs2)) ?_; clear hf a; intro v a w hR hf
  obtain ⟨s2, rfl, hs2, hx⟩ := hR; replace hh := hh.more hx; clear hx
  refine o_v hf hh (yv_move rfl) ?_; clear hf a; intro a hf
  refine o_v hf hh (yv_extract rfl rfl) ?_; clear hf a; intro a hf
  refine o_v hf hh (yv_extract rfl rfl) ?_; clear hf a; intro a hf
  refine o_v hf hh (yv_assign rfl) ?_; clear hf a; intro a hf
  refine o_v hf hh (yv_assign rfl) ?_; clear hf a; intro a hf
  refine o_end ?_
  refine sy_sq ?_
  refine o_v hf hh (y_lds Try.ag_66 rfl) ?_; clear hf a; intro a hf
  refine o_call hf Try.en_21 rfl rfl rfl (c_Trim c sa cp y hc hy _ (hA.ext hh.ext)) ?_; clear hf a; intro v a w hR hf
  rw [ho1] at hR
  obtain ⟨rfl, hx⟩ := hR; replace hh := hh.more hx; clear hx
  refine o_v hf hh (yv_move rfl) ?_; clear hf a; intro a hf
  refine o_v hf hh (yv_extract rfl rfl) ?_; clear hf a; intro a hf
  refine o_v hf hh (yv_extract rfl rfl) ?_; clear hf a; intro a hf
  refine o_alloc hf hh Try.ze_77 ?_; clear hf hh a; intro B18 a w hf hh
  refine o_store hf hh Try.sz_77 fun w hh => ?_
  refine o_v hf hh (yv_assign rfl) ?_; clear hf a; intro a hf
  refine o_end ?_
  refine sy_sq ?_
  refine o_v hf hh (y_lds Try.ag_66 rfl) ?_; clear hf a; intro a hf
  refine o_call hf Try.en_21 rfl rfl rfl (c_Trim x (some ⟨Bx, 0, none⟩) cap y' hxO hyx _ (cs_at (hh.get (Bx, .cells c2 73) (by simp)) hcs2)) ?_; clear hf a; intro v a w hR hf
  rw [ho2] at hR
  obtain ⟨rfl, hx⟩ := hR; replace hh := hh.more hx; clear hx
  refine o_v hf hh (yv_move rfl) ?_; clear hf a; intro a hf
  refine o_v hf hh (yv_extract rfl rfl) ?_; clear hf a; intro a hf
  refine o_v hf hh (yv_extract rfl rfl) ?_; clear hf a; intro a hf
  refine o_alloc hf hh Try.ze_77 ?_; clear hf hh a; intro B20 a w hf hh
  refine o_store hf hh Try.sz_77 fun w hh => ?_
  refine o_v hf hh (yv_assign rfl) ?_; clear hf a; intro a hf
  refine o_end ?_
  refine sy_seq ?_
  refine sy_seq ?_
  have hs1b := hs1.1; have hs2b := hs2.1
  have hbit1 : (!s1.testBit k) = false := by rw [(hs1.2 k).2 (see_mem.2 ((see_bit hkl).2 hk1))]; rfl
  have hbit2 : (!s2.testBit k) = false := by rw [(hs2.2 k).2 (see_mem.2 ((see_bit (by omega)).2 hk2))]; rfl
  have hsub : s2 ^^^ (s2 &&& s1) = 0 := sub_none fun i hi => by
    have h1 := see_mem.1 ((hs2.2 i).1 hi)
    have h2 := see_lt h1
    exact (hs1.2 i).2 (see_mem.2 ((see_bit (by omega)).2 (hsee i ((see_bit h2).1 h1))))
  have hr1 := Nat.shiftRight_le s1 k
  have hr2 := Nat.shiftRight_le s2 k
  refine sy_ops ?_
  refine o_v hf hh (yv_move rfl) ?_; clear hf a; intro a hf
  refine o_v hf hh (yv_bin rfl rfl rfl) ?_; clear hf a; intro a hf
  refine o_v hf hh (yv_move rfl) ?_; clear hf a; intro a hf
  refine o_v hf hh (yv_move rfl) ?_; clear hf a; intro a hf
  refine o_v hf hh (yv_bin rfl rfl rfl) ?_; clear hf a; intro a hf
  refine o_v hf hh (y_pf rfl rfl) ?_; clear hf a; intro a hf
  refine o_v hf hh (yv_move rfl) ?_; clear hf a; intro a hf
  refine o_v hf hh (yv_move rfl) ?_; clear hf a; intro a hf
  refine o_v hf hh (yv_move rfl) ?_; clear hf a; intro a hf
  refine o_v hf hh (yv_shrN rfl rfl) ?_; clear hf a; intro a hf
  refine ops_v hf hh (yv_cast (yv_and (.inl rfl) rfl rfl (Int.natCast_nonneg _) (by simp only [IntKind.top]; omega) (by omega) (by simp only [IntKind.top]; omega)) (intv (b := ((s1 >>> k &&& 1 : Nat) : Int)) (by rw [Int.toNat_natCast]; rfl))) (gon rfl rfl rfl (by first | assumption | rfl | (simp; done) | (simp; omega))) rfl rfl rfl ?_; clear hf a; intro a hf
  refine o_v hf hh (yv_bit0 rfl rfl) ?_; clear hf a; intro a hf
  refine o_v hf hh (y_pf rfl rfl) ?_; clear hf a; intro a hf
  refine o_v hf hh (yv_move rfl) ?_; clear hf a; intro a hf
  refine o_v hf hh (yv_move rfl) ?_; clear hf a; intro a hf
  refine o_v hf hh (yv_move rfl) ?_; clear hf a; intro a hf
  refine o_v hf hh (yv_shrN rfl rfl) ?_; clear hf a; intro a hf
  refine ops_v hf hh (yv_cast (yv_and (.inl rfl) rfl rfl (Int.natCast_nonneg _) (by simp only [IntKind.top]; omega) (by omega) (by simp only [IntKind.top]; omega)) (intv (b := ((s2 >>> k &&& 1 : Nat) : Int)) (by rw [Int.toNat_natCast]; rfl))) (gon rfl rfl rfl (by first | assumption | rfl | (simp; done) | (simp; omega))) rfl rfl rfl ?_; clear hf a; intro a hf
  refine o_v hf hh (yv_bit0 rfl rfl) ?_; clear hf a; intro a hf
  refine o_v hf hh (y_pf rfl rfl) ?_; clear hf a; intro a hf
  refine o_v hf hh (yv_move rfl) ?_; clear hf a; intro a hf
  refine o_v hf hh (yv_move rfl) ?_; clear hf a; intro a hf
  refine o_v hf hh (yv_move rfl) ?_; clear hf a; intro a hf
  refine ops_v hf hh (yv_cast (yv_andnI rfl rfl (by omega) (by omega)) (intv (b := 0) (by rw [hsub]; rfl))) (gon rfl rfl rfl (by first | assumption | rfl | (simp; done) | (simp; omega))) rfl rfl rfl ?_; clear hf a; intro a hf
  refine o_v hf hh (yv_bin rfl rfl rfl) ?_; clear hf a; intro a hf
  refine o_v hf hh (y_pf rfl rfl) ?_; clear hf a; intro a hf
  refine o_v hf hh (yv_move rfl) ?_; clear hf a; intro a hf
  refine o_v hf hh (yv_move rfl) ?_; clear hf a; intro a hf
  refine o_v hf hh (yv_bin rfl rfl rfl) ?_; clear hf a; intro a hf
  refine o_v hf hh (yv_move rfl) ?_; clear hf a; intro a hf
  refine o_v hf hh (yv_move rfl) ?_; clear hf a; intro a hf
  refine o_v hf hh (yv_bin rfl rfl rfl) ?_; clear hf a; intro a hf
  refine o_v hf hh (y_pt rfl rfl) ?_; clear hf a; intro a hf
  refine o_v hf hh (y_pf rfl rfl) ?_; clear hf a; intro a hf
  refine o_v hf hh (yv_move rfl) ?_; clear hf a; intro a hf
  refine o_v hf hh (yv_move rfl) ?_; clear hf a; intro a hf
  refine o_v hf hh (yv_bin rfl rfl rfl) ?_; clear hf a; intro a hf
  refine o_v hf hh (yv_move rfl) ?_; clear hf a; intro a hf
  refine o_off hf ?_; clear hf a; intro a hf
  refine o_off hf ?_; clear hf a; intro a hf
  refine o_v hf hh (y_pf rfl rfl) ?_; clear hf a; intro a hf
  refine o_v hf hh (y_pf rfl rfl) ?_; clear hf a; intro a hf
  refine o_v hf hh (yv_move rfl) ?_; clear hf a; intro a hf
  refine o_v hf hh (yv_move rfl) ?_; clear hf a; intro a hf
  refine o_v hf hh (yv_bin rfl rfl rfl) ?_; clear hf a; intro a hf
  refine o_v hf hh (yv_move rfl) ?_; clear hf a; intro a hf
  refine o_off hf ?_; clear hf a; intro a hf
  refine o_off hf ?_; clear hf a; intro a hf
  refine o_v hf hh (y_pf rfl rfl) ?_; clear hf a; intro a hf
  refine o_v hf hh (y_pf rfl rfl) ?_; clear hf a; intro a hf
  refine o_end ?_
  refine c_f hf ?_
  refine sy_skip ?_
  refine then_n ?_
  refine sy_seq ?_
  refine sy_sq ?_
  refine o_v hf hh (yv_move rfl) ?_; clear hf a; intro a hf
  refine o_v hf hh (yv_bin rfl rfl rfl) ?_; clear hf a; intro a hf
  refine o_end ?_
  refine c_t hf ?_
  refine sy_sq ?_
  refine o_call hf Try.en_17 rfl rfl rfl (c_awake03 _) ?_; clear hf a; intro v a w hR hf
  obtain ⟨rfl, hx⟩ := hR; replace hh := hh.more hx; clear hx
  refine o_v hf hh (yv_assign rfl) ?_; clear hf a; intro a hf
  refine o_end ?_
  refine sy_ret ?_
  refine then_r ?_
  refine ret_r hf rfl rfl ?_
  exact ⟨rfl, hh.ext⟩
set_option maxRecDepth 100000 in
set_option maxHeartbeats 4000000 in
theorem k_hurt2 (c : CaD) (sa : Option Addr) (cp wn bn : Nat) (hw : wn ≤ 255) (hbn : bn < 4294967296) (hl : c.pr.th.length ≤ 9223372036854775807) (k : Nat) (t : ThD) (hcb : caB c = true) (h20 : c.cuts ≤ 20) (hkd : k = wn % c.pr.th.length) (ht : c.pr.th[k]? = some t) (y dv y' : Int × Int) (z : Int) (x : CaD) (hy : powO c.pr = some y) (hst : stB c.pr t y = true) (hdv : dstV c.pr t y = dv) (hdb : c.pr.near ≤ dv.1 ∧ dv.1 ≤ dv.2 ∧ dv.2 ≤ c.pr.far) (hzd : z = dv.1 + ((bn : Nat) : Int) % (dv.2 - dv.1 + 1)) (hxO : CaOk x) (hyx : powO x.pr = some y') (hxc : ∀ s cap, caA x s cap = caA c s cap) (hxt : x.pr.th = (knw c.pr k z).th) (hsee : ∀ i, seeB x y' i = true → seeB c y i = true) (hk1 : seeB c y k = true) (hk2 : seeB x y' k = true) (hxl : x.pr.th.length = c.pr.th.length) (ho1 : bstO c y = none) (ho2 : bstO x y' = none) (u : World) (hA : ThAt u sa c.pr.th) : Calls Try.prog 4 #[.agg (caA c sa cp), .int .u8 ((wn : Nat) : Int), .int .u32 ((bn : Nat) : Int)] u (Ret fun v w' => v = .bool true ∧ Ext [] u w') := by
  refine calls_of Try.func4 rfl rfl (fun a hf => ?_)
  have hh := Hp.init u []
  have hc := caB_iff.1 hcb
  have hnt := hc.pr.nt
  have hkl := (List.getElem?_eq_some_iff.1 ht).1
  obtain ⟨k1, k2⟩ := hc.cu
  obtain ⟨n1, n2⟩ := hc.pr.ne
  obtain ⟨f1, f2⟩ := hc.pr.fa
  obtain ⟨e1, e2⟩ := dis_yes hy hst
  rw [hdv] at e2
  obtain ⟨v1, v2, v3⟩ := hdb
  have hm0 := Int.emod_nonneg ((bn : Nat) : Int) (show dv.2 - dv.1 + 1 ≠ 0 by omega)
  have hm1 := Int.emod_lt_of_pos ((bn : Nat) : Int) (show 0 < dv.2 - dv.1 + 1 by omega)
  refine sy_sq ?_
  refine o_box hf hh ?_; clear hf hh a; intro B3 a w hf hh
  refine o_v hf hh (yv_assign rfl) ?_; clear hf a; intro a hf
  refine o_end ?_
  refine sy_sq ?_
  refine o_v hf hh (yv_fieldAddr Try.fo_66_0 rfl) ?_; clear hf a; intro a hf
  refine o_v hf hh (yv_fieldAddr Try.fo_64_5 rfl) ?_; clear hf a; intro a hf
  refine o_v hf hh (y_ld Try.sc_62 rfl) ?_; clear hf a; intro a hf
  refine o_v hf hh (yv_len Try.se_62 rfl) ?_; clear hf a; intro a hf
  refine o_v hf hh (yv_assign rfl) ?_; clear hf a; intro a hf
  refine o_end ?_
  refine sy_seq ?_
  refine sy_sq ?_
  refine o_v hf hh (yv_move rfl) ?_; clear hf a; intro a hf
  refine o_v hf hh (yv_bin rfl rfl rfl) ?_; clear hf a; intro a hf
  refine o_v hf hh (yv_move rfl) ?_; clear hf a; intro a hf
  refine o_v hf hh (yv_move rfl) ?_; clear hf a; intro a hf
  refine o_v hf hh (yv_bin rfl rfl rfl) ?_; clear hf a; intro a hf
  refine o_v hf hh (y_pf rfl rfl) ?_; clear hf a; intro a hf
  refine o_v hf hh (yv_move rfl) ?_; clear hf a; intro a hf
  refine o_v hf hh (y_lds Try.ag_66 rfl) ?_; clear hf a; intro a hf
  refine o_call hf Try.en_16 rfl rfl rfl (c_Card c sa cp _ (hA.ext hh.ext) hl) ?_; clear hf a; intro v a w hR hf
  obtain ⟨rfl, hx⟩ := hR; replace hh := hh.more hx; clear hx
  refine o_v hf hh (yv_not rfl) ?_; clear hf a; intro a hf
  refine o_v hf hh (y_pf rfl rfl) ?_; clear hf a; intro a hf
  refine o_v hf hh (yv_move rfl) ?_; clear hf a; intro a hf
  refine o_v hf hh (yv_fieldAddr Try.fo_66_3 rfl) ?_; clear hf a; intro a hf
  refine o_v hf hh (y_ld Try.sc_3 rfl) ?_; clear hf a; intro a hf
  refine o_v hf hh (yv_bin rfl rfl rfl) ?_; clear hf a; intro a hf
  refine o_v hf hh (y_pf rfl rfl) ?_; clear hf a; intro a hf
  refine o_end ?_
  refine c_f hf ?_
  refine sy_skip ?_
  refine then_n ?_
  refine sy_sq ?_
  refine o_v hf hh (yv_move rfl) ?_; clear hf a; intro a hf
  refine o_v hf hh (yv_convx (.inl rfl) (by kernel_rfl) Try.un_3 rfl (by omega) (by simp only [IntKind.top]; omega)) ?_; clear hf a; intro a hf
  refine o_v hf hh (yv_move rfl) ?_; clear hf a; intro a hf
  refine ops_v hf hh (yv_cast (yv_rem rfl rfl (by omega) (by omega)) (intv (b := ((k : Nat) : Int)) (by rw [hkd, Int.natCast_emod]))) (.inl rfl) rfl rfl rfl ?_; clear hf a; intro a hf
  refine o_v hf hh (yv_assign rfl) ?_; clear hf a; intro a hf
  refine o_end ?_
  refine sy_sq ?_
  refine o_v hf hh (yv_fieldAddr Try.fo_66_0 rfl) ?_; clear hf a; intro a hf
  refine o_v hf hh (y_lds Try.ag_64 rfl) ?_; clear hf a; intro a hf
  refine o_v hf hh (yv_move rfl) ?_; clear hf a; intro a hf
  refine o_call hf Try.en_18 rfl rfl rfl (c_Distance c.pr sa cp t k hc.pr ht _ (hA.ext hh.ext)) ?_; clear hf a; intro v a w hR hf
  rw [e1, e2] at hR
  obtain ⟨rfl, hx⟩ := hR; replace hh := hh.more hx; clear hx
  refine o_v hf hh (yv_move rfl) ?_; clear hf a; intro a hf
  refine o_v hf hh (yv_extract rfl rfl) ?_; clear hf a; intro a hf
  refine o_v hf hh (yv_extract rfl rfl) ?_; clear hf a; intro a hf
  refine o_alloc hf hh Try.ze_36 ?_; clear hf hh a; intro B9 a w hf hh
  refine o_store hf hh Try.sz_36 fun w hh => ?_
  refine o_v hf hh (yv_assign rfl) ?_; clear hf a; intro a hf
  refine o_end ?_
  refine sy_seq ?_
  refine sy_sq ?_
  refine o_v hf hh (yv_move rfl) ?_; clear hf a; intro a hf
  refine o_v hf hh (yv_bin rfl rfl rfl) ?_; clear hf a; intro a hf
  refine o_end ?_
  refine c_f hf ?_
  refine sy_skip ?_
  refine then_n ?_
  refine sy_seq ?_
  refine sy_sq ?_
  refine o_v hf hh (yv_fieldAddr Try.fo_36_0 rfl) ?_; clear hf a; intro a hf
  refine o_v hf hh (y_ld Try.sc_3 rfl) ?_; clear hf a; intro a hf
  refine o_v hf hh (yv_fieldAddr Try.fo_66_0 rfl) ?_; clear hf a; intro a hf
  refine o_v hf hh (yv_fieldAddr Try.fo_64_3 rfl) ?_; clear hf a; intro a hf
  refine o_v hf hh (y_ld Try.sc_3 rfl) ?_; clear hf a; intro a hf
  refine o_v hf hh (yv_bin rfl rfl rfl) ?_; clear hf a; intro a hf
  refine o_v hf hh (yv_move rfl) ?_; clear hf a; intro a hf
  refine o_v hf hh (yv_fieldAddr Try.fo_36_0 rfl) ?_; clear hf a; intro a hf
  refine o_v hf hh (y_ld Try.sc_3 rfl) ?_; clear hf a; intro a hf
  refine o_v hf hh (yv_fieldAddr Try.fo_36_1 rfl) ?_; clear hf a; intro a hf
  refine o_v hf hh (y_ld Try.sc_3 rfl) ?_; clear hf a; intro a hf
  refine o_v hf hh (yv_bin rfl rfl rfl) ?_; clear hf a; intro a hf
  refine o_v hf hh (y_pf rfl rfl) ?_; clear hf a; intro a hf
  refine o_v hf hh (yv_move rfl) ?_; clear hf a; intro a hf
  refine o_v hf hh (yv_fieldAddr Try.fo_36_1 rfl) ?_; clear hf a; intro a hf
  refine o_v hf hh (y_ld Try.sc_3 rfl) ?_; clear hf a; intro a hf
  refine o_v hf hh (yv_fieldAddr Try.fo_66_0 rfl) ?_; clear hf a; intro a hf
  refine o_v hf hh (yv_fieldAddr Try.fo_64_4 rfl) ?_; clear hf a; intro a hf
  refine o_v hf hh (y_ld Try.sc_3 rfl) ?_; clear hf a; intro a hf
  refine o_v hf hh (yv_bin rfl rfl rfl) ?_; clear hf a; intro a hf
  refine o_v hf hh (y_pf rfl rfl) ?_; clear hf a; intro a hf
  refine o_end ?_
  refine c_f hf ?_
  refine sy_skip ?_
  refine then_n ?_
  refine sy_sq ?_
  refine o_v hf hh (y_lds Try.ag_66 rfl) ?_; clear hf a; intro a hf
  refine o_alloc hf hh Try.ze_66 ?_; clear hf hh a; intro B11 a w hf hh
  refine o_store hf hh Try.sz_66 fun w hh => ?_
  refine o_end ?_
  refine sy_seq ?_
  replace hh : Hp u [] [(B11, .cells (caA c sa cp) 66), (B9, .cells #[.int .i64 dv.1, .int .i64 dv.2] 36), (B3, .cells (caA c sa cp) 66)] w := hh
  refine sy_ops ?_
  refine ops_buildSl hf hh Try.bl_62_0 rfl rfl (.inl rfl) rfl ?_; clear hf hh; clear a; intro B104 a w hf hh
  refine o_v hf hh (yv_fieldAddr Try.fo_66_0 rfl) ?_; clear hf a; intro a hf
  refine o_v hf hh (yv_fieldAddr Try.fo_64_5 rfl) ?_; clear hf a; intro a hf
  refine o_v hf hh (y_ld Try.sc_62 rfl) ?_; clear hf a; intro a hf
  refine ops_appendV (e := 73) (size := 9) (xs := []) (news := c.pr.th.flatMap thC) (X := [(B104, Obj.cells #[] 73)]) (Z := [(B11, Obj.cells (caA c sa cp) 66), (B9, Obj.cells #[.int .i64 dv.1, .int .i64 dv.2] 36), (B3, Obj.cells (caA c sa cp) 66)]) (m := 0) hf hh Try.eb_62 rfl rfl ⟨rfl, .inr ⟨B104, 0, #[], rfl, rfl, Nat.le_refl _, Nat.zero_le _, rfl, rfl⟩⟩ (vals_ofP (hA.ext hh.ext)) (flat_lenP _) (by omega) (th_one _) (by simp only [maxLen]; omega) (by omega) (.inl rfl) rfl ?_
  clear hf hh a; intro v108 X a w hOw hf hh
  rw [Nat.zero_add, List.nil_append] at hOw
  obtain ⟨Bx, cap, cur, rfl, rfl, hcx, hcm, hsz, hct⟩ := own_valP hOw (by omega)
  replace hh : Hp u [] [(Bx, .cells cur 73), (B11, .cells (caA c sa cp) 66), (B9, .cells #[.int .i64 dv.1, .int .i64 dv.2] 36), (B3, .cells (caA c sa cp) 66)] w := hh
  refine o_v hf hh (yv_fieldAddr Try.fo_66_0 rfl) ?_; clear hf a; intro a hf
  refine o_v hf hh (yv_fieldAddr Try.fo_64_5 rfl) ?_; clear hf a; intro a hf
  refine o_store hf hh Try.sz_62 fun w hh => ?_
  refine o_end ?_
  refine sy_seq ?_
  replace hh : Hp u [] [(Bx, .cells cur 73), (B11, .cells (caA c (some ⟨Bx, 0, none⟩) cap) 66), (B9, .cells #[.int .i64 dv.1, .int .i64 dv.2] 36), (B3, .cells (caA c sa cp) 66)] w := hh
  refine sy_tail (C := Hp _ _ _) 18 Try.follows (by kernel_rfl) rfl rfl (hh.drawn _) ?_
  refine oq_v hf (yv_fieldAddr Try.fo_66_0 rfl) ?_; clear hf a; intro a hf
  refine oq_v hf (yv_fieldAddr Try.fo_64_5 rfl) ?_; clear hf a; intro a hf
  refine oq_v hf (y_ld Try.sc_62 rfl) ?_; clear hf a; intro a hf
  refine oq_v hf (yv_move rfl) ?_; clear hf a; intro a hf
  refine oq_v hf (yv_fieldAddr Try.fo_36_0 rfl) ?_; clear hf a; intro a hf
  refine oq_v hf (y_ld Try.sc_3 rfl) ?_; clear hf a; intro a hf
  refine oq_v hf (yv_move rfl) ?_; clear hf a; intro a hf
  refine oq_v hf (yv_convx (.inl rfl) (by kernel_rfl) Try.un_3 rfl (by omega) (by simp only [IntKind.top]; omega)) ?_; clear hf a; intro a hf
  refine oq_v hf (yv_fieldAddr Try.fo_36_1 rfl) ?_; clear hf a; intro a hf
  refine oq_v hf (y_ld Try.sc_3 rfl) ?_; clear hf a; intro a hf
  refine oq_v hf (yv_fieldAddr Try.fo_36_0 rfl) ?_; clear hf a; intro a hf
  refine oq_v hf (y_ld Try.sc_3 rfl) ?_; clear hf a; intro a hf
  refine oq_v hf (y_sub rfl rfl) ?_; clear hf a; intro a hf
  refine oq_v hf (y_add rfl rfl) ?_; clear hf a; intro a hf
  refine oq_v hf (yv_rem rfl rfl (by omega) (by omega)) ?_; clear hf a; intro a hf
  refine q_v hf (yv_cast (y_add rfl rfl (by omega) (by omega)) (intv (b := z) hzd.symm)) (.inl rfl) rfl rfl ?_; clear hf a; intro a hf
  refine oq_v hf (y_ix Try.se_62 rfl rfl) ?_; clear hf a; intro a hf
  refine oq_v hf (yv_fieldAddr Try.fo_73_2 rfl) ?_; clear hf a; intro a hf
  refine q_end fun w hh => ?_
  refine o_store (i := 0) hf hh Try.sz_3 (hx := rfl) (hi := atI (i := 0) rfl) (hy := rfl) (hl := Nat.ble_eq_true_of_le (by rw [Int.toNat_natCast, hsz]; omega)) fun w hh => ?_
  refine o_end ?_
  refine sy_seq ?_
  refine sy_seq ?_
  obtain ⟨c2, hcs2, hh⟩ : ∃ c2, ThCs c2 x.pr.th ∧ Hp u [] [(Bx, .cells c2 73), (B11, .cells (caA x (some ⟨Bx, 0, none⟩) cap) 66), (B9, .cells #[.int .i64 dv.1, .int .i64 dv.2] 36), (B3, .cells (caA c sa cp) 66)] w := by
    have h9 : spl cur (0 + ((k : Nat) : Int).toNat * 9 + 8) [.int .i64 z] = cur.setIfInBounds (k * 9 + 8) (.int .i64 z) := by rw [Int.toNat_natCast, Nat.zero_add, spl_one _ _ (by omega)]
    refine ⟨spl cur (0 + ((k : Nat) : Int).toNat * 9 + 8) [.int .i64 z], ?_, by rw [hxc]; exact hh⟩
    rw [h9, hxt]
    exact cs_put (cs_own hct) ht (by omega)
  refine sy_ops ?_
  refine o_v hf hh (yv_fieldAddr Try.fo_66_0 rfl) ?_; clear hf a; intro a hf
  refine o_v hf hh (y_lds Try.ag_64 rfl) ?_; clear hf a; intro a hf
  refine o_call hf Try.en_19 rfl rfl rfl (c_PowerS x.pr (some ⟨Bx, 0, none⟩) cap hxO.pr y' hyx _ (cs_at (hh.get (Bx, .cells c2 73) (by simp)) hcs2)) ?_; clear hf a; intro v a w hR hf
  obtain ⟨rfl, hx⟩ := hR; replace hh := hh.more hx; clear hx
  refine o_v hf hh (yv_move rfl) ?_; clear hf a; intro a hf
  refine o_v hf hh (yv_extract rfl rfl) ?_; clear hf a; intro a hf
  refine o_v hf hh (yv_extract rfl rfl) ?_; clear hf a; intro a hf
  refine o_alloc hf hh Try.ze_36 ?_; clear hf hh a; intro B12 a w hf hh
  refine o_store hf hh Try.sz_36 fun w hh => ?_
  refine o_v hf hh (yv_assign rfl) ?_; clear hf a; intro a hf
  refine o_end ?_
  refine sy_sq ?_
  refine o_v hf hh (yv_move rfl) ?_; clear hf a; intro a hf
  refine o_v hf hh (yv_bin rfl rfl rfl) ?_; clear hf a; intro a hf
  refine o_end ?_
  refine c_f hf ?_
  refine sy_skip ?_
  refine then_n ?_
  refine sy_sq ?_
  refine o_v hf hh (y_lds Try.ag_66 rfl) ?_; clear hf a; intro a hf
  refine o_call hf Try.en_20 rfl rfl rfl (c_Seen c sa cp y hc hy _ (hA.ext hh.ext)) ?_; clear hf a; intro v a w hR hf
  obtain ⟨s1, rfl, hs1, hx⟩ := hR; replace hh := hh.more hx; clear hx
  refine o_v hf hh (yv_move rfl) ?_; clear hf a; intro a hf
  refine o_v hf hh (yv_extract rfl rfl) ?_; clear hf a; intro a hf
  refine o_v hf hh (yv_extract rfl rfl) ?_; clear hf a; intro a hf
  refine o_v hf hh (yv_assign rfl) ?_; clear hf a; intro a hf
  refine o_v hf hh (yv_assign rfl) ?_; clear hf a; intro a hf
  refine o_end ?_
  refine sy_sq ?_
  refine o_v hf hh (y_lds Try.ag_66 rfl) ?_; clear hf a; intro a hf
  refine o_call hf Try.en_20 rfl rfl rfl (c_Seen x (some ⟨Bx, 0, none⟩) cap y' hxO hyx _ (cs_at (hh.get (Bx, .cells c2 73) (by simp)) hcs2)) ?_; clear hf a; intro v a w hR hf
  obtain ⟨s2, rfl, hs2, hx⟩ := hR; replace hh := hh.more hx; clear hx
  refine o_v hf hh (yv_move rfl) ?_; clear hf a; intro a hf
  refine o_v hf hh (yv_extract rfl rfl) ?_; clear hf a; intro a hf
  refine o_v hf hh (yv_extract rfl rfl) ?_; clear hf a; intro a hf
  refine o_v hf hh (yv_assign rfl) ?_; clear hf a; intro a hf
  refine o_v hf hh (yv_assign rfl) ?_; clear hf a; intro a hf
  refine o_end ?_
  refine sy_sq ?_
  refine o_v hf hh (y_lds Try.ag_66 rfl) ?_; clear hf a; intro a hf
  refine o_call hf Try.en_21 rfl rfl rfl (c_Trim c sa cp y hc hy _ (hA.ext hh.ext)) ?_; clear hf a; intro v a w hR hf
  rw [ho1] at hR
  obtain ⟨rfl, hx⟩ := hR; replace hh := hh.more hx; clear hx
  refine o_v hf hh (yv_move rfl) ?_; clear hf a; intro a hf
  refine o_v hf hh (yv_extract rfl rfl) ?_; clear hf a; intro a hf
  refine o_v hf hh (yv_extract rfl rfl) ?_; clear hf a; intro a hf
  refine o_alloc hf hh Try.ze_77 ?_; clear hf hh a; intro B18 a w hf hh
  refine o_store hf hh Try.sz_77 fun w hh => ?_
  refine o_v hf hh (yv_assign rfl) ?_; clear hf a; intro a hf
  refine o_end ?_
  refine sy_sq ?_
  refine o_v hf hh (y_lds Try.ag_66 rfl) ?_; clear hf a; intro a hf
  refine o_call hf Try.en_21 rfl rfl rfl (c_Trim x (some ⟨Bx, 0, none⟩) cap y' hxO hyx _ (cs_at (hh.get (Bx, .cells c2 73) (by simp)) hcs2)) ?_; clear hf a; intro v a w hR hf
  rw [ho2] at hR
  obtain ⟨rfl, hx⟩ := hR; replace hh := hh.more hx; clear hx
  refine o_v hf hh (yv_move rfl) ?_; clear hf a; intro a hf
  refine o_v hf hh (yv_extract rfl rfl) ?_; clear hf a; intro a hf
  refine o_v hf hh (yv_extract rfl rfl) ?_; clear hf a; intro a hf
  refine o_alloc hf hh Try.ze_77 ?_; clear hf hh a; intro B20 a w hf hh
  refine o_store hf hh Try.sz_77 fun w hh => ?_
  refine o_v hf hh (yv_assign rfl) ?_; clear hf a; intro a hf
  refine o_end ?_
  refine sy_seq ?_
  refine sy_seq ?_
  have hs1b := hs1.1; have hs2b := hs2.1
  have hbit1 : (!s1.testBit k) = false := by rw [(hs1.2 k).2 (see_mem.2 ((see_bit hkl).2 hk1))]; rfl
  have hbit2 : (!s2.testBit k) = false := by rw [(hs2.2 k).2 (see_mem.2 ((see_bit (by omega)).2 hk2))]; rfl
  have hsub : s2 ^^^ (s2 &&& s1) = 0 := sub_none fun i hi => by
    have h1 := see_mem.1 ((hs2.2 i).1 hi)
    have h2 := see_lt h1
    exact (hs1.2 i).2 (see_mem.2 ((see_bit (by omega)).2 (hsee i ((see_bit h2).1 h1))))
  have hr1 := Nat.shiftRight_le s1 k
  have hr2 := Nat.shiftRight_le s2 k
  refine sy_ops ?_
  refine o_v hf hh (yv_move rfl) ?_; clear hf a; intro a hf
  refine o_v hf hh (yv_bin rfl rfl rfl) ?_; clear hf a; intro a hf
  refine o_v hf hh (yv_move rfl) ?_; clear hf a; intro a hf
  refine o_v hf hh (yv_move rfl) ?_; clear hf a; intro a hf
  refine o_v hf hh (yv_bin rfl rfl rfl) ?_; clear hf a; intro a hf
  refine o_v hf hh (y_pf rfl rfl) ?_; clear hf a; intro a hf
  refine o_v hf hh (yv_move rfl) ?_; clear hf a; intro a hf
  refine o_v hf hh (yv_move rfl) ?_; clear hf a; intro a hf
  refine o_v hf hh (yv_move rfl) ?_; clear hf a; intro a hf
  refine o_v hf hh (yv_shrN rfl rfl) ?_; clear hf a; intro a hf
  refine ops_v hf hh (yv_cast (yv_and (.inl rfl) rfl rfl (Int.natCast_nonneg _) (by simp only [IntKind.top]; omega) (by omega) (by simp only [IntKind.top]; omega)) (intv (b := ((s1 >>> k &&& 1 : Nat) : Int)) (by rw [Int.toNat_natCast]; rfl))) (gon rfl rfl rfl (by first | assumption | rfl | (simp; done) | (simp; omega))) rfl rfl rfl ?_; clear hf a; intro a hf
  refine o_v hf hh (yv_bit0 rfl rfl) ?_; clear hf a; intro a hf
  refine o_v hf hh (y_pf rfl rfl) ?_; clear hf a; intro a hf
  refine o_v hf hh (yv_move rfl) ?_; clear hf a; intro a hf
  refine o_v hf hh (yv_move rfl) ?_; clear hf a; intro a hf
  refine o_v hf hh (yv_move rfl) ?_; clear hf a; intro a hf
  refine o_v hf hh (yv_shrN rfl rfl) ?_; clear hf a; intro a hf
  refine ops_v hf hh (yv_cast (yv_and (.inl rfl) rfl rfl (Int.natCast_nonneg _) (by simp only [IntKind.top]; omega) (by omega) (by simp only [IntKind.top]; omega)) (intv (b := ((s2 >>> k &&& 1 : Nat) : Int)) (by rw [Int.toNat_natCast]; rfl))) (gon rfl rfl rfl (by first | assumption | rfl | (simp; done) | (simp; omega))) rfl rfl rfl ?_; clear hf a; intro a hf
  refine o_v hf hh (yv_bit0 rfl rfl) ?_; clear hf a; intro a hf
  refine o_v hf hh (y_pf rfl rfl) ?_; clear hf a; intro a hf
  refine o_v hf hh (yv_move rfl) ?_; clear hf a; intro a hf
  refine o_v hf hh (yv_move rfl) ?_; clear hf a; intro a hf
  refine o_v hf hh (yv_move rfl) ?_; clear hf a; intro a hf
  refine ops_v hf hh (yv_cast (yv_andnI rfl rfl (by omega) (by omega)) (intv (b := 0) (by rw [hsub]; rfl))) (gon rfl rfl rfl (by first | assumption | rfl | (simp; done) | (simp; omega))) rfl rfl rfl ?_; clear hf a; intro a hf
  refine o_v hf hh (yv_bin rfl rfl rfl) ?_; clear hf a; intro a hf
  refine o_v hf hh (y_pf rfl rfl) ?_; clear hf a; intro a hf
  refine o_v hf hh (yv_move rfl) ?_; clear hf a; intro a hf
  refine o_v hf hh (yv_move rfl) ?_; clear hf a; intro a hf
  refine o_v hf hh (yv_bin rfl rfl rfl) ?_; clear hf a; intro a hf
  refine o_v hf hh (yv_move rfl) ?_; clear hf a; intro a hf
  refine o_v hf hh (yv_move rfl) ?_; clear hf a; intro a hf
  refine o_v hf hh (yv_bin rfl rfl rfl) ?_; clear hf a; intro a hf
  refine o_v hf hh (y_pt rfl rfl) ?_; clear hf a; intro a hf
  refine o_v hf hh (y_pf rfl rfl) ?_; clear hf a; intro a hf
  refine o_v hf hh (yv_move rfl) ?_; clear hf a; intro a hf
  refine o_v hf hh (yv_move rfl) ?_; clear hf a; intro a hf
  refine o_v hf hh (yv_bin rfl rfl rfl) ?_; clear hf a; intro a hf
  refine o_v hf hh (yv_move rfl) ?_; clear hf a; intro a hf
  refine o_v hf hh (yv_move rfl) ?_; clear hf a; intro a hf
  refine o_v hf hh (yv_bin rfl rfl rfl) ?_; clear hf a; intro a hf
  refine o_v hf hh (y_pt rfl rfl) ?_; clear hf a; intro a hf
  refine o_v hf hh (y_pf rfl rfl) ?_; clear hf a; intro a hf
  refine o_v hf hh (yv_move rfl) ?_; clear hf a; intro a hf
  refine o_v hf hh (yv_move rfl) ?_; clear hf a; intro a hf
  refine o_v hf hh (yv_bin rfl rfl rfl) ?_; clear hf a; intro a hf
  refine o_v hf hh (yv_move rfl) ?_; clear hf a; intro a hf
  refine o_off hf ?_; clear hf a; intro a hf
  refine o_off hf ?_; clear hf a; intro a hf
  refine o_v hf hh (y_pf rfl rfl) ?_; clear hf a; intro a hf
  refine o_v hf hh (y_pf rfl rfl) ?_; clear hf a; intro a hf
  refine o_end ?_
  refine c_f hf ?_
  refine sy_skip ?_
  refine then_n ?_
  refine sy_seq ?_
  refine sy_sq ?_
  refine o_v hf hh (yv_move rfl) ?_; clear hf a; intro a hf
  refine o_v hf hh (yv_bin rfl rfl rfl) ?_; clear hf a; intro a hf
  refine o_end ?_
  refine c_t hf ?_
  refine sy_sq ?_
  refine o_call hf Try.en_17 rfl rfl rfl (c_awake03 _) ?_; clear hf a; intro v a w hR hf
  obtain ⟨rfl, hx⟩ := hR; replace hh := hh.more hx; clear hx
  refine o_v hf hh (yv_assign rfl) ?_; clear hf a; intro a hf
  refine o_end ?_
  refine sy_ret ?_
  refine then_r ?_
  refine ret_r hf rfl rfl ?_
  exact ⟨rfl, hh.ext⟩
end Go.Proofs.Ytccpgpnekoncoaa

namespace Go.Proofs.Ytccpgpnekoncoaa
open Go Go.Sy Go.PaiM
set_option maxRecDepth 100000 in
set_option maxHeartbeats 4000000 in
theorem k_finen (c : CaD) (sa : Option Addr) (cp wn bn : Nat) (hw : wn ≤ 255) (hbn : bn < 4294967296) (hl : c.pr.th.length ≤ 9223372036854775807) (k : Nat) (t : ThD) (hcb : caB c = true) (h20 : c.cuts ≤ 20) (hkd : k = wn % c.pr.th.length) (ht : c.pr.th[k]? = some t) (y dv y' : Int × Int) (z : Int) (x : CaD) (hy : powO c.pr = some y) (hst : stB c.pr t y = true) (hdv : dstV c.pr t y = dv) (hdb : c.pr.near ≤ dv.1 ∧ dv.1 ≤ dv.2 ∧ dv.2 ≤ c.pr.far) (hzd : z = dv.1 + ((bn : Nat) : Int) % (dv.2 - dv.1 + 1)) (hxO : CaOk x) (hyx : powO x.pr = some y') (hxc : ∀ s cap, caA x s cap = caA c s cap) (hxt : x.pr.th = (knw c.pr k z).th) (hsee : ∀ i, seeB x y' i = true → seeB c y i = true) (hk1 : seeB c y k = true) (hk2 : seeB x y' k = true) (hxl : x.pr.th.length = c.pr.th.length) (q1 q2 : Edg) (r1 r2 : Int × Int) (ho1 : bstO c y = some q1) (ho2 : bstO x y' = some q2) (ht1 : TrmOk c.cuts q1) (ht1x : TrmOk x.cuts q1) (ht2 : TrmOk x.cuts q2) (hsum : sumE q2 ≤ sumE q1) (hhu : hurP x y' q1 = (0, 0)) (hey1 : eyeV c q1 (seeL c y) = r1) (hey2 : eyeV x q1 (seeL x y') = r2) (hn1 : neB r1 = true) (hn2 : neB r2 = true) (hin1 : (decide (r2.1 ≤ r1.1) && decide (r1.2 ≤ r2.2)) = true) (o2 : Option (Int × Int)) (hd1 : depO c y q1 = none) (hd2 : depO x y' q1 = o2) (u : World) (hA : ThAt u sa c.pr.th) : Calls Try.prog 4 #[.agg (caA c sa cp), .int .u8 ((wn : Nat) : Int), .int .u32 ((bn : Nat) : Int)] u (Ret fun v w' => v = .bool true ∧ Ext [] u w') := by
  refine calls_of Try.func4 rfl rfl (fun a hf => ?_)
  have hh := Hp.init u []
  have hc := caB_iff.1 hcb
  have hnt := hc.pr.nt
  have hkl := (List.getElem?_eq_some_iff.1 ht).1
  obtain ⟨k1, k2⟩ := hc.cu
  obtain ⟨n1, n2⟩ := hc.pr.ne
  obtain ⟨f1, f2⟩ := hc.pr.fa
  obtain ⟨e1, e2⟩ := dis_yes hy hst
  rw [hdv] at e2
  obtain ⟨v1, v2, v3⟩ := hdb
  have hm0 := Int.emod_nonneg ((bn : Nat) : Int) (show dv.2 - dv.1 + 1 ≠ 0 by omega)
  have hm1 := Int.emod_lt_of_pos ((bn : Nat) : Int) (show 0 < dv.2 - dv.1 + 1 by omega)
  refine sy_sq ?_
  refine o_box hf hh ?_; clear hf hh a; intro B3 a w hf hh
  refine o_v hf hh (yv_assign rfl) ?_; clear hf a; intro a hf
  refine o_end ?_
  refine sy_sq ?_
  refine o_v hf hh (yv_fieldAddr Try.fo_66_0 rfl) ?_; clear hf a; intro a hf
  refine o_v hf hh (yv_fieldAddr Try.fo_64_5 rfl) ?_; clear hf a; intro a hf
  refine o_v hf hh (y_ld Try.sc_62 rfl) ?_; clear hf a; intro a hf
  refine o_v hf hh (yv_len Try.se_62 rfl) ?_; clear hf a; intro a hf
  refine o_v hf hh (yv_assign rfl) ?_; clear hf a; intro a hf
  refine o_end ?_
  refine sy_seq ?_
  refine sy_sq ?_
  refine o_v hf hh (yv_move rfl) ?_; clear hf a; intro a hf
  refine o_v hf hh (yv_bin rfl rfl rfl) ?_; clear hf a; intro a hf
  refine o_v hf hh (yv_move rfl) ?_; clear hf a; intro a hf
  refine o_v hf hh (yv_move rfl) ?_; clear hf a; intro a hf
  refine o_v hf hh (yv_bin rfl rfl rfl) ?_; clear hf a; intro a hf
  refine o_v hf hh (y_pf rfl rfl) ?_; clear hf a; intro a hf
  refine o_v hf hh (yv_move rfl) ?_; clear hf a; intro a hf
  refine o_v hf hh (y_lds Try.ag_66 rfl) ?_; clear hf a; intro a hf
  refine o_call hf Try.en_16 rfl rfl rfl (c_Card c sa cp _ (hA.ext hh.ext) hl) ?_; clear hf a; intro v a w hR hf
  obtain ⟨rfl, hx⟩ := hR; replace hh := hh.more hx; clear hx
  refine o_v hf hh (yv_not rfl) ?_; clear hf a; intro a hf
  refine o_v hf hh (y_pf rfl rfl) ?_; clear hf a; intro a hf
  refine o_v hf hh (yv_move rfl) ?_; clear hf a; intro a hf
  refine o_v hf hh (yv_fieldAddr Try.fo_66_3 rfl) ?_; clear hf a; intro a hf
  refine o_v hf hh (y_ld Try.sc_3 rfl) ?_; clear hf a; intro a hf
  refine o_v hf hh (yv_bin rfl rfl rfl) ?_; clear hf a; intro a hf
  refine o_v hf hh (y_pf rfl rfl) ?_; clear hf a; intro a hf
  refine o_end ?_
  refine c_f hf ?_
  refine sy_skip ?_
  refine then_n ?_
  refine sy_sq ?_
  refine o_v hf hh (yv_move rfl) ?_; clear hf a; intro a hf
  refine o_v hf hh (yv_convx (.inl rfl) (by kernel_rfl) Try.un_3 rfl (by omega) (by simp only [IntKind.top]; omega)) ?_; clear hf a; intro a hf
  refine o_v hf hh (yv_move rfl) ?_; clear hf a; intro a hf
  refine ops_v hf hh (yv_cast (yv_rem rfl rfl (by omega) (by omega)) (intv (b := ((k : Nat) : Int)) (by rw [hkd, Int.natCast_emod]))) (.inl rfl) rfl rfl rfl ?_; clear hf a; intro a hf
  refine o_v hf hh (yv_assign rfl) ?_; clear hf a; intro a hf
  refine o_end ?_
  refine sy_sq ?_
  refine o_v hf hh (yv_fieldAddr Try.fo_66_0 rfl) ?_; clear hf a; intro a hf
  refine o_v hf hh (y_lds Try.ag_64 rfl) ?_; clear hf a; intro a hf
  refine o_v hf hh (yv_move rfl) ?_; clear hf a; intro a hf
  refine o_call hf Try.en_18 rfl rfl rfl (c_Distance c.pr sa cp t k hc.pr ht _ (hA.ext hh.ext)) ?_; clear hf a; intro v a w hR hf
  rw [e1, e2] at hR
  obtain ⟨rfl, hx⟩ := hR; replace hh := hh.more hx; clear hx
  refine o_v hf hh (yv_move rfl) ?_; clear hf a; intro a hf
  refine o_v hf hh (yv_extract rfl rfl) ?_; clear hf a; intro a hf
  refine o_v hf hh (yv_extract rfl rfl) ?_; clear hf a; intro a hf
  refine o_alloc hf hh Try.ze_36 ?_; clear hf hh a; intro B9 a w hf hh
  refine o_store hf hh Try.sz_36 fun w hh => ?_
  refine o_v hf hh (yv_assign rfl) ?_; clear hf a; intro a hf
  refine o_end ?_
  refine sy_seq ?_
  refine sy_sq ?_
  refine o_v hf hh (yv_move rfl) ?_; clear hf a; intro a hf
  refine o_v hf hh (yv_bin rfl rfl rfl) ?_; clear hf a; intro a hf
  refine o_end ?_
  refine c_f hf ?_
  refine sy_skip ?_
  refine then_n ?_
  refine sy_seq ?_
  refine sy_sq ?_
  refine o_v hf hh (yv_fieldAddr Try.fo_36_0 rfl) ?_; clear hf a; intro a hf
  refine o_v hf hh (y_ld Try.sc_3 rfl) ?_; clear hf a; intro a hf
  refine o_v hf hh (yv_fieldAddr Try.fo_66_0 rfl) ?_; clear hf a; intro a hf
  refine o_v hf hh (yv_fieldAddr Try.fo_64_3 rfl) ?_; clear hf a; intro a hf
  refine o_v hf hh (y_ld Try.sc_3 rfl) ?_; clear hf a; intro a hf
  refine o_v hf hh (yv_bin rfl rfl rfl) ?_; clear hf a; intro a hf
  refine o_v hf hh (yv_move rfl) ?_; clear hf a; intro a hf
  refine o_v hf hh (yv_fieldAddr Try.fo_36_0 rfl) ?_; clear hf a; intro a hf
  refine o_v hf hh (y_ld Try.sc_3 rfl) ?_; clear hf a; intro a hf
  refine o_v hf hh (yv_fieldAddr Try.fo_36_1 rfl) ?_; clear hf a; intro a hf
  refine o_v hf hh (y_ld Try.sc_3 rfl) ?_; clear hf a; intro a hf
  refine o_v hf hh (yv_bin rfl rfl rfl) ?_; clear hf a; intro a hf
  refine o_v hf hh (y_pf rfl rfl) ?_; clear hf a; intro a hf
  refine o_v hf hh (yv_move rfl) ?_; clear hf a; intro a hf
  refine o_v hf hh (yv_fieldAddr Try.fo_36_1 rfl) ?_; clear hf a; intro a hf
  refine o_v hf hh (y_ld Try.sc_3 rfl) ?_; clear hf a; intro a hf
  refine o_v hf hh (yv_fieldAddr Try.fo_66_0 rfl) ?_; clear hf a; intro a hf
  refine o_v hf hh (yv_fieldAddr Try.fo_64_4 rfl) ?_; clear hf a; intro a hf
  refine o_v hf hh (y_ld Try.sc_3 rfl) ?_; clear hf a; intro a hf
  refine o_v hf hh (yv_bin rfl rfl rfl) ?_; clear hf a; intro a hf
  refine o_v hf hh (y_pf rfl rfl) ?_; clear hf a; intro a hf
  refine o_end ?_
  refine c_f hf ?_
  refine sy_skip ?_
  refine then_n ?_
  refine sy_sq ?_
  refine o_v hf hh (y_lds Try.ag_66 rfl) ?_; clear hf a; intro a hf
  refine o_alloc hf hh Try.ze_66 ?_; clear hf hh a; intro B11 a w hf hh
  refine o_store hf hh Try.sz_66 fun w hh => ?_
  refine o_end ?_
  refine sy_seq ?_
  replace hh : Hp u [] [(B11, .cells (caA c sa cp) 66), (B9, .cells #[.int .i64 dv.1, .int .i64 dv.2] 36), (B3, .cells (caA c sa cp) 66)] w := hh
  refine sy_ops ?_
  refine ops_buildSl hf hh Try.bl_62_0 rfl rfl (.inl rfl) rfl ?_; clear hf hh; clear a; intro B104 a w hf hh
  refine o_v hf hh (yv_fieldAddr Try.fo_66_0 rfl) ?_; clear hf a; intro a hf
  refine o_v hf hh (yv_fieldAddr Try.fo_64_5 rfl) ?_; clear hf a; intro a hf
  refine o_v hf hh (y_ld Try.sc_62 rfl) ?_; clear hf a; intro a hf
  refine ops_appendV (e := 73) (size := 9) (xs := []) (news := c.pr.th.flatMap thC) (X := [(B104, Obj.cells #[] 73)]) (Z := [(B11, Obj.cells (caA c sa cp) 66), (B9, Obj.cells #[.int .i64 dv.1, .int .i64 dv.2] 36), (B3, Obj.cells (caA c sa cp) 66)]) (m := 0) hf hh Try.eb_62 rfl rfl ⟨rfl, .inr ⟨B104, 0, #[], rfl, rfl, Nat.le_refl _, Nat.zero_le _, rfl, rfl⟩⟩ (vals_ofP (hA.ext hh.ext)) (flat_lenP _) (by omega) (th_one _) (by simp only [maxLen]; omega) (by omega) (.inl rfl) rfl ?_
  clear hf hh a; intro v108 X a w hOw hf hh
  rw [Nat.zero_add, List.nil_append] at hOw
  obtain ⟨Bx, cap, cur, rfl, rfl, hcx, hcm, hsz, hct⟩ := own_valP hOw (by omega)
  replace hh : Hp u [] [(Bx, .cells cur 73), (B11, .cells (caA c sa cp) 66), (B9, .cells #[.int .i64 dv.1, .int .i64 dv.2] 36), (B3, .cells (caA c sa cp) 66)] w := hh
  refine o_v hf hh (yv_fieldAddr Try.fo_66_0 rfl) ?_; clear hf a; intro a hf
  refine o_v hf hh (yv_fieldAddr Try.fo_64_5 rfl) ?_; clear hf a; intro a hf
  refine o_store hf hh Try.sz_62 fun w hh => ?_
  refine o_end ?_
  refine sy_seq ?_
  replace hh : Hp u [] [(Bx, .cells cur 73), (B11, .cells (caA c (some ⟨Bx, 0, none⟩) cap) 66), (B9, .cells #[.int .i64 dv.1, .int .i64 dv.2] 36), (B3, .cells (caA c sa cp) 66)] w := hh
  refine sy_tail (C := Hp _ _ _) 18 Try.follows (by kernel_rfl) rfl rfl (hh.drawn _) ?_
  refine oq_v hf (yv_fieldAddr Try.fo_66_0 rfl) ?_; clear hf a; intro a hf
  refine oq_v hf (yv_fieldAddr Try.fo_64_5 rfl) ?_; clear hf a; intro a hf
  refine oq_v hf (y_ld Try.sc_62 rfl) ?_; clear hf a; intro a hf
  refine oq_v hf (yv_move rfl) ?_; clear hf a; intro a hf
  refine oq_v hf (yv_fieldAddr Try.fo_36_0 rfl) ?_; clear hf a; intro a hf
  refine oq_v hf (y_ld Try.sc_3 rfl) ?_; clear hf a; intro a hf
  refine oq_v hf (yv_move rfl) ?_; clear hf a; intro a hf
  refine oq_v hf (yv_convx (.inl rfl) (by kernel_rfl) Try.un_3 rfl (by omega) (by simp only [IntKind.top]; omega)) ?_; clear hf a; intro a hf
  refine oq_v hf (yv_fieldAddr Try.fo_36_1 rfl) ?_; clear hf a; intro a hf
  refine oq_v hf (y_ld Try.sc_3 rfl) ?_; clear hf a; intro a hf
  refine oq_v hf (yv_fieldAddr Try.fo_36_0 rfl) ?_; clear hf a; intro a hf
  refine oq_v hf (y_ld Try.sc_3 rfl) ?_; clear hf a; intro a hf
  refine oq_v hf (y_sub rfl rfl) ?_; clear hf a; intro a hf
  refine oq_v hf (y_add rfl rfl) ?_; clear hf a; intro a hf
  refine oq_v hf (yv_rem rfl rfl (by omega) (by omega)) ?_; clear hf a; intro a hf
  refine q_v hf (yv_cast (y_add rfl rfl (by omega) (by omega)) (intv (b := z) hzd.symm)) (.inl rfl) rfl rfl ?_; clear hf a; intro a hf
  refine oq_v hf (y_ix Try.se_62 rfl rfl) ?_; clear hf a; intro a hf
  refine oq_v hf (yv_fieldAddr Try.fo_73_2 rfl) ?_; clear hf a; intro a hf
  refine q_end fun w hh => ?_
  refine o_store (i := 0) hf hh Try.sz_3 (hx := rfl) (hi := atI (i := 0) rfl) (hy := rfl) (hl := Nat.ble_eq_true_of_le (by rw [Int.toNat_natCast, hsz]; omega)) fun w hh => ?_
  refine o_end ?_
  refine sy_seq ?_
  refine sy_seq ?_
  obtain ⟨c2, hcs2, hh⟩ : ∃ c2, ThCs c2 x.pr.th ∧ Hp u [] [(Bx, .cells c2 73), (B11, .cells (caA x (some ⟨Bx, 0, none⟩) cap) 66), (B9, .cells #[.int .i64 dv.1, .int .i64 dv.2] 36), (B3, .cells (caA c sa cp) 66)] w := by
    have h9 : spl cur (0 + ((k : Nat) : Int).toNat * 9 + 8) [.int .i64 z] = cur.setIfInBounds (k * 9 + 8) (.int .i64 z) := by rw [Int.toNat_natCast, Nat.zero_add, spl_one _ _ (by omega)]
    refine ⟨spl cur (0 + ((k : Nat) : Int).toNat * 9 + 8) [.int .i64 z], ?_, by rw [hxc]; exact hh⟩
    rw [h9, hxt]
    exact cs_put (cs_own hct) ht (by omega)
  refine sy_ops ?_
  refine o_v hf hh (yv_fieldAddr Try.fo_66_0 rfl) ?_; clear hf a; intro a hf
  refine o_v hf hh (y_lds Try.ag_64 rfl) ?_; clear hf a; intro a hf
  refine o_call hf Try.en_19 rfl rfl rfl (c_PowerS x.pr (some ⟨Bx, 0, none⟩) cap hxO.pr y' hyx _ (cs_at (hh.get (Bx, .cells c2 73) (by simp)) hcs2)) ?_; clear hf a; intro v a w hR hf
  obtain ⟨rfl, hx⟩ := hR; replace hh := hh.more hx; clear hx
  refine o_v hf hh (yv_move rfl) ?_; clear hf a; intro a hf
  refine o_v hf hh (yv_extract rfl rfl) ?_; clear hf a; intro a hf
  refine o_v hf hh (yv_extract rfl rfl) ?_; clear hf a; intro a hf
  refine o_alloc hf hh Try.ze_36 ?_; clear hf hh a; intro B12 a w hf hh
  refine o_store hf hh Try.sz_36 fun w hh => ?_
  refine o_v hf hh (yv_assign rfl) ?_; clear hf a; intro a hf
  refine o_end ?_
  refine sy_sq ?_
  refine o_v hf hh (yv_move rfl) ?_; clear hf a; intro a hf
  refine o_v hf hh (yv_bin rfl rfl rfl) ?_; clear hf a; intro a hf
  refine o_end ?_
  refine c_f hf ?_
  refine sy_skip ?_
  refine then_n ?_
  refine sy_sq ?_
  refine o_v hf hh (y_lds Try.ag_66 rfl) ?_; clear hf a; intro a hf
  refine o_call hf Try.en_20 rfl rfl rfl (c_Seen c sa cp y hc hy _ (hA.ext hh.ext)) ?_; clear hf a; intro v a w hR hf
  obtain ⟨s1, rfl, hs1, hx⟩ := hR; replace hh := hh.more hx; clear hx
  refine o_v hf hh (yv_move rfl) ?_; clear hf a; intro a hf
  refine o_v hf hh (yv_extract rfl rfl) ?_; clear hf a; intro a hf
  refine o_v hf hh (yv_extract rfl rfl) ?_; clear hf a; intro a hf
  refine o_v hf hh (yv_assign rfl) ?_; clear hf a; intro a hf
  refine o_v hf hh (yv_assign rfl) ?_; clear hf a; intro a hf
  refine o_end ?_
  refine sy_sq ?_
  refine o_v hf hh (y_lds Try.ag_66 rfl) ?_; clear hf a; intro a hf
  refine o_call hf Try.en_20 rfl rfl rfl (c_Seen x (some ⟨Bx, 0, none⟩) cap y' hxO hyx _ (cs_at (hh.get (Bx, .cells c2 73) (by simp)) hcs2)) ?_; clear hf a; intro v a w hR hf
  obtain ⟨s2, rfl, hs2, hx⟩ := hR; replace hh := hh.more hx; clear hx
  refine o_v hf hh (yv_move rfl) ?_; clear hf a; intro a hf
  refine o_v hf hh (yv_extract rfl rfl) ?_; clear hf a; intro a hf
  refine o_v hf hh (yv_extract rfl rfl) ?_; clear hf a; intro a hf
  refine o_v hf hh (yv_assign rfl) ?_; clear hf a; intro a hf
  refine o_v hf hh (yv_assign rfl) ?_; clear hf a; intro a hf
  refine o_end ?_
  refine sy_sq ?_
  refine o_v hf hh (y_lds Try.ag_66 rfl) ?_; clear hf a; intro a hf
  refine o_call hf Try.en_21 rfl rfl rfl (c_Trim c sa cp y hc hy _ (hA.ext hh.ext)) ?_; clear hf a; intro v a w hR hf
  rw [ho1] at hR
  obtain ⟨rfl, hx⟩ := hR; replace hh := hh.more hx; clear hx
  refine o_v hf hh (yv_move rfl) ?_; clear hf a; intro a hf
  refine o_v hf hh (yv_extract rfl rfl) ?_; clear hf a; intro a hf
  refine o_v hf hh (yv_extract rfl rfl) ?_; clear hf a; intro a hf
  refine o_alloc hf hh Try.ze_77 ?_; clear hf hh a; intro B18 a w hf hh
  refine o_store hf hh Try.sz_77 fun w hh => ?_
  refine o_v hf hh (yv_assign rfl) ?_; clear hf a; intro a hf
  refine o_end ?_
  refine sy_sq ?_
  refine o_v hf hh (y_lds Try.ag_66 rfl) ?_; clear hf a; intro a hf
  refine o_call hf Try.en_21 rfl rfl rfl (c_Trim x (some ⟨Bx, 0, none⟩) cap y' hxO hyx _ (cs_at (hh.get (Bx, .cells c2 73) (by simp)) hcs2)) ?_; clear hf a; intro v a w hR hf
  rw [ho2] at hR
  obtain ⟨rfl, hx⟩ := hR; replace hh := hh.more hx; clear hx
  refine o_v hf hh (yv_move rfl) ?_; clear hf a; intro a hf
  refine o_v hf hh (yv_extract rfl rfl) ?_; clear hf a; intro a hf
  refine o_v hf hh (yv_extract rfl rfl) ?_; clear hf a; intro a hf
  refine o_alloc hf hh Try.ze_77 ?_; clear hf hh a; intro B20 a w hf hh
  refine o_store hf hh Try.sz_77 fun w hh => ?_
  refine o_v hf hh (yv_assign rfl) ?_; clear hf a; intro a hf
  refine o_end ?_
  refine sy_seq ?_
  refine sy_seq ?_
  have hs1b := hs1.1; have hs2b := hs2.1
  have hbit1 : (!s1.testBit k) = false := by rw [(hs1.2 k).2 (see_mem.2 ((see_bit hkl).2 hk1))]; rfl
  have hbit2 : (!s2.testBit k) = false := by rw [(hs2.2 k).2 (see_mem.2 ((see_bit (by omega)).2 hk2))]; rfl
  have hsub : s2 ^^^ (s2 &&& s1) = 0 := sub_none fun i hi => by
    have h1 := see_mem.1 ((hs2.2 i).1 hi)
    have h2 := see_lt h1
    exact (hs1.2 i).2 (see_mem.2 ((see_bit (by omega)).2 (hsee i ((see_bit h2).1 h1))))
  have hr1 := Nat.shiftRight_le s1 k
  have hr2 := Nat.shiftRight_le s2 k
  refine sy_ops ?_
  refine o_v hf hh (yv_move rfl) ?_; clear hf a; intro a hf
  refine o_v hf hh (yv_bin rfl rfl rfl) ?_; clear hf a; intro a hf
  refine o_v hf hh (yv_move rfl) ?_; clear hf a; intro a hf
  refine o_v hf hh (yv_move rfl) ?_; clear hf a; intro a hf
  refine o_v hf hh (yv_bin rfl rfl rfl) ?_; clear hf a; intro a hf
  refine o_v hf hh (y_pf rfl rfl) ?_; clear hf a; intro a hf
  refine o_v hf hh (yv_move rfl) ?_; clear hf a; intro a hf
  refine o_v hf hh (yv_move rfl) ?_; clear hf a; intro a hf
  refine o_v hf hh (yv_move rfl) ?_; clear hf a; intro a hf
  refine o_v hf hh (yv_shrN rfl rfl) ?_; clear hf a; intro a hf
  refine ops_v hf hh (yv_cast (yv_and (.inl rfl) rfl rfl (Int.natCast_nonneg _) (by simp only [IntKind.top]; omega) (by omega) (by simp only [IntKind.top]; omega)) (intv (b := ((s1 >>> k &&& 1 : Nat) : Int)) (by rw [Int.toNat_natCast]; rfl))) (gon rfl rfl rfl (by first | assumption | rfl | (simp; done) | (simp; omega))) rfl rfl rfl ?_; clear hf a; intro a hf
  refine o_v hf hh (yv_bit0 rfl rfl) ?_; clear hf a; intro a hf
  refine o_v hf hh (y_pf rfl rfl) ?_; clear hf a; intro a hf
  refine o_v hf hh (yv_move rfl) ?_; clear hf a; intro a hf
  refine o_v hf hh (yv_move rfl) ?_; clear hf a; intro a hf
  refine o_v hf hh (yv_move rfl) ?_; clear hf a; intro a hf
  refine o_v hf hh (yv_shrN rfl rfl) ?_; clear hf a; intro a hf
  refine ops_v hf hh (yv_cast (yv_and (.inl rfl) rfl rfl (Int.natCast_nonneg _) (by simp only [IntKind.top]; omega) (by omega) (by simp only [IntKind.top]; omega)) (intv (b := ((s2 >>> k &&& 1 : Nat) : Int)) (by rw [Int.toNat_natCast]; rfl))) (gon rfl rfl rfl (by first | assumption | rfl | (simp; done) | (simp; omega))) rfl rfl rfl ?_; clear hf a; intro a hf
  refine o_v hf hh (yv_bit0 rfl rfl) ?_; clear hf a; intro a hf
  refine o_v hf hh (y_pf rfl rfl) ?_; clear hf a; intro a hf
  refine o_v hf hh (yv_move rfl) ?_; clear hf a; intro a hf
  refine o_v hf hh (yv_move rfl) ?_; clear hf a; intro a hf
  refine o_v hf hh (yv_move rfl) ?_; clear hf a; intro a hf
  refine ops_v hf hh (yv_cast (yv_andnI rfl rfl (by omega) (by omega)) (intv (b := 0) (by rw [hsub]; rfl))) (gon rfl rfl rfl (by first | assumption | rfl | (simp; done) | (simp; omega))) rfl rfl rfl ?_; clear hf a; intro a hf
  refine o_v hf hh (yv_bin rfl rfl rfl) ?_; clear hf a; intro a hf
  refine o_v hf hh (y_pf rfl rfl) ?_; clear hf a; intro a hf
  refine o_v hf hh (yv_move rfl) ?_; clear hf a; intro a hf
  refine o_v hf hh (yv_move rfl) ?_; clear hf a; intro a hf
  refine o_v hf hh (yv_bin rfl rfl rfl) ?_; clear hf a; intro a hf
  refine o_v hf hh (yv_move rfl) ?_; clear hf a; intro a hf
  refine o_off hf ?_; clear hf a; intro a hf
  refine o_off hf ?_; clear hf a; intro a hf
  refine o_v hf hh (y_pf rfl rfl) ?_; clear hf a; intro a hf
  refine o_v hf hh (y_pf rfl rfl) ?_; clear hf a; intro a hf
  refine o_v hf hh (yv_move rfl) ?_; clear hf a; intro a hf
  refine o_v hf hh (yv_move rfl) ?_; clear hf a; intro a hf
  refine o_v hf hh (yv_bin rfl rfl rfl) ?_; clear hf a; intro a hf
  refine o_v hf hh (yv_move rfl) ?_; clear hf a; intro a hf
  refine o_off hf ?_; clear hf a; intro a hf
  refine o_off hf ?_; clear hf a; intro a hf
  refine o_v hf hh (y_pf rfl rfl) ?_; clear hf a; intro a hf
  refine o_v hf hh (y_pf rfl rfl) ?_; clear hf a; intro a hf
  refine o_v hf hh (yv_move rfl) ?_; clear hf a; intro a hf
  refine o_v hf hh (yv_move rfl) ?_; clear hf a; intro a hf
  refine o_v hf hh (yv_bin rfl rfl rfl) ?_; clear hf a; intro a hf
  refine o_v hf hh (yv_move rfl) ?_; clear hf a; intro a hf
  refine o_v hf hh (yv_move rfl) ?_; clear hf a; intro a hf
  refine o_v hf hh (yv_bin rfl rfl rfl) ?_; clear hf a; intro a hf
  refine o_v hf hh (y_pt rfl rfl) ?_; clear hf a; intro a hf
  refine o_v hf hh (y_pf rfl rfl) ?_; clear hf a; intro a hf
  refine o_end ?_
  refine c_f hf ?_
  refine sy_skip ?_
  refine then_n ?_
  refine sy_seq ?_
  refine sy_sq ?_
  refine o_v hf hh (yv_move rfl) ?_; clear hf a; intro a hf
  refine o_v hf hh (yv_bin rfl rfl rfl) ?_; clear hf a; intro a hf
  refine o_end ?_
  refine c_f hf ?_
  refine sy_skip ?_
  refine then_n ?_
  refine sy_seq ?_
  refine sy_seq ?_
  refine sy_quiet (C := Hp _ _ _) Try.follows (by kernel_rfl) (hh.drawn _) ?_
  refine oq_v hf (y_lds Try.ag_66 rfl) ?_; clear hf a; intro a hf
  refine oq_v hf (y_lds Try.ag_77 rfl) ?_; clear hf a; intro a hf
  refine oq_call hf Try.en_22 rfl rfl rfl (fun w hh => c_Trimming c sa cp q1 ht1 (by omega) _) ?_; clear hf a; intro a hf
  refine oq_v hf (yv_not rfl) ?_; clear hf a; intro a hf
  refine oq_v hf (yv_move rfl) ?_; clear hf a; intro a hf
  refine oq_v hf (y_lds Try.ag_66 rfl) ?_; clear hf a; intro a hf
  refine oq_v hf (y_lds Try.ag_77 rfl) ?_; clear hf a; intro a hf
  refine oq_call hf Try.en_22 rfl rfl rfl (fun w hh => c_Trimming x (some ⟨Bx, 0, none⟩) cap q2 ht2 (by have := hxO.cu; omega) _) ?_; clear hf a; intro a hf
  refine oq_v hf (yv_not rfl) ?_; clear hf a; intro a hf
  refine oq_v hf (y_pf rfl rfl) ?_; clear hf a; intro a hf
  refine oq_v hf (yv_move rfl) ?_; clear hf a; intro a hf
  refine oq_v hf (y_lds Try.ag_77 rfl) ?_; clear hf a; intro a hf
  refine oq_call hf Try.en_23 rfl rfl rfl (fun w hh => c_Sum q2 (edB_of hxO ht2) _) ?_; clear hf a; intro a hf
  refine oq_v hf (y_lds Try.ag_77 rfl) ?_; clear hf a; intro a hf
  refine oq_call hf Try.en_23 rfl rfl rfl (fun w hh => c_Sum q1 (edB_of hc ht1) _) ?_; clear hf a; intro a hf
  refine oq_v hf (yv_bin rfl rfl rfl) ?_; clear hf a; intro a hf
  refine oq_v hf (y_pf rfl rfl) ?_; clear hf a; intro a hf
  refine q_end fun w hh => ?_
  refine then_n ?_
  refine c_f hf ?_
  refine sy_skip ?_
  refine then_n ?_
  refine sy_seq ?_
  refine sy_sq ?_
  refine o_v hf hh (y_lds Try.ag_66 rfl) ?_; clear hf a; intro a hf
  refine o_v hf hh (y_lds Try.ag_77 rfl) ?_; clear hf a; intro a hf
  refine o_call hf Try.en_24 rfl rfl rfl (c_Hurts x (some ⟨Bx, 0, none⟩) cap y' hxO hyx q1 ht1x _ (cs_at (hh.get (Bx, .cells c2 73) (by simp)) hcs2)) ?_; clear hf a; intro v a w hR hf
  rw [hhu, if_pos rfl] at hR
  obtain ⟨rfl, hx⟩ := hR; replace hh := hh.more hx; clear hx
  refine o_v hf hh (yv_move rfl) ?_; clear hf a; intro a hf
  refine o_v hf hh (yv_extract rfl rfl) ?_; clear hf a; intro a hf
  refine o_v hf hh (yv_extract rfl rfl) ?_; clear hf a; intro a hf
  refine o_v hf hh (yv_extract rfl rfl) ?_; clear hf a; intro a hf
  refine o_v hf hh (yv_assign rfl) ?_; clear hf a; intro a hf
  refine o_v hf hh (yv_assign rfl) ?_; clear hf a; intro a hf
  refine o_v hf hh (yv_assign rfl) ?_; clear hf a; intro a hf
  refine o_end ?_
  refine sy_sq ?_
  refine o_v hf hh (yv_move rfl) ?_; clear hf a; intro a hf
  refine o_v hf hh (yv_bin rfl rfl rfl) ?_; clear hf a; intro a hf
  refine o_v hf hh (yv_move rfl) ?_; clear hf a; intro a hf
  refine o_v hf hh (yv_move rfl) ?_; clear hf a; intro a hf
  refine o_v hf hh (yv_bin rfl rfl rfl) ?_; clear hf a; intro a hf
  refine o_v hf hh (y_pf rfl rfl) ?_; clear hf a; intro a hf
  refine o_v hf hh (yv_move rfl) ?_; clear hf a; intro a hf
  refine o_v hf hh (yv_move rfl) ?_; clear hf a; intro a hf
  refine o_v hf hh (yv_bin rfl rfl rfl) ?_; clear hf a; intro a hf
  refine o_v hf hh (y_pf rfl rfl) ?_; clear hf a; intro a hf
  refine o_end ?_
  refine c_f hf ?_
  refine sy_skip ?_
  refine then_n ?_
  refine sy_sq ?_
  refine o_v hf hh (yv_assign rfl) ?_; clear hf a; intro a hf
  refine o_end ?_
  refine sy_sq ?_
  refine o_v hf hh (y_lds Try.ag_66 rfl) ?_; clear hf a; intro a hf
  refine o_v hf hh (y_lds Try.ag_77 rfl) ?_; clear hf a; intro a hf
  refine o_call hf Try.en_26 rfl rfl rfl (c_Eyes c sa cp y hc hy q1 ht1 _ (hA.ext hh.ext) (by rw [hey1]; exact hn1)) ?_; clear hf a; intro v a w hR hf
  rw [hey1] at hR
  obtain ⟨rfl, hx⟩ := hR; replace hh := hh.more hx; clear hx
  refine o_v hf hh (yv_move rfl) ?_; clear hf a; intro a hf
  refine o_v hf hh (yv_extract rfl rfl) ?_; clear hf a; intro a hf
  refine o_v hf hh (yv_extract rfl rfl) ?_; clear hf a; intro a hf
  refine o_alloc hf hh Try.ze_36 ?_; clear hf hh a; intro B26 a w hf hh
  refine o_store hf hh Try.sz_36 fun w hh => ?_
  refine o_v hf hh (yv_assign rfl) ?_; clear hf a; intro a hf
  refine o_end ?_
  refine sy_sq ?_
  refine o_v hf hh (y_lds Try.ag_66 rfl) ?_; clear hf a; intro a hf
  refine o_v hf hh (y_lds Try.ag_77 rfl) ?_; clear hf a; intro a hf
  refine o_call hf Try.en_26 rfl rfl rfl (c_Eyes x (some ⟨Bx, 0, none⟩) cap y' hxO hyx q1 ht1x _ (cs_at (hh.get (Bx, .cells c2 73) (by simp)) hcs2) (by rw [hey2]; exact hn2)) ?_; clear hf a; intro v a w hR hf
  rw [hey2] at hR
  obtain ⟨rfl, hx⟩ := hR; replace hh := hh.more hx; clear hx
  refine o_v hf hh (yv_move rfl) ?_; clear hf a; intro a hf
  refine o_v hf hh (yv_extract rfl rfl) ?_; clear hf a; intro a hf
  refine o_v hf hh (yv_extract rfl rfl) ?_; clear hf a; intro a hf
  refine o_alloc hf hh Try.ze_36 ?_; clear hf hh a; intro B28 a w hf hh
  refine o_store hf hh Try.sz_36 fun w hh => ?_
  refine o_v hf hh (yv_assign rfl) ?_; clear hf a; intro a hf
  refine o_end ?_
  refine sy_sq ?_
  refine o_v hf hh (y_lds Try.ag_66 rfl) ?_; clear hf a; intro a hf
  refine o_v hf hh (y_lds Try.ag_77 rfl) ?_; clear hf a; intro a hf
  refine o_call hf Try.en_27 rfl rfl rfl (c_Depths c sa cp y hc hy q1 ht1 _ (hA.ext hh.ext)) ?_; clear hf a; intro v a w hR hf
  rw [hd1] at hR
  obtain ⟨rfl, hx⟩ := hR; replace hh := hh.more hx; clear hx
  refine o_v hf hh (yv_move rfl) ?_; clear hf a; intro a hf
  refine o_v hf hh (yv_extract rfl rfl) ?_; clear hf a; intro a hf
  refine o_v hf hh (yv_extract rfl rfl) ?_; clear hf a; intro a hf
  refine o_alloc hf hh Try.ze_36 ?_; clear hf hh a; intro B30 a w hf hh
  refine o_store hf hh Try.sz_36 fun w hh => ?_
  refine o_v hf hh (yv_assign rfl) ?_; clear hf a; intro a hf
  refine o_end ?_
  refine sy_sq ?_
  refine o_v hf hh (y_lds Try.ag_66 rfl) ?_; clear hf a; intro a hf
  refine o_v hf hh (y_lds Try.ag_77 rfl) ?_; clear hf a; intro a hf
  refine o_call hf Try.en_27 rfl rfl rfl (c_Depths x (some ⟨Bx, 0, none⟩) cap y' hxO hyx q1 ht1x _ (cs_at (hh.get (Bx, .cells c2 73) (by simp)) hcs2)) ?_; clear hf a; intro v a w hR hf
  rw [hd2] at hR
  obtain ⟨rfl, hx⟩ := hR; replace hh := hh.more hx; clear hx
  refine o_v hf hh (yv_move rfl) ?_; clear hf a; intro a hf
  refine o_v hf hh (yv_extract rfl rfl) ?_; clear hf a; intro a hf
  refine o_v hf hh (yv_extract rfl rfl) ?_; clear hf a; intro a hf
  refine o_alloc hf hh Try.ze_36 ?_; clear hf hh a; intro B32 a w hf hh
  refine o_store hf hh Try.sz_36 fun w hh => ?_
  refine o_v hf hh (yv_assign rfl) ?_; clear hf a; intro a hf
  refine o_end ?_
  refine sy_sq ?_
  refine o_v hf hh (yv_move rfl) ?_; clear hf a; intro a hf
  refine o_v hf hh (yv_bin rfl rfl rfl) ?_; clear hf a; intro a hf
  refine o_v hf hh (yv_move rfl) ?_; clear hf a; intro a hf
  refine o_v hf hh (yv_move rfl) ?_; clear hf a; intro a hf
  refine o_v hf hh (yv_bin rfl rfl rfl) ?_; clear hf a; intro a hf
  refine o_v hf hh (y_pt rfl rfl) ?_; clear hf a; intro a hf
  refine o_v hf hh (yv_move rfl) ?_; clear hf a; intro a hf
  refine o_v hf hh (yv_move rfl) ?_; clear hf a; intro a hf
  refine o_v hf hh (y_lds Try.ag_36 rfl) ?_; clear hf a; intro a hf
  refine o_v hf hh (y_lds Try.ag_36 rfl) ?_; clear hf a; intro a hf
  refine o_call hf Try.en_25 rfl rfl rfl (c_ink r1 r2 _) ?_; clear hf a; intro v a w hR hf
  obtain ⟨rfl, hx⟩ := hR; replace hh := hh.more hx; clear hx
  refine o_v hf hh (y_pt rfl rfl) ?_; clear hf a; intro a hf
  refine o_v hf hh (yv_move rfl) ?_; clear hf a; intro a hf
  refine o_v hf hh (yv_move rfl) ?_; clear hf a; intro a hf
  refine o_v hf hh (yv_bin rfl rfl rfl) ?_; clear hf a; intro a hf
  refine o_v hf hh (yv_move rfl) ?_; clear hf a; intro a hf
  refine o_off hf ?_; clear hf a; intro a hf
  refine o_off hf ?_; clear hf a; intro a hf
  refine o_off hf ?_; clear hf a; intro a hf
  refine o_off hf ?_; clear hf a; intro a hf
  refine o_off hf ?_; clear hf a; intro a hf
  refine o_off hf ?_; clear hf a; intro a hf
  refine o_off hf ?_; clear hf a; intro a hf
  refine o_off hf ?_; clear hf a; intro a hf
  refine o_v hf hh (y_pt rfl rfl) ?_; clear hf a; intro a hf
  refine o_v hf hh (y_pt rfl rfl) ?_; clear hf a; intro a hf
  refine o_v hf hh (yv_move rfl) ?_; clear hf a; intro a hf
  refine o_call hf Try.en_17 rfl rfl rfl (c_awake03 _) ?_; clear hf a; intro v a w hR hf
  obtain ⟨rfl, hx⟩ := hR; replace hh := hh.more hx; clear hx
  refine o_v hf hh (y_pt rfl rfl) ?_; clear hf a; intro a hf
  refine o_v hf hh (yv_assign rfl) ?_; clear hf a; intro a hf
  refine o_end ?_
  refine sy_ret ?_
  refine ret_r hf rfl rfl ?_
  exact ⟨rfl, hh.ext⟩
set_option maxRecDepth 100000 in
set_option maxHeartbeats 4000000 in
theorem k_fines (c : CaD) (sa : Option Addr) (cp wn bn : Nat) (hw : wn ≤ 255) (hbn : bn < 4294967296) (hl : c.pr.th.length ≤ 9223372036854775807) (k : Nat) (t : ThD) (hcb : caB c = true) (h20 : c.cuts ≤ 20) (hkd : k = wn % c.pr.th.length) (ht : c.pr.th[k]? = some t) (y dv y' : Int × Int) (z : Int) (x : CaD) (hy : powO c.pr = some y) (hst : stB c.pr t y = true) (hdv : dstV c.pr t y = dv) (hdb : c.pr.near ≤ dv.1 ∧ dv.1 ≤ dv.2 ∧ dv.2 ≤ c.pr.far) (hzd : z = dv.1 + ((bn : Nat) : Int) % (dv.2 - dv.1 + 1)) (hxO : CaOk x) (hyx : powO x.pr = some y') (hxc : ∀ s cap, caA x s cap = caA c s cap) (hxt : x.pr.th = (knw c.pr k z).th) (hsee : ∀ i, seeB x y' i = true → seeB c y i = true) (hk1 : seeB c y k = true) (hk2 : seeB x y' k = true) (hxl : x.pr.th.length = c.pr.th.length) (q1 q2 : Edg) (r1 r2 : Int × Int) (ho1 : bstO c y = some q1) (ho2 : bstO x y' = some q2) (ht1 : TrmOk c.cuts q1) (ht1x : TrmOk x.cuts q1) (ht2 : TrmOk x.cuts q2) (hsum : sumE q2 ≤ sumE q1) (hhu : hurP x y' q1 = (0, 0)) (hey1 : eyeV c q1 (seeL c y) = r1) (hey2 : eyeV x q1 (seeL x y') = r2) (hn1 : neB r1 = true) (hn2 : neB r2 = true) (hin1 : (decide (r2.1 ≤ r1.1) && decide (r1.2 ≤ r2.2)) = true) (w1 w2 : Int × Int) (hin2 : (decide (w2.1 ≤ w1.1) && decide (w1.2 ≤ w2.2)) = true) (hd1 : depO c y q1 = some w1) (hd2 : depO x y' q1 = some w2) (u : World) (hA : ThAt u sa c.pr.th) : Calls Try.prog 4 #[.agg (caA c sa cp), .int .u8 ((wn : Nat) : Int), .int .u32 ((bn : Nat) : Int)] u (Ret fun v w' => v = .bool true ∧ Ext [] u w') := by
  refine calls_of Try.func4 rfl rfl (fun a hf => ?_)
  have hh := Hp.init u []
  have hc := caB_iff.1 hcb
  have hnt := hc.pr.nt
  have hkl := (List.getElem?_eq_some_iff.1 ht).1
  obtain ⟨k1, k2⟩ := hc.cu
  obtain ⟨n1, n2⟩ := hc.pr.ne
  obtain ⟨f1, f2⟩ := hc.pr.fa
  obtain ⟨e1, e2⟩ := dis_yes hy hst
  rw [hdv] at e2
  obtain ⟨v1, v2, v3⟩ := hdb
  have hm0 := Int.emod_nonneg ((bn : Nat) : Int) (show dv.2 - dv.1 + 1 ≠ 0 by omega)
  have hm1 := Int.emod_lt_of_pos ((bn : Nat) : Int) (show 0 < dv.2 - dv.1 + 1 by omega)
  refine sy_sq ?_
  refine o_box hf hh ?_; clear hf hh a; intro B3 a w hf hh
  refine o_v hf hh (yv_assign rfl) ?_; clear hf a; intro a hf
  refine o_end ?_
  refine sy_sq ?_
  refine o_v hf hh (yv_fieldAddr Try.fo_66_0 rfl) ?_; clear hf a; intro a hf
  refine o_v hf hh (yv_fieldAddr Try.fo_64_5 rfl) ?_; clear hf a; intro a hf
  refine o_v hf hh (y_ld Try.sc_62 rfl) ?_; clear hf a; intro a hf
  refine o_v hf hh (yv_len Try.se_62 rfl) ?_; clear hf a; intro a hf
  refine o_v hf hh (yv_assign rfl) ?_; clear hf a; intro a hf
  refine o_end ?_
  refine sy_seq ?_
  refine sy_sq ?_
  refine o_v hf hh (yv_move rfl) ?_; clear hf a; intro a hf
  refine o_v hf hh (yv_bin rfl rfl rfl) ?_; clear hf a; intro a hf
  refine o_v hf hh (yv_move rfl) ?_; clear hf a; intro a hf
  refine o_v hf hh (yv_move rfl) ?_; clear hf a; intro a hf
  refine o_v hf hh (yv_bin rfl rfl rfl) ?_; clear hf a; intro a hf
  refine o_v hf hh (y_pf rfl rfl) ?_; clear hf a; intro a hf
  refine o_v hf hh (yv_move rfl) ?_; clear hf a; intro a hf
  refine o_v hf hh (y_lds Try.ag_66 rfl) ?_; clear hf a; intro a hf
  refine o_call hf Try.en_16 rfl rfl rfl (c_Card c sa cp _ (hA.ext hh.ext) hl) ?_; clear hf a; intro v a w hR hf
  obtain ⟨rfl, hx⟩ := hR; replace hh := hh.more hx; clear hx
  refine o_v hf hh (yv_not rfl) ?_; clear hf a; intro a hf
  refine o_v hf hh (y_pf rfl rfl) ?_; clear hf a; intro a hf
  refine o_v hf hh (yv_move rfl) ?_; clear hf a; intro a hf
  refine o_v hf hh (yv_fieldAddr Try.fo_66_3 rfl) ?_; clear hf a; intro a hf
  refine o_v hf hh (y_ld Try.sc_3 rfl) ?_; clear hf a; intro a hf
  refine o_v hf hh (yv_bin rfl rfl rfl) ?_; clear hf a; intro a hf
  refine o_v hf hh (y_pf rfl rfl) ?_; clear hf a; intro a hf
  refine o_end ?_
  refine c_f hf ?_
  refine sy_skip ?_
  refine then_n ?_
  refine sy_sq ?_
  refine o_v hf hh (yv_move rfl) ?_; clear hf a; intro a hf
  refine o_v hf hh (yv_convx (.inl rfl) (by kernel_rfl) Try.un_3 rfl (by omega) (by simp only [IntKind.top]; omega)) ?_; clear hf a; intro a hf
  refine o_v hf hh (yv_move rfl) ?_; clear hf a; intro a hf
  refine ops_v hf hh (yv_cast (yv_rem rfl rfl (by omega) (by omega)) (intv (b := ((k : Nat) : Int)) (by rw [hkd, Int.natCast_emod]))) (.inl rfl) rfl rfl rfl ?_; clear hf a; intro a hf
  refine o_v hf hh (yv_assign rfl) ?_; clear hf a; intro a hf
  refine o_end ?_
  refine sy_sq ?_
  refine o_v hf hh (yv_fieldAddr Try.fo_66_0 rfl) ?_; clear hf a; intro a hf
  refine o_v hf hh (y_lds Try.ag_64 rfl) ?_; clear hf a; intro a hf
  refine o_v hf hh (yv_move rfl) ?_; clear hf a; intro a hf
  refine o_call hf Try.en_18 rfl rfl rfl (c_Distance c.pr sa cp t k hc.pr ht _ (hA.ext hh.ext)) ?_; clear hf a; intro v a w hR hf
  rw [e1, e2] at hR
  obtain ⟨rfl, hx⟩ := hR; replace hh := hh.more hx; clear hx
  refine o_v hf hh (yv_move rfl) ?_; clear hf a; intro a hf
  refine o_v hf hh (yv_extract rfl rfl) ?_; clear hf a; intro a hf
  refine o_v hf hh (yv_extract rfl rfl) ?_; clear hf a; intro a hf
  refine o_alloc hf hh Try.ze_36 ?_; clear hf hh a; intro B9 a w hf hh
  refine o_store hf hh Try.sz_36 fun w hh => ?_
  refine o_v hf hh (yv_assign rfl) ?_; clear hf a; intro a hf
  refine o_end ?_
  refine sy_seq ?_
  refine sy_sq ?_
  refine o_v hf hh (yv_move rfl) ?_; clear hf a; intro a hf
  refine o_v hf hh (yv_bin rfl rfl rfl) ?_; clear hf a; intro a hf
  refine o_end ?_
  refine c_f hf ?_
  refine sy_skip ?_
  refine then_n ?_
  refine sy_seq ?_
  refine sy_sq ?_
  refine o_v hf hh (yv_fieldAddr Try.fo_36_0 rfl) ?_; clear hf a; intro a hf
  refine o_v hf hh (y_ld Try.sc_3 rfl) ?_; clear hf a; intro a hf
  refine o_v hf hh (yv_fieldAddr Try.fo_66_0 rfl) ?_; clear hf a; intro a hf
  refine o_v hf hh (yv_fieldAddr Try.fo_64_3 rfl) ?_; clear hf a; intro a hf
  refine o_v hf hh (y_ld Try.sc_3 rfl) ?_; clear hf a; intro a hf
  refine o_v hf hh (yv_bin rfl rfl rfl) ?_; clear hf a; intro a hf
  refine o_v hf hh (yv_move rfl) ?_; clear hf a; intro a hf
  refine o_v hf hh (yv_fieldAddr Try.fo_36_0 rfl) ?_; clear hf a; intro a hf
  refine o_v hf hh (y_ld Try.sc_3 rfl) ?_; clear hf a; intro a hf
  refine o_v hf hh (yv_fieldAddr Try.fo_36_1 rfl) ?_; clear hf a; intro a hf
  refine o_v hf hh (y_ld Try.sc_3 rfl) ?_; clear hf a; intro a hf
  refine o_v hf hh (yv_bin rfl rfl rfl) ?_; clear hf a; intro a hf
  refine o_v hf hh (y_pf rfl rfl) ?_; clear hf a; intro a hf
  refine o_v hf hh (yv_move rfl) ?_; clear hf a; intro a hf
  refine o_v hf hh (yv_fieldAddr Try.fo_36_1 rfl) ?_; clear hf a; intro a hf
  refine o_v hf hh (y_ld Try.sc_3 rfl) ?_; clear hf a; intro a hf
  refine o_v hf hh (yv_fieldAddr Try.fo_66_0 rfl) ?_; clear hf a; intro a hf
  refine o_v hf hh (yv_fieldAddr Try.fo_64_4 rfl) ?_; clear hf a; intro a hf
  refine o_v hf hh (y_ld Try.sc_3 rfl) ?_; clear hf a; intro a hf
  refine o_v hf hh (yv_bin rfl rfl rfl) ?_; clear hf a; intro a hf
  refine o_v hf hh (y_pf rfl rfl) ?_; clear hf a; intro a hf
  refine o_end ?_
  refine c_f hf ?_
  refine sy_skip ?_
  refine then_n ?_
  refine sy_sq ?_
  refine o_v hf hh (y_lds Try.ag_66 rfl) ?_; clear hf a; intro a hf
  refine o_alloc hf hh Try.ze_66 ?_; clear hf hh a; intro B11 a w hf hh
  refine o_store hf hh Try.sz_66 fun w hh => ?_
  refine o_end ?_
  refine sy_seq ?_
  replace hh : Hp u [] [(B11, .cells (caA c sa cp) 66), (B9, .cells #[.int .i64 dv.1, .int .i64 dv.2] 36), (B3, .cells (caA c sa cp) 66)] w := hh
  refine sy_ops ?_
  refine ops_buildSl hf hh Try.bl_62_0 rfl rfl (.inl rfl) rfl ?_; clear hf hh; clear a; intro B104 a w hf hh
  refine o_v hf hh (yv_fieldAddr Try.fo_66_0 rfl) ?_; clear hf a; intro a hf
  refine o_v hf hh (yv_fieldAddr Try.fo_64_5 rfl) ?_; clear hf a; intro a hf
  refine o_v hf hh (y_ld Try.sc_62 rfl) ?_; clear hf a; intro a hf
  refine ops_appendV (e := 73) (size := 9) (xs := []) (news := c.pr.th.flatMap thC) (X := [(B104, Obj.cells #[] 73)]) (Z := [(B11, Obj.cells (caA c sa cp) 66), (B9, Obj.cells #[.int .i64 dv.1, .int .i64 dv.2] 36), (B3, Obj.cells (caA c sa cp) 66)]) (m := 0) hf hh Try.eb_62 rfl rfl ⟨rfl, .inr ⟨B104, 0, #[], rfl, rfl, Nat.le_refl _, Nat.zero_le _, rfl, rfl⟩⟩ (vals_ofP (hA.ext hh.ext)) (flat_lenP _) (by omega) (th_one _) (by simp only [maxLen]; omega) (by omega) (.inl rfl) rfl ?_
  clear hf hh a; intro v108 X a w hOw hf hh
  rw [Nat.zero_add, List.nil_append] at hOw
  obtain ⟨Bx, cap, cur, rfl, rfl, hcx, hcm, hsz, hct⟩ := own_valP hOw (by omega)
  replace hh : Hp u [] [(Bx, .cells cur 73), (B11, .cells (caA c sa cp) 66), (B9, .cells #[.int .i64 dv.1, .int .i64 dv.2] 36), (B3, .cells (caA c sa cp) 66)] w := hh
  refine o_v hf hh (yv_fieldAddr Try.fo_66_0 rfl) ?_; clear hf a; intro a hf
  refine o_v hf hh (yv_fieldAddr Try.fo_64_5 rfl) ?_; clear hf a; intro a hf
  refine o_store hf hh Try.sz_62 fun w hh => ?_
  refine o_end ?_
  refine sy_seq ?_
  replace hh : Hp u [] [(Bx, .cells cur 73), (B11, .cells (caA c (some ⟨Bx, 0, none⟩) cap) 66), (B9, .cells #[.int .i64 dv.1, .int .i64 dv.2] 36), (B3, .cells (caA c sa cp) 66)] w := hh
  refine sy_tail (C := Hp _ _ _) 18 Try.follows (by kernel_rfl) rfl rfl (hh.drawn _) ?_
  refine oq_v hf (yv_fieldAddr Try.fo_66_0 rfl) ?_; clear hf a; intro a hf
  refine oq_v hf (yv_fieldAddr Try.fo_64_5 rfl) ?_; clear hf a; intro a hf
  refine oq_v hf (y_ld Try.sc_62 rfl) ?_; clear hf a; intro a hf
  refine oq_v hf (yv_move rfl) ?_; clear hf a; intro a hf
  refine oq_v hf (yv_fieldAddr Try.fo_36_0 rfl) ?_; clear hf a; intro a hf
  refine oq_v hf (y_ld Try.sc_3 rfl) ?_; clear hf a; intro a hf
  refine oq_v hf (yv_move rfl) ?_; clear hf a; intro a hf
  refine oq_v hf (yv_convx (.inl rfl) (by kernel_rfl) Try.un_3 rfl (by omega) (by simp only [IntKind.top]; omega)) ?_; clear hf a; intro a hf
  refine oq_v hf (yv_fieldAddr Try.fo_36_1 rfl) ?_; clear hf a; intro a hf
  refine oq_v hf (y_ld Try.sc_3 rfl) ?_; clear hf a; intro a hf
  refine oq_v hf (yv_fieldAddr Try.fo_36_0 rfl) ?_; clear hf a; intro a hf
  refine oq_v hf (y_ld Try.sc_3 rfl) ?_; clear hf a; intro a hf
  refine oq_v hf (y_sub rfl rfl) ?_; clear hf a; intro a hf
  refine oq_v hf (y_add rfl rfl) ?_; clear hf a; intro a hf
  refine oq_v hf (yv_rem rfl rfl (by omega) (by omega)) ?_; clear hf a; intro a hf
  refine q_v hf (yv_cast (y_add rfl rfl (by omega) (by omega)) (intv (b := z) hzd.symm)) (.inl rfl) rfl rfl ?_; clear hf a; intro a hf
  refine oq_v hf (y_ix Try.se_62 rfl rfl) ?_; clear hf a; intro a hf
  refine oq_v hf (yv_fieldAddr Try.fo_73_2 rfl) ?_; clear hf a; intro a hf
  refine q_end fun w hh => ?_
  refine o_store (i := 0) hf hh Try.sz_3 (hx := rfl) (hi := atI (i := 0) rfl) (hy := rfl) (hl := Nat.ble_eq_true_of_le (by rw [Int.toNat_natCast, hsz]; omega)) fun w hh => ?_
  refine o_end ?_
  refine sy_seq ?_
  refine sy_seq ?_
  obtain ⟨c2, hcs2, hh⟩ : ∃ c2, ThCs c2 x.pr.th ∧ Hp u [] [(Bx, .cells c2 73), (B11, .cells (caA x (some ⟨Bx, 0, none⟩) cap) 66), (B9, .cells #[.int .i64 dv.1, .int .i64 dv.2] 36), (B3, .cells (caA c sa cp) 66)] w := by
    have h9 : spl cur (0 + ((k : Nat) : Int).toNat * 9 + 8) [.int .i64 z] = cur.setIfInBounds (k * 9 + 8) (.int .i64 z) := by rw [Int.toNat_natCast, Nat.zero_add, spl_one _ _ (by omega)]
    refine ⟨spl cur (0 + ((k : Nat) : Int).toNat * 9 + 8) [.int .i64 z], ?_, by rw [hxc]; exact hh⟩
    rw [h9, hxt]
    exact cs_put (cs_own hct) ht (by omega)
  refine sy_ops ?_
  refine o_v hf hh (yv_fieldAddr Try.fo_66_0 rfl) ?_; clear hf a; intro a hf
  refine o_v hf hh (y_lds Try.ag_64 rfl) ?_; clear hf a; intro a hf
  refine o_call hf Try.en_19 rfl rfl rfl (c_PowerS x.pr (some ⟨Bx, 0, none⟩) cap hxO.pr y' hyx _ (cs_at (hh.get (Bx, .cells c2 73) (by simp)) hcs2)) ?_; clear hf a; intro v a w hR hf
  obtain ⟨rfl, hx⟩ := hR; replace hh := hh.more hx; clear hx
  refine o_v hf hh (yv_move rfl) ?_; clear hf a; intro a hf
  refine o_v hf hh (yv_extract rfl rfl) ?_; clear hf a; intro a hf
  refine o_v hf hh (yv_extract rfl rfl) ?_; clear hf a; intro a hf
  refine o_alloc hf hh Try.ze_36 ?_; clear hf hh a; intro B12 a w hf hh
  refine o_store hf hh Try.sz_36 fun w hh => ?_
  refine o_v hf hh (yv_assign rfl) ?_; clear hf a; intro a hf
  refine o_end ?_
  refine sy_sq ?_
  refine o_v hf hh (yv_move rfl) ?_; clear hf a; intro a hf
  refine o_v hf hh (yv_bin rfl rfl rfl) ?_; clear hf a; intro a hf
  refine o_end ?_
  refine c_f hf ?_
  refine sy_skip ?_
  refine then_n ?_
  refine sy_sq ?_
  refine o_v hf hh (y_lds Try.ag_66 rfl) ?_; clear hf a; intro a hf
  refine o_call hf Try.en_20 rfl rfl rfl (c_Seen c sa cp y hc hy _ (hA.ext hh.ext)) ?_; clear hf a; intro v a w hR hf
  obtain ⟨s1, rfl, hs1, hx⟩ := hR; replace hh := hh.more hx; clear hx
  refine o_v hf hh (yv_move rfl) ?_; clear hf a; intro a hf
  refine o_v hf hh (yv_extract rfl rfl) ?_; clear hf a; intro a hf
  refine o_v hf hh (yv_extract rfl rfl) ?_; clear hf a; intro a hf
  refine o_v hf hh (yv_assign rfl) ?_; clear hf a; intro a hf
  refine o_v hf hh (yv_assign rfl) ?_; clear hf a; intro a hf
  refine o_end ?_
  refine sy_sq ?_
  refine o_v hf hh (y_lds Try.ag_66 rfl) ?_; clear hf a; intro a hf
  refine o_call hf Try.en_20 rfl rfl rfl (c_Seen x (some ⟨Bx, 0, none⟩) cap y' hxO hyx _ (cs_at (hh.get (Bx, .cells c2 73) (by simp)) hcs2)) ?_; clear hf a; intro v a w hR hf
  obtain ⟨s2, rfl, hs2, hx⟩ := hR; replace hh := hh.more hx; clear hx
  refine o_v hf hh (yv_move rfl) ?_; clear hf a; intro a hf
  refine o_v hf hh (yv_extract rfl rfl) ?_; clear hf a; intro a hf
  refine o_v hf hh (yv_extract rfl rfl) ?_; clear hf a; intro a hf
  refine o_v hf hh (yv_assign rfl) ?_; clear hf a; intro a hf
  refine o_v hf hh (yv_assign rfl) ?_; clear hf a; intro a hf
  refine o_end ?_
  refine sy_sq ?_
  refine o_v hf hh (y_lds Try.ag_66 rfl) ?_; clear hf a; intro a hf
  refine o_call hf Try.en_21 rfl rfl rfl (c_Trim c sa cp y hc hy _ (hA.ext hh.ext)) ?_; clear hf a; intro v a w hR hf
  rw [ho1] at hR
  obtain ⟨rfl, hx⟩ := hR; replace hh := hh.more hx; clear hx
  refine o_v hf hh (yv_move rfl) ?_; clear hf a; intro a hf
  refine o_v hf hh (yv_extract rfl rfl) ?_; clear hf a; intro a hf
  refine o_v hf hh (yv_extract rfl rfl) ?_; clear hf a; intro a hf
  refine o_alloc hf hh Try.ze_77 ?_; clear hf hh a; intro B18 a w hf hh
  refine o_store hf hh Try.sz_77 fun w hh => ?_
  refine o_v hf hh (yv_assign rfl) ?_; clear hf a; intro a hf
  refine o_end ?_
  refine sy_sq ?_
  refine o_v hf hh (y_lds Try.ag_66 rfl) ?_; clear hf a; intro a hf
  refine o_call hf Try.en_21 rfl rfl rfl (c_Trim x (some ⟨Bx, 0, none⟩) cap y' hxO hyx _ (cs_at (hh.get (Bx, .cells c2 73) (by simp)) hcs2)) ?_; clear hf a; intro v a w hR hf
  rw [ho2] at hR
  obtain ⟨rfl, hx⟩ := hR; replace hh := hh.more hx; clear hx
  refine o_v hf hh (yv_move rfl) ?_; clear hf a; intro a hf
  refine o_v hf hh (yv_extract rfl rfl) ?_; clear hf a; intro a hf
  refine o_v hf hh (yv_extract rfl rfl) ?_; clear hf a; intro a hf
  refine o_alloc hf hh Try.ze_77 ?_; clear hf hh a; intro B20 a w hf hh
  refine o_store hf hh Try.sz_77 fun w hh => ?_
  refine o_v hf hh (yv_assign rfl) ?_; clear hf a; intro a hf
  refine o_end ?_
  refine sy_seq ?_
  refine sy_seq ?_
  have hs1b := hs1.1; have hs2b := hs2.1
  have hbit1 : (!s1.testBit k) = false := by rw [(hs1.2 k).2 (see_mem.2 ((see_bit hkl).2 hk1))]; rfl
  have hbit2 : (!s2.testBit k) = false := by rw [(hs2.2 k).2 (see_mem.2 ((see_bit (by omega)).2 hk2))]; rfl
  have hsub : s2 ^^^ (s2 &&& s1) = 0 := sub_none fun i hi => by
    have h1 := see_mem.1 ((hs2.2 i).1 hi)
    have h2 := see_lt h1
    exact (hs1.2 i).2 (see_mem.2 ((see_bit (by omega)).2 (hsee i ((see_bit h2).1 h1))))
  have hr1 := Nat.shiftRight_le s1 k
  have hr2 := Nat.shiftRight_le s2 k
  refine sy_ops ?_
  refine o_v hf hh (yv_move rfl) ?_; clear hf a; intro a hf
  refine o_v hf hh (yv_bin rfl rfl rfl) ?_; clear hf a; intro a hf
  refine o_v hf hh (yv_move rfl) ?_; clear hf a; intro a hf
  refine o_v hf hh (yv_move rfl) ?_; clear hf a; intro a hf
  refine o_v hf hh (yv_bin rfl rfl rfl) ?_; clear hf a; intro a hf
  refine o_v hf hh (y_pf rfl rfl) ?_; clear hf a; intro a hf
  refine o_v hf hh (yv_move rfl) ?_; clear hf a; intro a hf
  refine o_v hf hh (yv_move rfl) ?_; clear hf a; intro a hf
  refine o_v hf hh (yv_move rfl) ?_; clear hf a; intro a hf
  refine o_v hf hh (yv_shrN rfl rfl) ?_; clear hf a; intro a hf
  refine ops_v hf hh (yv_cast (yv_and (.inl rfl) rfl rfl (Int.natCast_nonneg _) (by simp only [IntKind.top]; omega) (by omega) (by simp only [IntKind.top]; omega)) (intv (b := ((s1 >>> k &&& 1 : Nat) : Int)) (by rw [Int.toNat_natCast]; rfl))) (gon rfl rfl rfl (by first | assumption | rfl | (simp; done) | (simp; omega))) rfl rfl rfl ?_; clear hf a; intro a hf
  refine o_v hf hh (yv_bit0 rfl rfl) ?_; clear hf a; intro a hf
  refine o_v hf hh (y_pf rfl rfl) ?_; clear hf a; intro a hf
  refine o_v hf hh (yv_move rfl) ?_; clear hf a; intro a hf
  refine o_v hf hh (yv_move rfl) ?_; clear hf a; intro a hf
  refine o_v hf hh (yv_move rfl) ?_; clear hf a; intro a hf
  refine o_v hf hh (yv_shrN rfl rfl) ?_; clear hf a; intro a hf
  refine ops_v hf hh (yv_cast (yv_and (.inl rfl) rfl rfl (Int.natCast_nonneg _) (by simp only [IntKind.top]; omega) (by omega) (by simp only [IntKind.top]; omega)) (intv (b := ((s2 >>> k &&& 1 : Nat) : Int)) (by rw [Int.toNat_natCast]; rfl))) (gon rfl rfl rfl (by first | assumption | rfl | (simp; done) | (simp; omega))) rfl rfl rfl ?_; clear hf a; intro a hf
  refine o_v hf hh (yv_bit0 rfl rfl) ?_; clear hf a; intro a hf
  refine o_v hf hh (y_pf rfl rfl) ?_; clear hf a; intro a hf
  refine o_v hf hh (yv_move rfl) ?_; clear hf a; intro a hf
  refine o_v hf hh (yv_move rfl) ?_; clear hf a; intro a hf
  refine o_v hf hh (yv_move rfl) ?_; clear hf a; intro a hf
  refine ops_v hf hh (yv_cast (yv_andnI rfl rfl (by omega) (by omega)) (intv (b := 0) (by rw [hsub]; rfl))) (gon rfl rfl rfl (by first | assumption | rfl | (simp; done) | (simp; omega))) rfl rfl rfl ?_; clear hf a; intro a hf
  refine o_v hf hh (yv_bin rfl rfl rfl) ?_; clear hf a; intro a hf
  refine o_v hf hh (y_pf rfl rfl) ?_; clear hf a; intro a hf
  refine o_v hf hh (yv_move rfl) ?_; clear hf a; intro a hf
  refine o_v hf hh (yv_move rfl) ?_; clear hf a; intro a hf
  refine o_v hf hh (yv_bin rfl rfl rfl) ?_; clear hf a; intro a hf
  refine o_v hf hh (yv_move rfl) ?_; clear hf a; intro a hf
  refine o_off hf ?_; clear hf a; intro a hf
  refine o_off hf ?_; clear hf a; intro a hf
  refine o_v hf hh (y_pf rfl rfl) ?_; clear hf a; intro a hf
  refine o_v hf hh (y_pf rfl rfl) ?_; clear hf a; intro a hf
  refine o_v hf hh (yv_move rfl) ?_; clear hf a; intro a hf
  refine o_v hf hh (yv_move rfl) ?_; clear hf a; intro a hf
  refine o_v hf hh (yv_bin rfl rfl rfl) ?_; clear hf a; intro a hf
  refine o_v hf hh (yv_move rfl) ?_; clear hf a; intro a hf
  refine o_off hf ?_; clear hf a; intro a hf
  refine o_off hf ?_; clear hf a; intro a hf
  refine o_v hf hh (y_pf rfl rfl) ?_; clear hf a; intro a hf
  refine o_v hf hh (y_pf rfl rfl) ?_; clear hf a; intro a hf
  refine o_v hf hh (yv_move rfl) ?_; clear hf a; intro a hf
  refine o_v hf hh (yv_move rfl) ?_; clear hf a; intro a hf
  refine o_v hf hh (yv_bin rfl rfl rfl) ?_; clear hf a; intro a hf
  refine o_v hf hh (yv_move rfl) ?_; clear hf a; intro a hf
  refine o_v hf hh (yv_move rfl) ?_; clear hf a; intro a hf
  refine o_v hf hh (yv_bin rfl rfl rfl) ?_; clear hf a; intro a hf
  refine o_v hf hh (y_pt rfl rfl) ?_; clear hf a; intro a hf
  refine o_v hf hh (y_pf rfl rfl) ?_; clear hf a; intro a hf
  refine o_end ?_
  refine c_f hf ?_
  refine sy_skip ?_
  refine then_n ?_
  refine sy_seq ?_
  refine sy_sq ?_
  refine o_v hf hh (yv_move rfl) ?_; clear hf a; intro a hf
  refine o_v hf hh (yv_bin rfl rfl rfl) ?_; clear hf a; intro a hf
  refine o_end ?_
  refine c_f hf ?_
  refine sy_skip ?_
  refine then_n ?_
  refine sy_seq ?_
  refine sy_seq ?_
  refine sy_quiet (C := Hp _ _ _) Try.follows (by kernel_rfl) (hh.drawn _) ?_
  refine oq_v hf (y_lds Try.ag_66 rfl) ?_; clear hf a; intro a hf
  refine oq_v hf (y_lds Try.ag_77 rfl) ?_; clear hf a; intro a hf
  refine oq_call hf Try.en_22 rfl rfl rfl (fun w hh => c_Trimming c sa cp q1 ht1 (by omega) _) ?_; clear hf a; intro a hf
  refine oq_v hf (yv_not rfl) ?_; clear hf a; intro a hf
  refine oq_v hf (yv_move rfl) ?_; clear hf a; intro a hf
  refine oq_v hf (y_lds Try.ag_66 rfl) ?_; clear hf a; intro a hf
  refine oq_v hf (y_lds Try.ag_77 rfl) ?_; clear hf a; intro a hf
  refine oq_call hf Try.en_22 rfl rfl rfl (fun w hh => c_Trimming x (some ⟨Bx, 0, none⟩) cap q2 ht2 (by have := hxO.cu; omega) _) ?_; clear hf a; intro a hf
  refine oq_v hf (yv_not rfl) ?_; clear hf a; intro a hf
  refine oq_v hf (y_pf rfl rfl) ?_; clear hf a; intro a hf
  refine oq_v hf (yv_move rfl) ?_; clear hf a; intro a hf
  refine oq_v hf (y_lds Try.ag_77 rfl) ?_; clear hf a; intro a hf
  refine oq_call hf Try.en_23 rfl rfl rfl (fun w hh => c_Sum q2 (edB_of hxO ht2) _) ?_; clear hf a; intro a hf
  refine oq_v hf (y_lds Try.ag_77 rfl) ?_; clear hf a; intro a hf
  refine oq_call hf Try.en_23 rfl rfl rfl (fun w hh => c_Sum q1 (edB_of hc ht1) _) ?_; clear hf a; intro a hf
  refine oq_v hf (yv_bin rfl rfl rfl) ?_; clear hf a; intro a hf
  refine oq_v hf (y_pf rfl rfl) ?_; clear hf a; intro a hf
  refine q_end fun w hh => ?_
  refine then_n ?_
  refine c_f hf ?_
  refine sy_skip ?_
  refine then_n ?_
  refine sy_seq ?_
  refine sy_sq ?_
  refine o_v hf hh (y_lds Try.ag_66 rfl) ?_; clear hf a; intro a hf
  refine o_v hf hh (y_lds Try.ag_77 rfl) ?_; clear hf a; intro a hf
  refine o_call hf Try.en_24 rfl rfl rfl (c_Hurts x (some ⟨Bx, 0, none⟩) cap y' hxO hyx q1 ht1x _ (cs_at (hh.get (Bx, .cells c2 73) (by simp)) hcs2)) ?_; clear hf a; intro v a w hR hf
  rw [hhu, if_pos rfl] at hR
  obtain ⟨rfl, hx⟩ := hR; replace hh := hh.more hx; clear hx
  refine o_v hf hh (yv_move rfl) ?_; clear hf a; intro a hf
  refine o_v hf hh (yv_extract rfl rfl) ?_; clear hf a; intro a hf
  refine o_v hf hh (yv_extract rfl rfl) ?_; clear hf a; intro a hf
  refine o_v hf hh (yv_extract rfl rfl) ?_; clear hf a; intro a hf
  refine o_v hf hh (yv_assign rfl) ?_; clear hf a; intro a hf
  refine o_v hf hh (yv_assign rfl) ?_; clear hf a; intro a hf
  refine o_v hf hh (yv_assign rfl) ?_; clear hf a; intro a hf
  refine o_end ?_
  refine sy_sq ?_
  refine o_v hf hh (yv_move rfl) ?_; clear hf a; intro a hf
  refine o_v hf hh (yv_bin rfl rfl rfl) ?_; clear hf a; intro a hf
  refine o_v hf hh (yv_move rfl) ?_; clear hf a; intro a hf
  refine o_v hf hh (yv_move rfl) ?_; clear hf a; intro a hf
  refine o_v hf hh (yv_bin rfl rfl rfl) ?_; clear hf a; intro a hf
  refine o_v hf hh (y_pf rfl rfl) ?_; clear hf a; intro a hf
  refine o_v hf hh (yv_move rfl) ?_; clear hf a; intro a hf
  refine o_v hf hh (yv_move rfl) ?_; clear hf a; intro a hf
  refine o_v hf hh (yv_bin rfl rfl rfl) ?_; clear hf a; intro a hf
  refine o_v hf hh (y_pf rfl rfl) ?_; clear hf a; intro a hf
  refine o_end ?_
  refine c_f hf ?_
  refine sy_skip ?_
  refine then_n ?_
  refine sy_sq ?_
  refine o_v hf hh (yv_assign rfl) ?_; clear hf a; intro a hf
  refine o_end ?_
  refine sy_sq ?_
  refine o_v hf hh (y_lds Try.ag_66 rfl) ?_; clear hf a; intro a hf
  refine o_v hf hh (y_lds Try.ag_77 rfl) ?_; clear hf a; intro a hf
  refine o_call hf Try.en_26 rfl rfl rfl (c_Eyes c sa cp y hc hy q1 ht1 _ (hA.ext hh.ext) (by rw [hey1]; exact hn1)) ?_; clear hf a; intro v a w hR hf
  rw [hey1] at hR
  obtain ⟨rfl, hx⟩ := hR; replace hh := hh.more hx; clear hx
  refine o_v hf hh (yv_move rfl) ?_; clear hf a; intro a hf
  refine o_v hf hh (yv_extract rfl rfl) ?_; clear hf a; intro a hf
  refine o_v hf hh (yv_extract rfl rfl) ?_; clear hf a; intro a hf
  refine o_alloc hf hh Try.ze_36 ?_; clear hf hh a; intro B26 a w hf hh
  refine o_store hf hh Try.sz_36 fun w hh => ?_
  refine o_v hf hh (yv_assign rfl) ?_; clear hf a; intro a hf
  refine o_end ?_
  refine sy_sq ?_
  refine o_v hf hh (y_lds Try.ag_66 rfl) ?_; clear hf a; intro a hf
  refine o_v hf hh (y_lds Try.ag_77 rfl) ?_; clear hf a; intro a hf
  refine o_call hf Try.en_26 rfl rfl rfl (c_Eyes x (some ⟨Bx, 0, none⟩) cap y' hxO hyx q1 ht1x _ (cs_at (hh.get (Bx, .cells c2 73) (by simp)) hcs2) (by rw [hey2]; exact hn2)) ?_; clear hf a; intro v a w hR hf
  rw [hey2] at hR
  obtain ⟨rfl, hx⟩ := hR; replace hh := hh.more hx; clear hx
  refine o_v hf hh (yv_move rfl) ?_; clear hf a; intro a hf
  refine o_v hf hh (yv_extract rfl rfl) ?_; clear hf a; intro a hf
  refine o_v hf hh (yv_extract rfl rfl) ?_; clear hf a; intro a hf
  refine o_alloc hf hh Try.ze_36 ?_; clear hf hh a; intro B28 a w hf hh
  refine o_store hf hh Try.sz_36 fun w hh => ?_
  refine o_v hf hh (yv_assign rfl) ?_; clear hf a; intro a hf
  refine o_end ?_
  refine sy_sq ?_
  refine o_v hf hh (y_lds Try.ag_66 rfl) ?_; clear hf a; intro a hf
  refine o_v hf hh (y_lds Try.ag_77 rfl) ?_; clear hf a; intro a hf
  refine o_call hf Try.en_27 rfl rfl rfl (c_Depths c sa cp y hc hy q1 ht1 _ (hA.ext hh.ext)) ?_; clear hf a; intro v a w hR hf
  rw [hd1] at hR
  obtain ⟨rfl, hx⟩ := hR; replace hh := hh.more hx; clear hx
  refine o_v hf hh (yv_move rfl) ?_; clear hf a; intro a hf
  refine o_v hf hh (yv_extract rfl rfl) ?_; clear hf a; intro a hf
  refine o_v hf hh (yv_extract rfl rfl) ?_; clear hf a; intro a hf
  refine o_alloc hf hh Try.ze_36 ?_; clear hf hh a; intro B30 a w hf hh
  refine o_store hf hh Try.sz_36 fun w hh => ?_
  refine o_v hf hh (yv_assign rfl) ?_; clear hf a; intro a hf
  refine o_end ?_
  refine sy_sq ?_
  refine o_v hf hh (y_lds Try.ag_66 rfl) ?_; clear hf a; intro a hf
  refine o_v hf hh (y_lds Try.ag_77 rfl) ?_; clear hf a; intro a hf
  refine o_call hf Try.en_27 rfl rfl rfl (c_Depths x (some ⟨Bx, 0, none⟩) cap y' hxO hyx q1 ht1x _ (cs_at (hh.get (Bx, .cells c2 73) (by simp)) hcs2)) ?_; clear hf a; intro v a w hR hf
  rw [hd2] at hR
  obtain ⟨rfl, hx⟩ := hR; replace hh := hh.more hx; clear hx
  refine o_v hf hh (yv_move rfl) ?_; clear hf a; intro a hf
  refine o_v hf hh (yv_extract rfl rfl) ?_; clear hf a; intro a hf
  refine o_v hf hh (yv_extract rfl rfl) ?_; clear hf a; intro a hf
  refine o_alloc hf hh Try.ze_36 ?_; clear hf hh a; intro B32 a w hf hh
  refine o_store hf hh Try.sz_36 fun w hh => ?_
  refine o_v hf hh (yv_assign rfl) ?_; clear hf a; intro a hf
  refine o_end ?_
  refine sy_sq ?_
  refine o_v hf hh (yv_move rfl) ?_; clear hf a; intro a hf
  refine o_v hf hh (yv_bin rfl rfl rfl) ?_; clear hf a; intro a hf
  refine o_v hf hh (yv_move rfl) ?_; clear hf a; intro a hf
  refine o_v hf hh (yv_move rfl) ?_; clear hf a; intro a hf
  refine o_v hf hh (yv_bin rfl rfl rfl) ?_; clear hf a; intro a hf
  refine o_v hf hh (y_pt rfl rfl) ?_; clear hf a; intro a hf
  refine o_v hf hh (yv_move rfl) ?_; clear hf a; intro a hf
  refine o_v hf hh (yv_move rfl) ?_; clear hf a; intro a hf
  refine o_v hf hh (y_lds Try.ag_36 rfl) ?_; clear hf a; intro a hf
  refine o_v hf hh (y_lds Try.ag_36 rfl) ?_; clear hf a; intro a hf
  refine o_call hf Try.en_25 rfl rfl rfl (c_ink r1 r2 _) ?_; clear hf a; intro v a w hR hf
  obtain ⟨rfl, hx⟩ := hR; replace hh := hh.more hx; clear hx
  refine o_v hf hh (y_pt rfl rfl) ?_; clear hf a; intro a hf
  refine o_v hf hh (yv_move rfl) ?_; clear hf a; intro a hf
  refine o_v hf hh (yv_move rfl) ?_; clear hf a; intro a hf
  refine o_v hf hh (yv_bin rfl rfl rfl) ?_; clear hf a; intro a hf
  refine o_v hf hh (yv_move rfl) ?_; clear hf a; intro a hf
  refine o_v hf hh (yv_move rfl) ?_; clear hf a; intro a hf
  refine o_v hf hh (yv_bin rfl rfl rfl) ?_; clear hf a; intro a hf
  refine o_v hf hh (yv_move rfl) ?_; clear hf a; intro a hf
  refine o_v hf hh (yv_move rfl) ?_; clear hf a; intro a hf
  refine o_v hf hh (y_lds Try.ag_36 rfl) ?_; clear hf a; intro a hf
  refine o_v hf hh (y_lds Try.ag_36 rfl) ?_; clear hf a; intro a hf
  refine o_call hf Try.en_25 rfl rfl rfl (c_ink w1 w2 _) ?_; clear hf a; intro v a w hR hf
  obtain ⟨rfl, hx⟩ := hR; replace hh := hh.more hx; clear hx
  refine o_v hf hh (y_pt rfl rfl) ?_; clear hf a; intro a hf
  refine o_v hf hh (y_pf rfl rfl) ?_; clear hf a; intro a hf
  refine o_v hf hh (y_pt rfl rfl) ?_; clear hf a; intro a hf
  refine o_v hf hh (yv_move rfl) ?_; clear hf a; intro a hf
  refine o_call hf Try.en_17 rfl rfl rfl (c_awake03 _) ?_; clear hf a; intro v a w hR hf
  obtain ⟨rfl, hx⟩ := hR; replace hh := hh.more hx; clear hx
  refine o_v hf hh (y_pt rfl rfl) ?_; clear hf a; intro a hf
  refine o_v hf hh (yv_assign rfl) ?_; clear hf a; intro a hf
  refine o_end ?_
  refine sy_ret ?_
  refine ret_r hf rfl rfl ?_
  exact ⟨rfl, hh.ext⟩
end Go.Proofs.Ytccpgpnekoncoaa

namespace Go.Proofs.Ytccpgpnekoncoaa
open Go Go.Sy Go.PaiM
set_option maxRecDepth 100000 in
theorem c_law (c : CaD) (sa : Option Addr) (cp wn bn : Nat) (hw : wn ≤ 255) (hbn : bn < 4294967296) (hl : c.pr.th.length ≤ 9223372036854775807) (u : World) (hA : ThAt u sa c.pr.th) : Calls Try.prog 4 #[.agg (caA c sa cp), .int .u8 ((wn : Nat) : Int), .int .u32 ((bn : Nat) : Int)] u (Ret fun v w' => v = .bool true ∧ Ext [] u w') := by
  by_cases hbad : c.pr.th.length = 0 ∨ 40 < c.pr.th.length ∨ caB c = false ∨ 20 < c.cuts
  · exact k_bad c sa cp wn bn hw hbn hl hbad u hA
  · rw [not_or, not_or, not_or] at hbad
    obtain ⟨g1, g2, g3, g4⟩ := hbad
    have hcb : caB c = true := by
      cases h : caB c
      · exact absurd h g3
      · rfl
    have hc := caB_iff.1 hcb
    have h20 : c.cuts ≤ 20 := by omega
    obtain ⟨k, hkd⟩ : ∃ k, k = wn % c.pr.th.length := ⟨_, rfl⟩
    have hkl : k < c.pr.th.length := by rw [hkd]; exact Nat.mod_lt _ (by omega)
    obtain ⟨t, ht⟩ := ex_ofP hkl
    cases hy : powO c.pr with
    | none =>
      obtain ⟨e1, e2⟩ := dis_none (t := t) hy
      exact k_no4 c sa cp wn bn hw hbn hl k t hcb h20 hkd ht e1 e2 u hA
    | some y =>
      cases hst : stB c.pr t y with
      | false =>
        obtain ⟨e1, e2⟩ := dis_no hy hst
        exact k_no11 c sa cp wn bn hw hbn hl k t hcb h20 hkd ht e1 e2 u hA
      | true =>
        obtain ⟨dv, hdv⟩ : ∃ dv, dstV c.pr t y = dv := ⟨_, rfl⟩
        have hdb := dstV_bd hc.pr ht hy hst
        rw [hdv] at hdb
        obtain ⟨z, hzd⟩ : ∃ z, z = dv.1 + ((bn : Nat) : Int) % (dv.2 - dv.1 + 1) := ⟨_, rfl⟩
        have hm0 := Int.emod_nonneg ((bn : Nat) : Int) (show dv.2 - dv.1 + 1 ≠ 0 by omega)
        have hm1 := Int.emod_lt_of_pos ((bn : Nat) : Int) (show 0 < dv.2 - dv.1 + 1 by omega)
        obtain ⟨y', hyx, hK⟩ := kn_all (z := z) hc.pr ht hy hst (by rw [hdv]; omega)
        obtain ⟨x, hx⟩ : ∃ x, x = kna c k z := ⟨_, rfl⟩
        have hyx : powO x.pr = some y' := by rw [hx]; exact hyx
        rw [← hx] at hK
        have hxl : x.pr.th.length = c.pr.th.length := hK.ln
        have hxt : x.pr.th = (knw c.pr k z).th := by rw [hx]; rfl
        have hxO : CaOk x := by
          rw [hx]
          exact ⟨hc.ha, hc.st, hc.cu, hc.ey, hc.pm, hc.sq, hc.fr, hc.de, knw_prOk hc.pr ⟨by omega, by omega⟩⟩
        have hxc : ∀ s cap, caA x s cap = caA c s cap := fun s cap => by
          unfold caA
          rw [hxl, hx]; rfl
        have hxcu : x.cuts = c.cuts := hK.sc.2.2.1
        cases ho1 : bstO c y with
        | none =>
          cases ho2 : bstO x y' with
          | some u2 => exact k_hurt1 c sa cp wn bn hw hbn hl k t hcb h20 hkd ht y dv y' z x hy hst hdv hdb hzd hxO hyx hxc hxt hK.se hK.sk.2 hK.sk.1 hxl u2 ho1 ho2 u hA
          | none => exact k_hurt2 c sa cp wn bn hw hbn hl k t hcb h20 hkd ht y dv y' z x hy hst hdv hdb hzd hxO hyx hxc hxt hK.se hK.sk.2 hK.sk.1 hxl ho1 ho2 u hA
        | some q1 =>
          obtain ⟨ht1, hur, q2, ho2, ht2, hsum⟩ := kn_trim hK hc.cu.1 ho1
          have hf1 := List.find?_some ho1
          have hhu : hurP x y' q1 = (0, 0) := by unfold hurP; rw [hur]
          obtain ⟨hn1, hn2, i1, i2⟩ := kn_eyes hK hc hf1
          have hin1 : (decide ((eyeV x q1 (seeL x y')).1 ≤ (eyeV c q1 (seeL c y)).1) && decide ((eyeV c q1 (seeL c y)).2 ≤ (eyeV x q1 (seeL x y')).2)) = true := by
            rw [decide_eq_true i1, decide_eq_true i2]; rfl
          have hne : neB y' = true := (pow_bd hxO.pr hyx).1
          have hdp := kn_deep hK hc.pr hne (rooV c q1)
          have hro := kn_room hK q1
          cases hd1 : depO c y q1 with
          | none => exact k_finen c sa cp wn bn hw hbn hl k t hcb h20 hkd ht y dv y' z x hy hst hdv hdb hzd hxO hyx hxc hxt hK.se hK.sk.2 hK.sk.1 hxl q1 q2 _ _ ho1 ho2 ht1 (by rw [hxcu]; exact ht1) ht2 hsum hhu rfl rfl hn1 hn2 hin1 (depO x y' q1) hd1 rfl u hA
          | some w1 =>
            have h1 : neB (rooV c q1) = true := by
              cases h : neB (rooV c q1) with
              | true => rfl
              | false => rw [dep_no h] at hd1; cases hd1
            have h2 : neB (depV c.pr y (rooV c q1)) = true := by
              cases h : neB (depV c.pr y (rooV c q1)) with
              | true => rfl
              | false => rw [dep_em h1 h] at hd1; cases hd1
            rw [dep_yes h1 h2] at hd1
            have e1 := Option.some.inj hd1
            have h3 : neB (depV x.pr y' (rooV x q1)) = true := by
              rw [hro]
              have g := of_decide_eq_true (show decide _ = true from h2)
              exact decide_eq_true (by omega)
            have hd2 := dep_yes (c := x) (w := y') (e := q1) (by rw [hro]; exact h1) h3
            rw [hro] at hd2
            have hin2 : (decide ((depV x.pr y' (rooV c q1)).1 ≤ w1.1) && decide (w1.2 ≤ (depV x.pr y' (rooV c q1)).2)) = true := by
              rw [← e1, decide_eq_true hdp.1, decide_eq_true hdp.2]; rfl
            exact k_fines c sa cp wn bn hw hbn hl k t hcb h20 hkd ht y dv y' z x hy hst hdv hdb hzd hxO hyx hxc hxt hK.se hK.sk.2 hK.sk.1 hxl q1 q2 _ _ ho1 ho2 ht1 (by rw [hxcu]; exact ht1) ht2 hsum hhu rfl rfl hn1 hn2 hin1 w1 (depV x.pr y' (rooV c q1)) hin2 ((dep_yes h1 h2).trans hd1) hd2 u hA
end Go.Proofs.Ytccpgpnekoncoaa

namespace Go.Proofs.Ytccpgpnekoncoaa
open Go Go.Sy Go.PaiM Go.ChangeShapes Go.WideShapes Go.Deep Go.RowKit
theorem hsCA : Try.prog.underlying 66 = some (.struct (Try.prog.fieldsOf 66)) := by kernel_rfl
theorem fsCA : (Try.prog.fieldsOf 66).map (fun f => (f.offset, f.type)) = #[(0, 64), (8, 3), (9, 3), (10, 3), (11, 36), (13, 3), (14, 3), (15, 3), (16, 3)] := by kernel_rfl
theorem hsPR : Try.prog.underlying 64 = some (.struct (Try.prog.fieldsOf 64)) := by kernel_rfl
theorem fsPR : (Try.prog.fieldsOf 64).map (fun f => (f.offset, f.type)) = #[(0, 36), (2, 36), (4, 3), (5, 3), (6, 3), (7, 62)] := by kernel_rfl
theorem coCA : Try.prog.cellsOf 66 = 17 := by kernel_rfl
theorem coPR : Try.prog.cellsOf 64 = 8 := by kernel_rfl
theorem coSP : Try.prog.cellsOf 36 = 2 := by kernel_rfl
theorem coSL : Try.prog.cellsOf 62 = 1 := by kernel_rfl
theorem co3 : Try.prog.cellsOf 3 = 1 := by kernel_rfl
theorem unSL : Try.prog.underlying 62 = some (.slice 73) := by kernel_rfl
theorem unU8 : Try.prog.underlying 5 = some (.int .u8) := by kernel_rfl
theorem unU32 : Try.prog.underlying 67 = some (.int .u32) := by kernel_rfl
theorem fkTH : flK Try.prog .i64 9 73 = some 9 := by kernel_rfl
theorem fkSP : flK Try.prog .i64 9 36 = some 2 := by kernel_rfl
theorem un4 : Try.prog.underlying 4 = some .bool := by kernel_rfl
theorem own : ownKnob Try.prog.godebug = none := by kernel_rfl
theorem wf32 {a : Int} (h : wfI .u32 a) : 0 ≤ a ∧ a ≤ 4294967295 := by
  unfold wfI at h
  simp only [Lit.wf, Bool.and_eq_true, decide_eq_true_eq] at h
  have h8 : IntKind.u32.min = 0 := by decide
  have h9 : IntKind.u32.max = 4294967295 := by decide
  rw [h8, h9] at h; exact h
def toTh (p : List Int) : ThD := match p with
  | [x0, x1, x2, x3, x4, x5, x6, x7, x8] => ⟨(x0, x1), (x2, x3), (x4, x5), (x6, x7), x8⟩
  | _ => ⟨(0, 0), (0, 0), (0, 0), (0, 0), 0⟩
theorem toTh_enc {p : List Int} (h : p.length = 9) : thC (toTh p) = p.map (Value.int .i64) := by
  match p, h with
  | [x0, x1, x2, x3, x4, x5, x6, x7, x8], _ => rfl
theorem thAt_flat {W : World} {sa : Option Addr} {l : List (List Int)} (hf : ∀ p ∈ l, thC (toTh p) = p.map (Value.int .i64)) (h : FlatAt W .i64 sa 9 l) : ThAt W sa (l.map toTh) := fun i s hi => by
  rw [List.getElem?_map] at hi
  cases hp : l[i]? with
  | none => rw [hp] at hi; cases hi
  | some p =>
    rw [hp] at hi
    cases hi
    obtain ⟨blk, off, c, T, fr, h1, h2, h3⟩ := h i p hp
    exact ⟨blk, off, c, T, fr, h1, h2, by rw [hf p (List.mem_of_getElem? hp)]; exact h3⟩
theorem len17 {l : List Value} (h : l.length = 17) : ∃ c0 c1 c2 c3 c4 c5 c6 c7 c8 c9 d0 d1 d2 d3 d4 d5 d6, l = [c0, c1, c2, c3, c4, c5, c6, c7, c8, c9, d0, d1, d2, d3, d4, d5, d6] := by
  match l, h with
  | [c0, c1, c2, c3, c4, c5, c6, c7, c8, c9, d0, d1, d2, d3, d4, d5, d6], _ => exact ⟨c0, c1, c2, c3, c4, c5, c6, c7, c8, c9, d0, d1, d2, d3, d4, d5, d6, rfl⟩
theorem two2 {p : List Int} {v w : Value} (h : p.length = 2) (e : [v, w] = p.map (Value.int .i64)) : ∃ x y, v = .int .i64 x ∧ w = .int .i64 y := by
  match p, h with
  | [x, y], _ =>
    have e : [v, w] = [.int .i64 x, .int .i64 y] := e
    simp only [List.cons.injEq, and_true] at e
    exact ⟨x, y, e.1, e.2⟩
section
variable {H : Type} {enc : TypeId × Value → H} {W : World} {base : Nat} {spare : Nat → Bool} {held : Bool}
set_option maxRecDepth 100000 in
theorem openCard {r : Reach} {b0 : Nat} {v : Value} {d : DataW H} {p : List MemPlace} (hv : Value.okWide Try.prog W r b0 66 v) (h : DataW.Trod enc Try.prog W base spare held 66 v d p) : ∃ (c : CaD) (sa : Option Addr) (cp : Nat), v = .agg (caA c sa cp) ∧ ThAt W sa c.pr.th ∧ c.pr.th.length ≤ 9223372036854775807 := by
  obtain ⟨cs, rfl, hsz⟩ := okWide_struct hsCA hv
  obtain ⟨fuel, h⟩ := h
  obtain ⟨_, hf⟩ := trod_field hsCA h
  rw [fsCA] at hf
  rw [coCA] at hsz
  obtain ⟨l, rfl⟩ : ∃ l : List Value, cs = l.toArray := ⟨cs.toList, by simp⟩
  obtain ⟨c0, c1, c2, c3, c4, c5, c6, c7, c8, c9, d0, d1, d2, d3, d4, d5, d6, rfl⟩ := len17 (by simpa using hsz)
  replace hf : ∀ (i o : Nat) (u : TypeId) (c : Nat), (#[(0, 64), (8, 3), (9, 3), (10, 3), (11, 36), (13, 3), (14, 3), (15, 3), (16, 3)] : Array (Nat × TypeId))[i]? = some (o, u) → Try.prog.cellsOf u = c → ∃ n y, DataW.trod enc Try.prog W base spare held n u (([c0, c1, c2, c3, c4, c5, c6, c7, c8, c9, d0, d1, d2, d3, d4, d5, d6].drop o).take c) = some y := hf
  obtain ⟨_, _, g0⟩ := hf 0 0 64 8 rfl coPR
  obtain ⟨_, _, g1⟩ := hf 1 8 3 1 rfl co3
  obtain ⟨_, _, g2⟩ := hf 2 9 3 1 rfl co3
  obtain ⟨_, _, g3⟩ := hf 3 10 3 1 rfl co3
  obtain ⟨_, _, g4⟩ := hf 4 11 36 2 rfl coSP
  obtain ⟨_, _, g5⟩ := hf 5 13 3 1 rfl co3
  obtain ⟨_, _, g6⟩ := hf 6 14 3 1 rfl co3
  obtain ⟨_, _, g7⟩ := hf 7 15 3 1 rfl co3
  obtain ⟨_, _, g8⟩ := hf 8 16 3 1 rfl co3
  clear hf
  obtain ⟨m1, e1, _, _⟩ := DataW.trod_int Try.un_3 g1
  obtain ⟨m2, e2, _, _⟩ := DataW.trod_int Try.un_3 g2
  obtain ⟨m3, e3, _, _⟩ := DataW.trod_int Try.un_3 g3
  obtain ⟨p4, l4, e4, _⟩ := trod_fl fkSP g4
  obtain ⟨m5, e5, _, _⟩ := DataW.trod_int Try.un_3 g5
  obtain ⟨m6, e6, _, _⟩ := DataW.trod_int Try.un_3 g6
  obtain ⟨m7, e7, _, _⟩ := DataW.trod_int Try.un_3 g7
  obtain ⟨m8, e8, _, _⟩ := DataW.trod_int Try.un_3 g8
  obtain ⟨x4, y4, z4a, z4b⟩ := two2 l4 (show [d1, d2] = _ from e4)
  simp at e1 e2 e3 e5 e6 e7 e8
  subst e1 e2 e3 e5 e6 e7 e8 z4a z4b
  clear g1 g2 g3 g4 g5 g6 g7 g8 e4
  replace g0 : DataW.trod enc Try.prog W base spare held _ 64 [c0, c1, c2, c3, c4, c5, c6, c7] = some _ := g0
  obtain ⟨_, hg⟩ := trod_field hsPR g0
  rw [fsPR] at hg
  replace hg : ∀ (i o : Nat) (u : TypeId) (c : Nat), (#[(0, 36), (2, 36), (4, 3), (5, 3), (6, 3), (7, 62)] : Array (Nat × TypeId))[i]? = some (o, u) → Try.prog.cellsOf u = c → ∃ n y, DataW.trod enc Try.prog W base spare held n u (([c0, c1, c2, c3, c4, c5, c6, c7].drop o).take c) = some y := hg
  obtain ⟨_, _, k0⟩ := hg 0 0 36 2 rfl coSP
  obtain ⟨_, _, k1⟩ := hg 1 2 36 2 rfl coSP
  obtain ⟨_, _, k2⟩ := hg 2 4 3 1 rfl co3
  obtain ⟨_, _, k3⟩ := hg 3 5 3 1 rfl co3
  obtain ⟨_, _, k4⟩ := hg 4 6 3 1 rfl co3
  obtain ⟨_, _, k5⟩ := hg 5 7 62 1 rfl coSL
  clear hg
  obtain ⟨p0, l0, e0, _⟩ := trod_fl fkSP k0
  obtain ⟨p1, l1, e1, _⟩ := trod_fl fkSP k1
  obtain ⟨n2, e2, _, _⟩ := DataW.trod_int Try.un_3 k2
  obtain ⟨n3, e3, _, _⟩ := DataW.trod_int Try.un_3 k3
  obtain ⟨n4, e4, _, _⟩ := DataW.trod_int Try.un_3 k4
  obtain ⟨q1, s1, a1, e5, b1, b2, f1⟩ := trod_slices unSL fkTH (by omega) k5
  obtain ⟨x0, y0, z0a, z0b⟩ := two2 l0 (show [c0, c1] = _ from e0)
  obtain ⟨x1, y1, z1a, z1b⟩ := two2 l1 (show [c2, c3] = _ from e1)
  simp at e2 e3 e4 e5
  subst e2 e3 e4 e5 z0a z0b z1a z1b
  refine ⟨⟨⟨(x0, y0), (x1, y1), n2, n3, n4, q1.map toTh⟩, m1, m2, m3, (x4, y4), m5, m6, m7, m8⟩, s1, a1, by simp, thAt_flat (fun p hp => toTh_enc (b2 p hp).1) f1, by simp only [List.length_map]; exact Nat.le_trans b1 (by decide)⟩
end
end Go.Proofs.Ytccpgpnekoncoaa

