/- Lemmas, in order: Spans in slices of one's own. The shortest tour; when one is at each view. The document's charts. Tours of any size in memory. Spots of a map, and the tour that is made of them. The document's tours and orders. The document's tour.. -/
import Derived.Test.YtccpgpnekoncoaaGreatQ21
namespace Go.WalM
open Go Go.Sy
theorem own_valW {e size m : Nat} {v : Value} {xs : List Value} {X : List (Nat × Obj)} (h : OwnSl e size v m xs X) : ∃ oa cap, v = .slice oa m cap := by
  rcases h.2 with ⟨h1, h2, _⟩ | ⟨B, cap, cur, h1, _⟩
  · exact ⟨none, 0, by rw [h1, h2]⟩
  · exact ⟨_, _, h1⟩
theorem spL_len (l : List (Int × Int)) : (l.flatMap swC).length = l.length * 2 := by
  induction l with
  | nil => rfl
  | cons p l ih => rw [List.flatMap_cons, List.length_append, ih]; show 2 + l.length * 2 = (l.length + 1) * 2; omega
theorem spL_at : ∀ {l : List (Int × Int)} {i : Nat} {x : Int × Int}, l[i]? = some x → (l.flatMap swC)[i * 2]? = some (.int .i64 x.1) ∧ (l.flatMap swC)[i * 2 + 1]? = some (.int .i64 x.2)
  | p :: l, 0, x, h => by
    have h : p = x := by simpa using h
    subst h
    exact ⟨rfl, rfl⟩
  | p :: l, i + 1, x, h => by
    have h : l[i]? = some x := by simpa using h
    have ih := spL_at h
    have e : (p :: l).flatMap swC = .int .i64 p.1 :: .int .i64 p.2 :: l.flatMap swC := rfl
    rw [e, show (i + 1) * 2 = i * 2 + 1 + 1 by omega, List.getElem?_cons_succ, List.getElem?_cons_succ, List.getElem?_cons_succ, List.getElem?_cons_succ]
    exact ih
theorem own_sp {e : Nat} {v : Value} {n : Nat} {l : List (Int × Int)} {X : List (Nat × Obj)} (h : OwnSl e 2 v n (l.flatMap swC) X) : ∃ oa cap, v = .slice oa l.length cap ∧ ∀ w : World, (∀ q ∈ X, w.heap[q.1]? = some q.2) → SpAt w oa l := by
  obtain ⟨hl, h⟩ := h
  rw [spL_len] at hl
  have hm : n = l.length := by omega
  subst hm
  rcases h with ⟨rfl, h0, rfl⟩ | ⟨B, cap, cur, rfl, rfl, h1, h2, h3, h4⟩
  · refine ⟨none, 0, by rw [h0], fun w _ i r hi => ?_⟩
    have := len_ofW hi
    omega
  · refine ⟨_, cap, rfl, fun w hX i r hi => ⟨B, 0, cur, e, _, rfl, hX _ (.head _), ?_⟩⟩
    have hi2 := len_ofW hi
    obtain ⟨a1, a2⟩ := spL_at hi
    rw [← h4, List.getElem?_take, if_pos (by omega), Array.getElem?_toList] at a1 a2
    rw [Int.toNat_natCast, Nat.zero_add]
    exact cellsAt_two a1 a2
end Go.WalM

namespace Go.Proofs.YtccpgpnekoncoaaGreat
open Go Go.Sy Go.WalM
set_option maxRecDepth 100000 in
theorem k21 (t : TourD) (p : TPl) (u : World) (hA : TouAt u t p) (hok : touB t = true) : Calls Tryz.prog 21 #[.agg (touC t p)] u (Ret fun v w' => ∃ (l : List Nat) (oa : Option Addr) (cp : Nat) (K : List (Nat × Obj)) (e : Int), v = .tuple #[.slice oa l.length cp, .int .i64 e] ∧ ((e = 0 ∧ l = (mostP t).1 ∧ l.length = t.fr.length) ∨ (e = 4 ∧ l = [] ∧ (mostP t).1.length ≠ t.fr.length)) ∧ NewVw u l oa K w') := by
  refine calls_ofM Tryz.func21 rfl rfl (fun a hf => ?_)
  have hh := Hp.init u []
  refine sy_sq ?_
  refine o_box hf hh ?_; clear hf hh a; intro B1 a w hf hh
  refine o_v hf hh (yv_assign rfl) ?_; clear hf a; intro a hf
  refine o_alloc hf hh Tryz.ze_34 ?_; clear hf hh a; intro B3 a w hf hh
  refine o_end ?_
  refine sy_sq ?_
  refine o_v hf hh (yv_makeFunc rfl rfl) ?_; clear hf a; intro a hf
  refine o_defer hf ?_; clear hf a; intro a hf
  refine o_end ?_
  refine sy_sq ?_
  refine o_v hf hh (y_lds Tryz.ag_25 rfl) ?_; clear hf a; intro a hf
  refine o_callX hf Tryz.en_30 rfl rfl rfl (k30 t p _ (hA.ext hh.ext) 31 #[] true Tryz.en_31 (fun _ Bc w2 _ _ => k31 Bc w2)) ?_ ?_
  ·clear hf a; intro v a w hR hf
   obtain ⟨he, Bc, rfl, hx⟩ := hR; replace hh := hh.join hx; clear hx
   refine o_call hf Tryz.en_32 rfl rfl rfl (k32 t p Bc w (hh.at (i := 0) rfl) (hA.ext hh.ext) (touB_iff.1 hok)) ?_; clear hf a; intro v a w hR hf
   obtain ⟨pl, K, rfl, hp, hq, hx⟩ := hR
   replace hh := (hh.join hx).perm (perm_in K [_, _, _] [] [])
   simp only [List.cons_append, List.nil_append, List.append_nil] at hh
   refine o_alloc hf hh Tryz.ze_74 ?_; clear hf hh a; intro B4 a w hf hh
   refine o_store hf hh Tryz.sz_74 fun w hh => ?_
   refine o_end ?_
   refine sy_seq ?_
   replace hh : Hp u [] ((B4, .cells #[.slice pl.2.1 pl.1.1.length pl.2.2, .int .i64 pl.1.2] 74) :: (Bc, .cells (tpC t p) 136) :: (B3, .cells #[.int .i64 0] 34) :: (B1, .cells (touC t p) 25) :: K) w := hh
   refine sy_ops ?_
   refine o_v hf hh (yv_fieldAddr Tryz.fo_74_0 rfl) ?_; clear hf a; intro a hf
   refine o_v hf hh (y_ld Tryz.sc_28 rfl) ?_; clear hf a; intro a hf
   refine o_v hf hh (yv_len Tryz.se_28 rfl) ?_; clear hf a; intro a hf
   refine o_v hf hh (yv_fieldAddr Tryz.fo_25_1 rfl) ?_; clear hf a; intro a hf
   refine o_v hf hh (y_ld Tryz.sc_22 rfl) ?_; clear hf a; intro a hf
   refine o_v hf hh (yv_len Tryz.se_22 rfl) ?_; clear hf a; intro a hf
   refine o_v hf hh (yv_bin rfl rfl rfl) ?_; clear hf a; intro a hf
   refine o_callX hf Tryz.en_67 rfl rfl rfl (k67 _ 4 _) ?_ ?_
   ·clear hf a; intro v a w hR hf
    obtain ⟨hb1, hx⟩ := hR; replace hh := hh.more hx; clear hx
    refine o_end ?_
    refine sy_sq ?_
    refine o_v hf hh (yv_fieldAddr Tryz.fo_74_0 rfl) ?_; clear hf a; intro a hf
    refine o_v hf hh (y_ld Tryz.sc_28 rfl) ?_; clear hf a; intro a hf
    refine o_v hf hh (yv_assign rfl) ?_; clear hf a; intro a hf
    refine o_store hf hh Tryz.sz_34 fun w hh => ?_
    refine o_end ?_
    refine sy_ret ?_
    exact ret_d (Ds := []) hf hh Tryz.en_66 (fun w' => kd66r B3 w') fun w' hh => ⟨[.slice pl.2.1 pl.1.1.length pl.2.2, .int .i64 0], ⟨rfl, ⟨B3, 0, _, _, _, rfl, hh.at (i := 2) rfl, .inl ⟨Tryz.sc_34, rfl⟩⟩, True.intro⟩, pl.1.1, pl.2.1, pl.2.2, K, 0, rfl, .inl ⟨rfl, by rw [hp], by have := of_decide_eq_true hb1; omega⟩, ⟨hq, hh.less (.cons _ (.cons _ (.cons _ (.cons _ (.refl _)))))⟩⟩
   ·intro ch w hX hf
    obtain ⟨hb1, rfl, hx⟩ := hX; replace hh := hh.more hx; clear hx
    refine then_p ?_
    have hne : (mostP t).1.length ≠ t.fr.length := by rw [← hp]; have := of_decide_eq_false hb1; omega
    exact pan_d (Ds := []) hf hh Tryz.en_66 (fun w' hh => kd66p B3 _ 0 w' (hh.at (i := 2) rfl)) fun w' w'' hh h2 => ⟨[.slice none 0 0, .int .i64 4], ⟨rfl, ⟨B3, 0, _, _, _, rfl, h2.at (i := 0) rfl, .inl ⟨Tryz.sc_34, rfl⟩⟩, True.intro⟩, [], none, 0, [], 4, rfl, .inr ⟨rfl, rfl, hne⟩, ⟨fun w2 _ i s h => (by cases h), (hh.turn (i := 2) rfl h2.ext (h2.at (i := 0) rfl)).less (List.nil_sublist _)⟩⟩
  ·intro ch w hX hf
   have hno := hX.2.1
   refine then_p ?_
   exact absurd (opnE_zero.2 ⟨hok, rfl⟩) hno
theorem k69 (t : TourD) (p : TPl) (l : List Int) (so : Option Addr) (co : Nat) (Bt B3 : Nat) (u : World) (hB : u.heap[Bt]? = some (.cells (tpC t p) 136 (0, 0))) (hn : t.fr.length ≤ 6) (hL : VwAt u so l) (hl : l.length ≤ 4000000000) (h3 : u.heap[B3]? = some (.cells #[.slice so l.length co] 28 (0, 0))) : Calls Tryz.prog 69 #[ptr Bt 0, ptr B3 0] u (Ret fun v w' => v = .bool (ordB t.fr.length l) ∧ Ext [] u w') := by
  refine calls_of Tryz.func69 rfl rfl (fun a hf => ?_)
  have hh := Hp.init u []
  refine sy_sq ?_
  refine o_v hf hh (yv_assign rfl) ?_; clear hf a; intro a hf
  refine o_end ?_
  refine sy_sq ?_
  refine o_v hf hh (yv_move rfl) ?_; clear hf a; intro a hf
  refine o_v hf hh (y_ld Tryz.sc_28 rfl) ?_; clear hf a; intro a hf
  refine o_call hf Tryz.en_38 rfl rfl rfl (k38 t p l so co Bt _ (hh.old hB) hn (hL.ext hh.ext) hl) ?_; clear hf a; intro v a w hR hf
  obtain ⟨rfl, hx⟩ := hR; replace hh := hh.more hx; clear hx
  refine o_v hf hh (yv_assign rfl) ?_; clear hf a; intro a hf
  refine o_end ?_
  refine sy_ret ?_
  refine ret_r hf rfl rfl ?_
  exact ⟨rfl, hh.ext⟩
set_option maxRecDepth 100000 in
theorem k22 (t : TourD) (p : TPl) (u : World) (hA : TouAt u t p) (hok : touB t = true) (od : List Nat) (so : Option Addr) (co : Nat) (hL : VwAt u so (ints od)) (hod : ordB t.fr.length (ints od) = true) (hor : ∀ v ∈ od, v < t.fr.length) (hll : od.length ≤ 6) : Calls Tryz.prog 22 #[.agg (touC t p), .slice so od.length co] u (Ret fun v w' => ∃ (oa : Option Addr) (cp : Nat) (X : List (Nat × Obj)), v = .tuple #[.slice oa od.length cp, swV (ovrV t (-1) (t.dawn, t.dawn) od), .int .i64 0] ∧ (∀ w2 : World, (∀ q ∈ X, w2.heap[q.1]? = some q.2) → SpAt w2 oa ((begL t od).map Prod.snd)) ∧ Hp u [] X w') := by
  refine calls_ofM Tryz.func22 rfl rfl (fun a hf => ?_)
  have hh := Hp.init u []
  have hO := touB_iff.1 hok
  have hn6 : t.fr.length ≤ 6 := hO.n6
  refine sy_sq ?_
  refine o_box hf hh ?_; clear hf hh a; intro B2 a w hf hh
  refine o_box hf hh ?_; clear hf hh a; intro B3 a w hf hh
  refine o_alloc hf hh Tryz.ze_22 ?_; clear hf hh a; intro B4 a w hf hh
  refine o_alloc hf hh Tryz.ze_49 ?_; clear hf hh a; intro B5 a w hf hh
  refine o_alloc hf hh Tryz.ze_34 ?_; clear hf hh a; intro B6 a w hf hh
  refine o_end ?_
  refine sy_sq ?_
  refine o_v hf hh (yv_makeFunc rfl rfl) ?_; clear hf a; intro a hf
  refine o_defer hf ?_; clear hf a; intro a hf
  refine o_end ?_
  refine sy_sq ?_
  refine o_v hf hh (y_lds Tryz.ag_25 rfl) ?_; clear hf a; intro a hf
  refine o_v hf hh (yv_makeFunc rfl rfl) ?_; clear hf a; intro a hf
  refine o_callX hf Tryz.en_30 rfl rfl rfl (k30 t p _ (hA.ext hh.ext) 69 #[ptr B3 0] (ordB t.fr.length (ints od)) Tryz.en_69 (fun _ Bc w2 e hc => k69 t p (ints od) so co Bc B3 w2 hc hn6 ((hL.ext hh.ext).ext e) (by rw [ints_len]; omega) (by rw [ints_len]; exact e.get (hh.at (i := 3) rfl)))) ?_ ?_
  ·clear hf a; intro v a w hR hf
   obtain ⟨he, Bc, rfl, hx⟩ := hR; replace hh := hh.join hx; clear hx
   refine o_v hf hh (yv_assign rfl) ?_; clear hf a; intro a hf
   refine o_end ?_
   refine sy_sq ?_
   refine o_v hf hh (yv_move rfl) ?_; clear hf a; intro a hf
   refine o_v hf hh (y_ld Tryz.sc_28 rfl) ?_; clear hf a; intro a hf
   refine o_call hf Tryz.en_70 rfl rfl rfl (k70 Bc so od.length co t p _ (hh.at (i := 0) rfl)) ?_; clear hf a; intro v a w hR hf
   obtain ⟨Ca, Cb, Cc, rfl, hx⟩ := hR; replace hh := hh.join hx; clear hx
   refine o_v hf hh (yv_move rfl) ?_; clear hf a; intro a hf
   refine o_v hf hh (yv_extract rfl rfl) ?_; clear hf a; intro a hf
   refine o_v hf hh (yv_extract rfl rfl) ?_; clear hf a; intro a hf
   refine o_v hf hh (yv_assign rfl) ?_; clear hf a; intro a hf
   refine o_v hf hh (yv_assign rfl) ?_; clear hf a; intro a hf
   refine o_end ?_
   refine sy_seq ?_
   refine sy_seq ?_
   replace hh : Hp u [] ((Cb, .cells #[.int .i64 (t.dawn, t.dawn).1, .int .i64 (t.dawn, t.dawn).2] 131) :: (Cc, .cells #[.slice so od.length co] 28) :: (Ca, .cells #[ptr Bc 0] 75) :: (Bc, .cells (tpC t p) 136) :: (B6, .cells #[.int .i64 0] 34) :: (B5, .cells #[.int .i64 0, .int .i64 0] 49) :: (B4, .cells #[.slice none 0 0] 22) :: (B3, .cells #[.slice so od.length co] 28) :: [(B2, .cells (touC t p) 25)]) w := hh
   have hW := own_walk (X := ((B4, Obj.cells #[.slice none 0 0] 22) :: (B5, Obj.cells #[.int .i64 0, .int .i64 0] 49) :: (B6, Obj.cells #[.int .i64 0] 34) :: [])) (Z := [(Bc, Obj.cells (tpC t p) 136), (Ca, Obj.cells #[ptr Bc 0] 75), (Cc, Obj.cells #[.slice so od.length co] 28)]) (is := [5, 4, 3]) (js := [2, 1, 0]) (R := fun _ => True) hh rfl rfl (by decide) trivial
   replace hh := hh.pick [6, 5, 4]
   replace hh : Hp u [] ((B4, .cells #[.slice none 0 0] 22) :: (B5, .cells #[.int .i64 0, .int .i64 0] 49) :: (B6, .cells #[.int .i64 0] 34) :: []) w := hh
   refine sy_ops ?_
   refine o_v hf hh (yv_move rfl) ?_; clear hf a; intro a hf
   refine o_end ?_
   refine sy_block ?_
   refine sy_rangeHE (I := fun k H => ∃ vv X, H = ((B4, .cells #[vv] 22) :: (B5, .cells #[.int .i64 0, .int .i64 0] 49) :: (B6, .cells #[.int .i64 0] 34) :: X) ∧ OwnSl 49 2 vv k (((begL t od).take k).flatMap fun q => swC q.2) X) (X := fun _ _ _ => False) hf hh Tryz.en_97 rfl (it97 t p Bc u hA hO od so co hL hor hll Ca Cb Cc) (fun x hx => .inr (by rw [List.mem_singleton.1 hx]; exact hW.s)) rfl (by intro x hx; obtain ⟨y, _, rfl⟩ := List.mem_map.1 hx; rfl) ?_ ?_ ?_ ?_ ?_ ?_ ?_
   · exact ⟨_, [], rfl, OwnSl.nil _ _⟩
   · intro N1 w1 e1 g1
     exact hW.yield (e1.mono (by simp)) g1
   ·rintro k x fn D l H w a tm hx ⟨vv, X, rfl, hOw2⟩ hv hh hf
    obtain ⟨q, hq, rfl⟩ : ∃ q, (begL t od)[k]? = some q ∧ x = stA q := by
      rw [List.getElem?_map] at hx
      cases e : (begL t od)[k]? with
      | none => rw [e] at hx; cases hx
      | some y => rw [e] at hx; cases hx; exact ⟨y, rfl, rfl⟩
    have hkl : k < od.length := by
      have h1 := len_ofW hq
      have h2 : (begL t od).length = od.length := stp_len t od _ _
      omega
    refine sy_ops ?_
    refine o_alloc hf hh Tryz.ze_131 ?_; clear hf hh a; intro B11 a w hf hh
    refine o_store hf hh Tryz.sz_131 fun w hh => ?_
    refine ops_end ?_
    refine then_n (Go.Sy.begun (i := 1) hh rfl fun w hh => ?_)
    refine sy_block ?_
    refine sy_ops ?_
    refine o_v hf hh (y_ld Tryz.sc_22 rfl) ?_; clear hf a; intro a hf
    refine o_v hf hh (y_lds Tryz.ag_131 rfl) ?_; clear hf a; intro a hf
    refine ops_buildSl hf hh Tryz.bl_22_1 rfl rfl (.inl rfl) rfl ?_; clear hf hh; clear a; intro B27 a w hf hh
    refine ops_append (v := vv) (e := 49) (size := 2) (xs := ((begL t od).take k).flatMap fun q => swC q.2) (news := swC q.2) (X := X) (m := k) (q := 1) hf (hh.perm (.cons _ (List.perm_append_comm (l₁ := [_, _, _, _, _, _]) (l₂ := X)))) Tryz.eb_22 rfl rfl hOw2 rfl rfl rfl (by simp only [maxLen]; omega) (by omega) (.inl rfl) rfl ?_; clear hf hh a; intro v28 X28 a w hO28 hf hh
    replace hh := hh.perm (List.perm_append_comm (l₁ := X28) (l₂ := [_, _, _, _, _, _]))
    simp only [List.cons_append, List.nil_append] at hh
    replace hO28 : OwnSl 49 2 v28 (k + 1) (((begL t od).take (k + 1)).flatMap fun q => swC q.2) X28 := by
      rw [take_snoc hq, List.flatMap_append]
      simpa using hO28
    obtain ⟨oa28, cp28, rfl⟩ := own_valW hO28
    refine o_store hf hh Tryz.sz_22 fun w hh => ?_
    refine ops_end ?_
    refine blk_n ?_
    exact ⟨_, ⟨.slice oa28 (k + 1) cp28, X28, rfl, hO28⟩, hh.less (.cons _ (.refl _))⟩
   ·rintro D H N2 a w ⟨vv, X, rfl, hOw2⟩ hOw hsN hf hh
    have hbl : (begL t od).length = od.length := stp_len t od _ _
    rw [List.length_map, List.take_length, hbl] at hOw2
    obtain ⟨oa, cp, rfl⟩ := own_valW hOw2
    obtain ⟨mm, hmm, hbm⟩ := hOw.m
    subst hmm
    have hDb : Cb ≠ D := fun e => by
      subst e
      have h1 := hh.at (i := 0) rfl
      rw [hbm] at h1; cases h1
    replace hh := hh.addNew hbm hOw.s (fun h => by
      rcases List.mem_cons.1 h with h | h
      · exact hDb h
      · exact hOw.b (hsN _ h))
    refine blk_n ?_
    refine then_n ?_
    refine sy_seq ?_
    refine sy_tree1 (.q 0 0 (.p 1 (.e1 2 (.e1 3 (.e1 4 (.e1 5 (.fin))))))) [3, 4, 5] Tryz.follows (by kernel_rfl) hh (fun w hh => ?_)
    refine mc_q rfl rfl hh hf (y_ld Tryz.sc_22 rfl) (.inl rfl) rfl rfl ?_; clear hf a; intro a hf
    refine mc_p rfl   hf (yv_move rfl) (.inl rfl) rfl rfl ?_; clear hf a; intro a hf
    refine mc_e rfl fun Q1 => ?_
    refine o_call hf Tryz.en_98 rfl rfl rfl (k98 Cb (ovrV t (-1) (t.dawn, t.dawn) od) w (hh.at (i := 0) rfl)) ?_; clear hf a; intro v a w hR hf
    obtain ⟨rfl, hx⟩ := hR; replace hh := hh.more hx; clear hx
    refine ops_end ?_
    refine then_n ⟨⟨fun _ _ => hh, trivial⟩, ?_⟩
    refine mc_e rfl fun Q1 => ?_
    refine o_store hf hh Tryz.sz_22 fun w hh => ?_
    refine ops_end ?_
    refine then_n ⟨⟨fun h => Bool.noConfusion (show true = false from h), trivial⟩, ?_⟩
    refine mc_e rfl fun Q1 => ?_
    refine o_store hf hh Tryz.sz_49 fun w hh => ?_
    refine ops_end ?_
    refine then_n ⟨⟨fun h => Bool.noConfusion (show true = false from h), trivial⟩, ?_⟩
    refine mc_e rfl fun Q1 => ?_
    refine o_store hf hh Tryz.sz_34 fun w hh => ?_
    refine ops_end ?_
    refine then_n ⟨⟨fun h => Bool.noConfusion (show true = false from h), trivial⟩, ?_⟩
    refine mc_end ?_
    refine then_n ?_
    refine sy_ret ?_
    obtain ⟨oa', cp', e', hS⟩ := own_sp (l := (begL t od).map Prod.snd) (by rw [List.flatMap_map]; exact hOw2)
    rw [List.length_map, hbl] at e'
    cases e'
    replace hh := hh.less (.cons _ (.refl _))
    exact ret_d (Ds := [D]) hf hh Tryz.en_68 (fun w' => kd68r B6 w') fun w' hh => ⟨[.slice oa od.length cp, swV (ovrV t (-1) (t.dawn, t.dawn) od), .int .i64 0], ⟨⟨B4, 0, _, _, _, rfl, hh.at (i := 0) rfl, .inl ⟨Tryz.sc_22, rfl⟩⟩, ⟨B5, 0, _, _, _, rfl, hh.at (i := 1) rfl, .inr ⟨2, _, Tryz.ag_49, rfl, rfl⟩⟩, ⟨B6, 0, _, _, _, rfl, hh.at (i := 2) rfl, .inl ⟨Tryz.sc_34, rfl⟩⟩, True.intro⟩, oa, cp, X, rfl, hS, hh.less (.cons _ (.cons _ (.cons _ (.refl _))))⟩
   ·rintro k c D H N2 a w hX hOw hf hh
    exact hX.elim
   · rintro N v v' b h hb e; exact h.one e hb
   · rintro N v v' b h hb e; exact h.one e hb
  ·intro ch w hX hf
   have hno := hX.2.1
   refine then_p ?_
   exact absurd (opnE_zero.2 ⟨hok, hod⟩) hno
end Go.Proofs.YtccpgpnekoncoaaGreat

namespace Go.Proofs.YtccpgpnekoncoaaGreat
open Go Go.Sy Go.WalM Go.ChaM
def sgB (m : Int) (s : SiD) : Bool := inC s.fr 0 m && (inC s.to 0 m && (!decide (s.fr = s.to) && (spB s.el s.eh && spB s.nl s.nh)))
theorem sgB_eq (n : Int) (s : SiD) : siB n s = sgB (n - 1) s := siB_eq n s
theorem chB_n {c : ChD} (h : inC c.n 1 8 = true) : IntKind.i64.wrap (c.n - 1) = c.n - 1 := by
  unfold inC at h
  simp only [Bool.and_eq_true, decide_eq_true_eq] at h
  exact wrap_i64 (by omega) (by omega)
theorem chB_bad {c : ChD} {m : Int} {i : Nat} {s : SiD} (hm : m = IntKind.i64.wrap (c.n - 1)) (hs : c.si[i]? = some s) (h : sgB m s = false) : chB c = false := by
  rw [chB_eq]
  cases hn : inC c.n 1 8 with
  | false => rfl
  | true =>
    rw [hm, chB_n hn, ← sgB_eq] at h
    have : c.si.all (siB c.n) = false := by
      rw [List.all_eq_false]
      exact ⟨s, List.mem_of_getElem? hs, by rw [h]; simp⟩
    rw [this, Bool.and_false, Bool.and_false]
theorem chB_end {c : ChD} {m : Int} (hm : m = IntKind.i64.wrap (c.n - 1)) (h : ∀ s ∈ c.si, sgB m s = true) : chB c = (inC c.n 1 8 && decide (c.si.length ≤ 10)) := by
  rw [chB_eq]
  cases hn : inC c.n 1 8 with
  | false => rfl
  | true =>
    have : c.si.all (siB c.n) = true := by
      rw [List.all_eq_true]
      intro s hs
      rw [sgB_eq, ← chB_n hn, ← hm]
      exact h s hs
    rw [this, Bool.and_true]
theorem all_takeC {c : ChD} {m : Int} {i : Nat} {s : SiD} (h : ∀ s ∈ c.si.take i, sgB m s = true) (hs : c.si[i]? = some s) (hy : sgB m s = true) : ∀ s ∈ c.si.take (i + 1), sgB m s = true := fun x hx => by
  rw [List.take_add_one, hs, List.mem_append] at hx
  rcases hx with hx | hx
  · exact h x hx
  · have e : x = s := by simpa using hx
    rw [e]; exact hy
theorem k57 (n l h : Int) (w : World) : Calls Tryz.prog 57 #[.int .i64 n, .int .i64 l, .int .i64 h] w (Ret fun v w' => v = .bool (inC n l h) ∧ Ext [] w w') := by
  refine calls_of Tryz.func57 rfl rfl (fun a hf => ?_)
  have hh := Hp.init w []
  unfold inC
  refine sy_sq ?_
  refine o_v hf hh (yv_assign rfl) ?_; clear hf a; intro a hf
  refine o_end ?_
  refine sy_sq ?_
  refine o_v hf hh (yv_move rfl) ?_; clear hf a; intro a hf
  refine o_v hf hh (yv_move rfl) ?_; clear hf a; intro a hf
  refine o_v hf hh (yv_bin rfl rfl rfl) ?_; clear hf a; intro a hf
  refine o_v hf hh (yv_move rfl) ?_; clear hf a; intro a hf
  refine guard_split hf (t := 10) rfl (fun hg2 => ?_) (fun hg2 => ?_)
  ·have hG2 := hg2; try simp only [gS] at hG2
   refine o_v hf hh (yv_move rfl) ?_; clear hf a; intro a hf
   refine o_v hf hh (yv_move rfl) ?_; clear hf a; intro a hf
   refine o_v hf hh (yv_bin rfl rfl rfl) ?_; clear hf a; intro a hf
   refine o_v hf hh (y_pt rfl rfl) ?_; clear hf a; intro a hf
   refine o_v hf hh (yv_assign rfl) ?_; clear hf a; intro a hf
   refine o_end ?_
   refine sy_ret ?_
   refine ret_r hf rfl rfl ?_
   exact ⟨by simp [tup, *], hh.ext⟩
  ·have hG2 := hg2; try simp only [gS] at hG2
   refine o_off hf ?_; clear hf a; intro a hf
   refine o_off hf ?_; clear hf a; intro a hf
   refine o_off hf ?_; clear hf a; intro a hf
   refine o_v hf hh (y_pf rfl rfl) ?_; clear hf a; intro a hf
   refine o_v hf hh (yv_assign rfl) ?_; clear hf a; intro a hf
   refine o_end ?_
   refine sy_ret ?_
   refine ret_r hf rfl rfl ?_
   exact ⟨by simp [tup, *], hh.ext⟩
theorem k58 (lo hi : Int) (w : World) : Calls Tryz.prog 58 #[.agg #[.int .i64 lo, .int .i64 hi]] w (Ret fun v w' => v = .bool (spB lo hi) ∧ Ext [] w w') := by
  refine calls_of Tryz.func58 rfl rfl (fun a hf => ?_)
  have hh := Hp.init w []
  have e0 : spB lo hi = (inC lo (-1073741824) hi && decide (hi ≤ 1073741824)) := rfl
  unfold inC at e0
  rw [e0]; clear e0
  refine sy_sq ?_
  refine o_box hf hh ?_; clear hf hh a; intro B1 a w hf hh
  refine o_v hf hh (yv_assign rfl) ?_; clear hf a; intro a hf
  refine o_end ?_
  refine sy_sq ?_
  refine o_v hf hh (yv_fieldAddr Tryz.fo_49_0 rfl) ?_; clear hf a; intro a hf
  refine o_v hf hh (y_ld Tryz.sc_3 rfl) ?_; clear hf a; intro a hf
  refine o_v hf hh (yv_bin rfl rfl rfl) ?_; clear hf a; intro a hf
  refine o_v hf hh (yv_move rfl) ?_; clear hf a; intro a hf
  refine guard_split hf (t := 6) rfl (fun hg2 => ?_) (fun hg2 => ?_)
  ·have hG2 := hg2; try simp only [gS] at hG2
   refine o_v hf hh (yv_fieldAddr Tryz.fo_49_0 rfl) ?_; clear hf a; intro a hf
   refine o_v hf hh (y_ld Tryz.sc_3 rfl) ?_; clear hf a; intro a hf
   refine o_v hf hh (yv_fieldAddr Tryz.fo_49_1 rfl) ?_; clear hf a; intro a hf
   refine o_v hf hh (y_ld Tryz.sc_3 rfl) ?_; clear hf a; intro a hf
   refine o_v hf hh (yv_bin rfl rfl rfl) ?_; clear hf a; intro a hf
   refine o_v hf hh (y_pt rfl rfl) ?_; clear hf a; intro a hf
   refine o_v hf hh (yv_move rfl) ?_; clear hf a; intro a hf
   refine guard_split hf (t := 13) rfl (fun hg4 => ?_) (fun hg4 => ?_)
   ·have hG4 := hg4; try simp only [gS] at hG4
    refine o_v hf hh (yv_fieldAddr Tryz.fo_49_1 rfl) ?_; clear hf a; intro a hf
    refine o_v hf hh (y_ld Tryz.sc_3 rfl) ?_; clear hf a; intro a hf
    refine o_v hf hh (yv_bin rfl rfl rfl) ?_; clear hf a; intro a hf
    refine o_v hf hh (y_pt rfl rfl) ?_; clear hf a; intro a hf
    refine o_v hf hh (yv_assign rfl) ?_; clear hf a; intro a hf
    refine o_end ?_
    refine sy_ret ?_
    refine ret_r hf rfl rfl ?_
    refine ⟨congrArg Value.bool ?_, hh.ext⟩
    clear hf hh
    first
      | (simp_all; done)
      | (simp only [*, Bool.false_and, Bool.and_false, Bool.true_and, Bool.and_true, Bool.not_true, Bool.not_false]; done)
      | (rw [Bool.eq_iff_iff]; simp_all <;> omega)
   ·have hG4 := hg4; try simp only [gS] at hG4
    refine o_off hf ?_; clear hf a; intro a hf
    refine o_off hf ?_; clear hf a; intro a hf
    refine o_off hf ?_; clear hf a; intro a hf
    refine o_v hf hh (y_pf rfl rfl) ?_; clear hf a; intro a hf
    refine o_v hf hh (yv_assign rfl) ?_; clear hf a; intro a hf
    refine o_end ?_
    refine sy_ret ?_
    refine ret_r hf rfl rfl ?_
    refine ⟨congrArg Value.bool ?_, hh.ext⟩
    clear hf hh
    first
      | (simp_all; done)
      | (simp only [*, Bool.false_and, Bool.and_false, Bool.true_and, Bool.and_true, Bool.not_true, Bool.not_false]; done)
      | (rw [Bool.eq_iff_iff]; simp_all <;> omega)
  ·have hG2 := hg2; try simp only [gS] at hG2
   refine o_off hf ?_; clear hf a; intro a hf
   refine o_off hf ?_; clear hf a; intro a hf
   refine o_off hf ?_; clear hf a; intro a hf
   refine o_off hf ?_; clear hf a; intro a hf
   refine o_off hf ?_; clear hf a; intro a hf
   refine o_v hf hh (y_pf rfl rfl) ?_; clear hf a; intro a hf
   refine o_v hf hh (yv_move rfl) ?_; clear hf a; intro a hf
   refine o_off hf ?_; clear hf a; intro a hf
   refine o_off hf ?_; clear hf a; intro a hf
   refine o_off hf ?_; clear hf a; intro a hf
   refine o_v hf hh (y_pf rfl rfl) ?_; clear hf a; intro a hf
   refine o_v hf hh (yv_assign rfl) ?_; clear hf a; intro a hf
   refine o_end ?_
   refine sy_ret ?_
   refine ret_r hf rfl rfl ?_
   refine ⟨congrArg Value.bool ?_, hh.ext⟩
   clear hf hh
   first
     | (simp_all; done)
     | (simp only [*, Bool.false_and, Bool.and_false, Bool.true_and, Bool.and_true, Bool.not_true, Bool.not_false]; done)
     | (rw [Bool.eq_iff_iff]; simp_all <;> omega)
set_option maxRecDepth 100000 in
theorem k17 (c : ChD) (sa : Option Addr) (cp : Nat) (u : World) (hA : ChAt u c sa) : Calls Tryz.prog 17 #[.agg (chC c sa cp)] u (Ret fun v w' => v = .bool (chB c) ∧ Ext [] u w') := by
  refine calls_of Tryz.func17 rfl rfl (fun a hf => ?_)
  have hh := Hp.init u []
  have hl := hA.len
  obtain ⟨m, hm⟩ : ∃ m, m = IntKind.i64.wrap (c.n - 1) := ⟨_, rfl⟩
  refine sy_sq ?_
  refine o_box hf hh ?_; clear hf hh a; intro B1 a w hf hh
  refine o_v hf hh (yv_assign rfl) ?_; clear hf a; intro a hf
  refine o_end ?_
  refine sy_seq ?_
  refine sy_sq ?_
  refine o_v hf hh (yv_assign rfl) ?_; clear hf a; intro a hf
  refine o_end ?_
  refine sy_block ?_
  refine sy_loopH (σ := Nat) [2, 3, 4, 5, 6, 7, 8, 9, 10, 11, 12, 13, 14, 15, 16, 17, 18, 19, 20, 21, 22, 23, 24, 25, 26, 27, 28, 29, 30, 31, 32, 33, 34, 35, 36, 37, 38, 39, 40, 41, 42, 43, 44, 45, 46, 47, 48, 49, 50, 51] (fun i => [(3, .int .i64 (i : Nat))]) (fun i => fun w' => i ≤ c.si.length ∧ (∀ s ∈ c.si.take i, sgB m s = true) ∧ Hp u [] [(B1, .cells (chC c sa cp) 57)] w') (fun i => c.si.length - i) (0) hf ?_ ?_ ?_
  · repeat' (first | exact True.intro | refine And.intro rfl ?_)
  · exact ⟨Nat.zero_le _, (fun x hx => by simp at hx), hh⟩
  ·rintro i a w ⟨hi, hq, hh⟩ hf
   refine sy_seq ?_
   refine sy_sq ?_
   refine o_v hf hh (yv_move rfl) ?_; clear hf a; intro a hf
   refine o_v hf hh (yv_fieldAddr Tryz.fo_57_1 rfl) ?_; clear hf a; intro a hf
   refine o_v hf hh (y_ld Tryz.sc_55 rfl) ?_; clear hf a; intro a hf
   refine o_v hf hh (yv_len Tryz.se_55 rfl) ?_; clear hf a; intro a hf
   refine o_v hf hh (yv_bin rfl rfl rfl) ?_; clear hf a; intro a hf
   refine o_end ?_
   refine sy_cond hf rfl (fun hg2 => ?_) (fun hg2 => ?_)
   ·have hG2 := hg2; try simp only [gS] at hG2
    refine sy_skip ?_
    refine then_n ?_
    refine sy_seq ?_
    refine sy_block ?_
    refine sy_seq ?_
    obtain ⟨s, hs⟩ := ex_of (l := c.si) (i := i) (by omega)
    obtain ⟨blk, off, cc, T, fr, esa, hb2, hc⟩ := hA.at_ i s hs
    refine sy_ops ?_
    refine o_v hf hh (yv_fieldAddr Tryz.fo_57_1 rfl) ?_; clear hf a; intro a hf
    refine o_v hf hh (y_ld Tryz.sc_55 rfl) ?_; clear hf a; intro a hf
    refine o_v hf hh (yv_move rfl) ?_; clear hf a; intro a hf
    refine o_v hf hh (y_ix Tryz.se_55 (congrArg (fun z => some (Value.slice z c.si.length cp)) esa) rfl) ?_; clear hf a; intro a hf
    refine o_v hf hh (y_lds Tryz.ag_106 rfl) ?_; clear hf a; intro a hf
    refine o_alloc hf hh Tryz.ze_106 ?_; clear hf hh a; intro B4 a w hf hh
    refine o_store hf hh Tryz.sz_106 fun w hh => ?_
    refine o_end ?_
    refine sy_sq ?_
    refine o_v hf hh (yv_fieldAddr Tryz.fo_106_0 rfl) ?_; clear hf a; intro a hf
    refine o_v hf hh (y_ld Tryz.sc_3 rfl) ?_; clear hf a; intro a hf
    refine o_v hf hh (yv_fieldAddr Tryz.fo_57_0 rfl) ?_; clear hf a; intro a hf
    refine o_v hf hh (y_ld Tryz.sc_3 rfl) ?_; clear hf a; intro a hf
    refine o_v hf hh (yv_cast (yv_bin rfl rfl rfl) (show Value.int .i64 (IntKind.i64.wrap (c.n - 1)) = Value.int .i64 m by rw [hm])) ?_; clear hf a; intro a hf
    refine o_call hf Tryz.en_57 rfl rfl rfl (k57 _ _ _ _) ?_; clear hf a; intro v a w hR hf
    obtain ⟨rfl, hx⟩ := hR; replace hh := hh.more hx; clear hx
    refine o_v hf hh (yv_not rfl) ?_; clear hf a; intro a hf
    refine o_v hf hh (yv_move rfl) ?_; clear hf a; intro a hf
    refine guard_split hf (t := 24) rfl (fun hg6 => ?_) (fun hg6 => ?_)
    ·have hG6 := hg6; try simp only [gS] at hG6
     refine o_off hf ?_; clear hf a; intro a hf
     refine o_off hf ?_; clear hf a; intro a hf
     refine o_off hf ?_; clear hf a; intro a hf
     refine o_off hf ?_; clear hf a; intro a hf
     refine o_off hf ?_; clear hf a; intro a hf
     refine o_off hf ?_; clear hf a; intro a hf
     refine o_off hf ?_; clear hf a; intro a hf
     refine o_v hf hh (y_pt rfl rfl) ?_; clear hf a; intro a hf
     refine o_v hf hh (yv_move rfl) ?_; clear hf a; intro a hf
     refine o_off hf ?_; clear hf a; intro a hf
     refine o_off hf ?_; clear hf a; intro a hf
     refine o_off hf ?_; clear hf a; intro a hf
     refine o_off hf ?_; clear hf a; intro a hf
     refine o_off hf ?_; clear hf a; intro a hf
     refine o_v hf hh (y_pt rfl rfl) ?_; clear hf a; intro a hf
     refine o_v hf hh (yv_move rfl) ?_; clear hf a; intro a hf
     refine o_off hf ?_; clear hf a; intro a hf
     refine o_off hf ?_; clear hf a; intro a hf
     refine o_off hf ?_; clear hf a; intro a hf
     refine o_off hf ?_; clear hf a; intro a hf
     refine o_v hf hh (y_pt rfl rfl) ?_; clear hf a; intro a hf
     refine o_v hf hh (yv_move rfl) ?_; clear hf a; intro a hf
     refine o_off hf ?_; clear hf a; intro a hf
     refine o_off hf ?_; clear hf a; intro a hf
     refine o_off hf ?_; clear hf a; intro a hf
     refine o_off hf ?_; clear hf a; intro a hf
     refine o_v hf hh (y_pt rfl rfl) ?_; clear hf a; intro a hf
     refine o_end ?_
     refine c_t hf ?_
     refine sy_sq ?_
     refine o_v hf hh (yv_assign rfl) ?_; clear hf a; intro a hf
     refine o_end ?_
     refine sy_ret ?_
     refine blk_r ?_
     refine then_r ?_
     refine then_r ?_
     refine blk_r ?_
     refine then_r ?_
     refine ret_r hf rfl rfl ?_
     first
       | (have hy : sgB m s = false := by clear hf hh; unfold sgB; simp_all
          exact ⟨congrArg Value.bool (chB_bad hm hs hy).symm, hh.ext⟩)
       | (have ev := chB_end hm (fun s hs => hq s (by rw [List.take_of_length_le (by omega)]; exact hs))
          refine ⟨congrArg Value.bool ?_, hh.ext⟩
          rw [ev]
          clear hf hh ev
          first
            | (simp_all; done)
            | (rw [Bool.eq_iff_iff]; simp_all <;> omega))
    ·have hG6 := hg6; try simp only [gS] at hG6
     refine o_v hf hh (yv_fieldAddr Tryz.fo_106_1 rfl) ?_; clear hf a; intro a hf
     refine o_v hf hh (y_ld Tryz.sc_3 rfl) ?_; clear hf a; intro a hf
     refine o_v hf hh (yv_fieldAddr Tryz.fo_57_0 rfl) ?_; clear hf a; intro a hf
     refine o_v hf hh (y_ld Tryz.sc_3 rfl) ?_; clear hf a; intro a hf
     refine o_v hf hh (yv_cast (yv_bin rfl rfl rfl) (show Value.int .i64 (IntKind.i64.wrap (c.n - 1)) = Value.int .i64 m by rw [hm])) ?_; clear hf a; intro a hf
     refine o_call hf Tryz.en_57 rfl rfl rfl (k57 _ _ _ _) ?_; clear hf a; intro v a w hR hf
     obtain ⟨rfl, hx⟩ := hR; replace hh := hh.more hx; clear hx
     refine o_v hf hh (yv_not rfl) ?_; clear hf a; intro a hf
     refine o_v hf hh (y_pf rfl rfl) ?_; clear hf a; intro a hf
     refine o_v hf hh (yv_move rfl) ?_; clear hf a; intro a hf
     refine guard_split hf (t := 33) rfl (fun hg9 => ?_) (fun hg9 => ?_)
     ·have hG9 := hg9; try simp only [gS] at hG9
      refine o_off hf ?_; clear hf a; intro a hf
      refine o_off hf ?_; clear hf a; intro a hf
      refine o_off hf ?_; clear hf a; intro a hf
      refine o_off hf ?_; clear hf a; intro a hf
      refine o_off hf ?_; clear hf a; intro a hf
      refine o_v hf hh (y_pt rfl rfl) ?_; clear hf a; intro a hf
      refine o_v hf hh (yv_move rfl) ?_; clear hf a; intro a hf
      refine o_off hf ?_; clear hf a; intro a hf
      refine o_off hf ?_; clear hf a; intro a hf
      refine o_off hf ?_; clear hf a; intro a hf
      refine o_off hf ?_; clear hf a; intro a hf
      refine o_v hf hh (y_pt rfl rfl) ?_; clear hf a; intro a hf
      refine o_v hf hh (yv_move rfl) ?_; clear hf a; intro a hf
      refine o_off hf ?_; clear hf a; intro a hf
      refine o_off hf ?_; clear hf a; intro a hf
      refine o_off hf ?_; clear hf a; intro a hf
      refine o_off hf ?_; clear hf a; intro a hf
      refine o_v hf hh (y_pt rfl rfl) ?_; clear hf a; intro a hf
      refine o_end ?_
      refine c_t hf ?_
      refine sy_sq ?_
      refine o_v hf hh (yv_assign rfl) ?_; clear hf a; intro a hf
      refine o_end ?_
      refine sy_ret ?_
      refine blk_r ?_
      refine then_r ?_
      refine then_r ?_
      refine blk_r ?_
      refine then_r ?_
      refine ret_r hf rfl rfl ?_
      first
        | (have hy : sgB m s = false := by clear hf hh; unfold sgB; simp_all
           exact ⟨congrArg Value.bool (chB_bad hm hs hy).symm, hh.ext⟩)
        | (have ev := chB_end hm (fun s hs => hq s (by rw [List.take_of_length_le (by omega)]; exact hs))
           refine ⟨congrArg Value.bool ?_, hh.ext⟩
           rw [ev]
           clear hf hh ev
           first
             | (simp_all; done)
             | (rw [Bool.eq_iff_iff]; simp_all <;> omega))
     ·have hG9 := hg9; try simp only [gS] at hG9
      refine o_v hf hh (yv_fieldAddr Tryz.fo_106_0 rfl) ?_; clear hf a; intro a hf
      refine o_v hf hh (y_ld Tryz.sc_3 rfl) ?_; clear hf a; intro a hf
      refine o_v hf hh (yv_fieldAddr Tryz.fo_106_1 rfl) ?_; clear hf a; intro a hf
      refine o_v hf hh (y_ld Tryz.sc_3 rfl) ?_; clear hf a; intro a hf
      refine o_v hf hh (yv_bin rfl rfl rfl) ?_; clear hf a; intro a hf
      refine o_v hf hh (y_pf rfl rfl) ?_; clear hf a; intro a hf
      refine o_v hf hh (yv_move rfl) ?_; clear hf a; intro a hf
      refine guard_split hf (t := 40) rfl (fun hg11 => ?_) (fun hg11 => ?_)
      ·have hG11 := hg11; try simp only [gS] at hG11
       refine o_off hf ?_; clear hf a; intro a hf
       refine o_off hf ?_; clear hf a; intro a hf
       refine o_off hf ?_; clear hf a; intro a hf
       refine o_off hf ?_; clear hf a; intro a hf
       refine o_v hf hh (y_pt rfl rfl) ?_; clear hf a; intro a hf
       refine o_v hf hh (yv_move rfl) ?_; clear hf a; intro a hf
       refine o_off hf ?_; clear hf a; intro a hf
       refine o_off hf ?_; clear hf a; intro a hf
       refine o_off hf ?_; clear hf a; intro a hf
       refine o_off hf ?_; clear hf a; intro a hf
       refine o_v hf hh (y_pt rfl rfl) ?_; clear hf a; intro a hf
       refine o_end ?_
       refine c_t hf ?_
       refine sy_sq ?_
       refine o_v hf hh (yv_assign rfl) ?_; clear hf a; intro a hf
       refine o_end ?_
       refine sy_ret ?_
       refine blk_r ?_
       refine then_r ?_
       refine then_r ?_
       refine blk_r ?_
       refine then_r ?_
       refine ret_r hf rfl rfl ?_
       first
         | (have hy : sgB m s = false := by clear hf hh; unfold sgB; simp_all
            exact ⟨congrArg Value.bool (chB_bad hm hs hy).symm, hh.ext⟩)
         | (have ev := chB_end hm (fun s hs => hq s (by rw [List.take_of_length_le (by omega)]; exact hs))
            refine ⟨congrArg Value.bool ?_, hh.ext⟩
            rw [ev]
            clear hf hh ev
            first
              | (simp_all; done)
              | (rw [Bool.eq_iff_iff]; simp_all <;> omega))
      ·have hG11 := hg11; try simp only [gS] at hG11
       refine o_v hf hh (yv_fieldAddr Tryz.fo_106_2 rfl) ?_; clear hf a; intro a hf
       refine o_v hf hh (y_lds Tryz.ag_49 rfl) ?_; clear hf a; intro a hf
       refine o_call hf Tryz.en_58 rfl rfl rfl (k58 _ _ _) ?_; clear hf a; intro v a w hR hf
       obtain ⟨rfl, hx⟩ := hR; replace hh := hh.more hx; clear hx
       refine o_v hf hh (yv_not rfl) ?_; clear hf a; intro a hf
       refine o_v hf hh (y_pf rfl rfl) ?_; clear hf a; intro a hf
       refine o_v hf hh (yv_move rfl) ?_; clear hf a; intro a hf
       refine guard_split hf (t := 46) rfl (fun hg13 => ?_) (fun hg13 => ?_)
       ·have hG13 := hg13; try simp only [gS] at hG13
        refine o_off hf ?_; clear hf a; intro a hf
        refine o_off hf ?_; clear hf a; intro a hf
        refine o_off hf ?_; clear hf a; intro a hf
        refine o_off hf ?_; clear hf a; intro a hf
        refine o_v hf hh (y_pt rfl rfl) ?_; clear hf a; intro a hf
        refine o_end ?_
        refine c_t hf ?_
        refine sy_sq ?_
        refine o_v hf hh (yv_assign rfl) ?_; clear hf a; intro a hf
        refine o_end ?_
        refine sy_ret ?_
        refine blk_r ?_
        refine then_r ?_
        refine then_r ?_
        refine blk_r ?_
        refine then_r ?_
        refine ret_r hf rfl rfl ?_
        first
          | (have hy : sgB m s = false := by clear hf hh; unfold sgB; simp_all
             exact ⟨congrArg Value.bool (chB_bad hm hs hy).symm, hh.ext⟩)
          | (have ev := chB_end hm (fun s hs => hq s (by rw [List.take_of_length_le (by omega)]; exact hs))
             refine ⟨congrArg Value.bool ?_, hh.ext⟩
             rw [ev]
             clear hf hh ev
             first
               | (simp_all; done)
               | (rw [Bool.eq_iff_iff]; simp_all <;> omega))
       ·have hG13 := hg13; try simp only [gS] at hG13
        refine o_v hf hh (yv_fieldAddr Tryz.fo_106_3 rfl) ?_; clear hf a; intro a hf
        refine o_v hf hh (y_lds Tryz.ag_49 rfl) ?_; clear hf a; intro a hf
        refine o_call hf Tryz.en_58 rfl rfl rfl (k58 _ _ _) ?_; clear hf a; intro v a w hR hf
        obtain ⟨rfl, hx⟩ := hR; replace hh := hh.more hx; clear hx
        refine o_v hf hh (yv_not rfl) ?_; clear hf a; intro a hf
        refine o_v hf hh (y_pf rfl rfl) ?_; clear hf a; intro a hf
        refine o_end ?_
        refine sy_cond hf rfl (fun hg15 => ?_) (fun hg15 => ?_)
        ·have hG15 := hg15; try simp only [gS] at hG15
         refine sy_sq ?_
         refine o_v hf hh (yv_assign rfl) ?_; clear hf a; intro a hf
         refine o_end ?_
         refine sy_ret ?_
         refine blk_r ?_
         refine then_r ?_
         refine then_r ?_
         refine blk_r ?_
         refine then_r ?_
         refine ret_r hf rfl rfl ?_
         first
           | (have hy : sgB m s = false := by clear hf hh; unfold sgB; simp_all
              exact ⟨congrArg Value.bool (chB_bad hm hs hy).symm, hh.ext⟩)
           | (have ev := chB_end hm (fun s hs => hq s (by rw [List.take_of_length_le (by omega)]; exact hs))
              refine ⟨congrArg Value.bool ?_, hh.ext⟩
              rw [ev]
              clear hf hh ev
              first
                | (simp_all; done)
                | (rw [Bool.eq_iff_iff]; simp_all <;> omega))
        ·have hG15 := hg15; try simp only [gS] at hG15
         refine sy_skip ?_
         refine blk_n ?_
         refine then_n ?_
         refine sy_ops ?_
         refine o_v hf hh (yv_move rfl) ?_; clear hf a; intro a hf
         refine o_v hf hh (y_add rfl rfl) ?_; clear hf a; intro a hf
         refine o_v hf hh (yv_assign rfl) ?_; clear hf a; intro a hf
         refine ops_end ?_
         refine then_n ?_
         have hy : sgB m s = true := by clear hf hh; unfold sgB; simp_all
         exact ⟨i + 1, ⟨⟨by omega, all_takeC hq hs hy, hh.less (.cons _ (.refl _))⟩, (hf.head (by repeat' (first | exact True.intro | refine And.intro rfl ?_)) (Keep.cons rfl (Keep.cons rfl (Keep.cons rfl (Keep.cons rfl (Keep.cons rfl (Keep.cons rfl (Keep.cons rfl (Keep.cons rfl (Keep.cons rfl (Keep.cons rfl (Keep.cons rfl (Keep.cons rfl (Keep.cons rfl (Keep.cons rfl (Keep.cons rfl (Keep.cons rfl (Keep.cons rfl (Keep.cons rfl (Keep.cons rfl (Keep.cons rfl (Keep.cons rfl (Keep.cons rfl (Keep.cons rfl (Keep.cons rfl (Keep.cons rfl (Keep.cons rfl (Keep.cons rfl (Keep.cons rfl (Keep.cons rfl (Keep.cons rfl (Keep.cons rfl (Keep.cons rfl (Keep.cons rfl (Keep.cons rfl (Keep.cons rfl (Keep.cons rfl (Keep.cons rfl (Keep.cons rfl (Keep.cons rfl (Keep.cons rfl (Keep.cons rfl (Keep.cons rfl (Keep.cons rfl (Keep.cons rfl (Keep.cons rfl (Keep.cons rfl (Keep.cons rfl (Keep.cons rfl (Keep.cons rfl (Keep.app rfl (Keep.rm rfl Keep.base))))))))))))))))))))))))))))))))))))))))))))))))))))⟩, by omega⟩
   ·have hG2 := hg2; try simp only [gS] at hG2
    refine sy_exit ?_
    refine then_e ?_
    refine then_e ?_
    refine blk_e ?_
    refine then_n ?_
    refine sy_sq ?_
    refine o_v hf hh (yv_fieldAddr Tryz.fo_57_0 rfl) ?_; clear hf a; intro a hf
    refine o_v hf hh (y_ld Tryz.sc_3 rfl) ?_; clear hf a; intro a hf
    refine o_call hf Tryz.en_57 rfl rfl rfl (k57 _ _ _ _) ?_; clear hf a; intro v a w hR hf
    obtain ⟨rfl, hx⟩ := hR; replace hh := hh.more hx; clear hx
    refine o_v hf hh (yv_move rfl) ?_; clear hf a; intro a hf
    refine guard_split hf (t := 55) rfl (fun hg17 => ?_) (fun hg17 => ?_)
    ·have hG17 := hg17; try simp only [gS] at hG17
     refine o_v hf hh (yv_fieldAddr Tryz.fo_57_1 rfl) ?_; clear hf a; intro a hf
     refine o_v hf hh (y_ld Tryz.sc_55 rfl) ?_; clear hf a; intro a hf
     refine o_v hf hh (yv_len Tryz.se_55 rfl) ?_; clear hf a; intro a hf
     refine o_v hf hh (yv_bin rfl rfl rfl) ?_; clear hf a; intro a hf
     refine o_v hf hh (y_pt rfl rfl) ?_; clear hf a; intro a hf
     refine o_v hf hh (yv_assign rfl) ?_; clear hf a; intro a hf
     refine o_end ?_
     refine sy_ret ?_
     refine ret_r hf rfl rfl ?_
     first
       | (have hy : sgB m s = false := by clear hf hh; unfold sgB; simp_all
          exact ⟨congrArg Value.bool (chB_bad hm hs hy).symm, hh.ext⟩)
       | (have ev := chB_end hm (fun s hs => hq s (by rw [List.take_of_length_le (by omega)]; exact hs))
          refine ⟨congrArg Value.bool ?_, hh.ext⟩
          rw [ev]
          clear hf hh ev
          first
            | (simp_all; done)
            | (rw [Bool.eq_iff_iff]; simp_all <;> omega))
    ·have hG17 := hg17; try simp only [gS] at hG17
     refine o_off hf ?_; clear hf a; intro a hf
     refine o_off hf ?_; clear hf a; intro a hf
     refine o_off hf ?_; clear hf a; intro a hf
     refine o_off hf ?_; clear hf a; intro a hf
     refine o_v hf hh (y_pf rfl rfl) ?_; clear hf a; intro a hf
     refine o_v hf hh (yv_assign rfl) ?_; clear hf a; intro a hf
     refine o_end ?_
     refine sy_ret ?_
     refine ret_r hf rfl rfl ?_
     first
       | (have hy : sgB m s = false := by clear hf hh; unfold sgB; simp_all
          exact ⟨congrArg Value.bool (chB_bad hm hs hy).symm, hh.ext⟩)
       | (have ev := chB_end hm (fun s hs => hq s (by rw [List.take_of_length_le (by omega)]; exact hs))
          refine ⟨congrArg Value.bool ?_, hh.ext⟩
          rw [ev]
          clear hf hh ev
          first
            | (simp_all; done)
            | (rw [Bool.eq_iff_iff]; simp_all <;> omega))
end Go.Proofs.YtccpgpnekoncoaaGreat

namespace Go.WalM
open Go Go.Sy
theorem all_take {α : Type} {f : α → Bool} {l : List α} {i : Nat} {s : α} (h : l[i]? = some s) : (l.take (i + 1)).all f = ((l.take i).all f && f s) := by
  rw [take_snoc h, List.all_append]; simp
theorem mem_takeW {α : Type} {l : List α} {i : Nat} {x : α} (h : x ∈ l.take i) : ∃ j, j < i ∧ l[j]? = some x := by
  obtain ⟨j, hj, e⟩ := List.mem_iff_getElem.1 h
  rw [List.length_take] at hj
  refine ⟨j, by omega, ?_⟩
  rw [List.getElem_take] at e
  rw [← e, List.getElem?_eq_getElem (by omega)]
theorem take_mem {α : Type} {l : List α} {i j : Nat} {x : α} (h : l[j]? = some x) (hj : j < i) : x ∈ l.take i := by
  refine List.mem_of_getElem? (i := j) ?_
  rw [List.getElem?_take, if_pos hj, h]
structure TouIn (w : World) (t : TourD) (p : TPl) : Prop where
  f : SpAt w p.sf t.fr
  g : RowsAt w p.sw p.rows
  r : ∀ r ∈ p.rows, SpAt w r.2.1 r.1
  e : p.rows.map Prod.fst = t.ways
  s : SpAt w p.ss t.stay
  l : SpAt w p.sl t.light
  nf : t.fr.length ≤ maxLen
  nw : t.ways.length ≤ maxLen
  ns : t.stay.length ≤ maxLen
  nl : t.light.length ≤ maxLen
  nr : ∀ r ∈ p.rows, r.1.length ≤ maxLen
theorem TouIn.ext {w w' : World} {t : TourD} {p : TPl} (h : TouIn w t p) (e : Ext [] w w') : TouIn w' t p :=
  ⟨h.f.ext e, h.g.ext e, fun r hr => (h.r r hr).ext e, h.e, h.s.ext e, h.l.ext e, h.nf, h.nw, h.ns, h.nl, h.nr⟩
theorem TouIn.at {w : World} {t : TourD} {p : TPl} (h : TouIn w t p) (hg : touB t = true) : TouAt w t p := by
  have hO := touB_iff.1 hg
  have h1 : t.fr.length ≤ 6 := hO.n6
  have h2 : t.ways.length = t.fr.length := hO.wl
  have h3 : t.stay.length = t.fr.length := hO.sl
  have h4 : t.light.length = t.fr.length := hO.ll
  refine ⟨h.f, h.g, h.r, h.e, h.s, h.l, by omega, by omega, by omega, by omega, fun r hr => ?_⟩
  have h5 : r.1 ∈ t.ways := by rw [← h.e]; exact List.mem_map_of_mem hr
  have h6 : r.1.length = t.fr.length := (hO.w _ h5).1
  omega
theorem tou_eq {t : TourD} {rows : List RowD} (he : rows.map Prod.fst = t.ways) : touB t = (decide (t.fr.length ≤ 6) && decide (rows.length = t.fr.length) && inW t.dawn 0 1440 && rows.all (fun r => spsB ((t.fr.length : Nat) : Int) r.1) && spsB ((t.fr.length : Nat) : Int) t.fr && spsB ((t.fr.length : Nat) : Int) t.stay && spsB ((t.fr.length : Nat) : Int) t.light) := by
  unfold touB
  rw [List.all_append, ← he, List.all_map, List.length_map]
  have h6 : decide (((t.fr.length : Nat) : Int) ≤ 6) = decide (t.fr.length ≤ 6) := by rw [decide_eq_decide]; omega
  rw [h6]
  simp only [List.all_cons, List.all_nil, Bool.and_true, Bool.and_assoc]
  rfl
end Go.WalM

namespace Go.WalM
open Go Go.Sy
/-- The slice without its first thing. -/
theorem sp_tail {w : World} {so : Option Addr} {co : Nat} {s : Int × Int} {ps : List (Int × Int)} (h : SpAt w so (s :: ps)) (hc : ps.length + 1 ≤ co) : SpAt w (if co = 1 then so else so.map (·.add (1 * 2))) ps := fun i x hi => by
  have hl := len_ofW hi
  rw [if_neg (by omega)]
  obtain ⟨blk, off, c, T, fr, h1, h2, h3⟩ := h (i + 1) x (by simpa using hi)
  refine ⟨blk, off + 2, c, T, fr, by rw [h1]; rfl, h2, ?_⟩
  rw [Int.toNat_natCast] at h3 ⊢
  rw [show off + 2 + i * 2 = off + (i + 1) * 2 by omega]
  exact h3
def SpotB (p : Int × Int) : Prop := (-1099511627776 ≤ p.1 ∧ p.1 ≤ 1099511627776) ∧ -1099511627776 ≤ p.2 ∧ p.2 ≤ 1099511627776
abbrev wayR (p : Int × Int) (ps : List (Int × Int)) : List (Int × Int) := ps.map fun q => dup (farD p q)
theorem take_map {α β : Type} {f : α → β} {l : List α} {i : Nat} {x : α} (h : l[i]? = some x) : (l.take (i + 1)).map f = (l.take i).map f ++ [f x] := by
  rw [take_snoc h, List.map_append]; rfl
/-- Where a tour of a map lies: its lists are slices of one's own. -/
theorem str_at {w : World} {s : Int × Int} {ps : List (Int × Int)} {dawn : Int} {oa1 oa2 oa3 oa4 : Option Addr} {c1 c2 c3 c4 : Nat} {rows : List RowD} (hn : ps.length ≤ 6) (h1 : SpAt w oa1 (ps.map fun p => dup (farD s p))) (h2 : RowsAt w oa2 rows) (hr : ∀ r ∈ rows, SpAt w r.2.1 r.1) (he : rows.map Prod.fst = ps.map fun p => wayR p ps)
    (h3 : SpAt w oa3 (ps.map fun _ => (0, 0))) (h4 : SpAt w oa4 (ps.map fun _ => (0, 1440))) : TouAt w (strT s ps dawn) ⟨oa1, oa2, oa3, oa4, c1, c2, c3, c4, rows⟩ := by
  refine ⟨h1, h2, hr, he, h3, h4, ?_, ?_, ?_, ?_, fun r hr2 => ?_⟩
  · show (ps.map _).length ≤ _
    rw [List.length_map]; omega
  · show (ps.map _).length ≤ _
    rw [List.length_map]; omega
  · show (ps.map _).length ≤ _
    rw [List.length_map]; omega
  · show (ps.map _).length ≤ _
    rw [List.length_map]; omega
  · have h5 : r.1 ∈ rows.map Prod.fst := List.mem_map_of_mem hr2
    rw [he] at h5
    obtain ⟨p, _, e⟩ := List.mem_map.1 h5
    rw [← e]
    show (ps.map _).length ≤ _
    rw [List.length_map]; omega
theorem own_rowsK {e : Nat} {v : Value} {m : Nat} {l : List RowD} {X : List (Nat × Obj)} (h : OwnSl e 1 v m (rvs l) X) : ∃ oa cap, v = .slice oa l.length cap ∧ ∀ w : World, (∀ q ∈ X, w.heap[q.1]? = some q.2) → RowsAt w oa l := by
  have h0 := h
  obtain ⟨hl, h⟩ := h
  rw [rvs_len] at hl
  have hm : m = l.length := by omega
  subst hm
  rcases h with ⟨rfl, hz, rfl⟩ | ⟨B, cap, cur, rfl, rfl, h1, h2, h3, h4⟩
  · refine ⟨none, 0, by rw [hz], fun w _ i r hi => ?_⟩
    have := len_ofW hi
    omega
  · refine ⟨_, cap, rfl, fun w hX => ?_⟩
    obtain ⟨oa, cp, e, hr⟩ := own_rows (w := w) h0 hX
    cases e
    exact hr
end Go.WalM

namespace Go.Proofs.YtccpgpnekoncoaaGreat
open Go Go.Sy Go.WalM
theorem k23 (n l h : Int) (w : World) : Calls Tryz.prog 23 #[.int .i64 n, .int .i64 l, .int .i64 h] w (Ret fun v w' => v = .bool (inW n l h) ∧ Ext [] w w') := by
  refine calls_of Tryz.func23 rfl rfl (fun a hf => ?_)
  have hh := Hp.init w []
  refine sy_sq ?_
  refine o_v hf hh (yv_assign rfl) ?_; clear hf a; intro a hf
  refine o_end ?_
  refine sy_sq ?_
  refine o_v hf hh (yv_move rfl) ?_; clear hf a; intro a hf
  refine o_v hf hh (yv_move rfl) ?_; clear hf a; intro a hf
  refine o_v hf hh (yv_bin rfl rfl rfl) ?_; clear hf a; intro a hf
  refine o_v hf hh (yv_move rfl) ?_; clear hf a; intro a hf
  refine guard_split hf (t := 10) rfl (fun hg2 => ?_) (fun hg2 => ?_)
  ·have hG2 := hg2; try simp only [gS] at hG2
   refine o_v hf hh (yv_move rfl) ?_; clear hf a; intro a hf
   refine o_v hf hh (yv_move rfl) ?_; clear hf a; intro a hf
   refine o_v hf hh (yv_bin rfl rfl rfl) ?_; clear hf a; intro a hf
   refine o_v hf hh (y_pt rfl rfl) ?_; clear hf a; intro a hf
   refine o_v hf hh (yv_assign rfl) ?_; clear hf a; intro a hf
   refine o_end ?_
   refine sy_ret ?_
   refine ret_r hf rfl rfl ?_
   unfold inW
   first
     | (rw [decide_eq_true (show l ≤ n by omega), Bool.true_and]; exact ⟨rfl, hh.ext⟩)
     | (rw [decide_eq_false (show ¬ l ≤ n by omega), Bool.false_and]; exact ⟨rfl, hh.ext⟩)
  ·have hG2 := hg2; try simp only [gS] at hG2
   refine o_off hf ?_; clear hf a; intro a hf
   refine o_off hf ?_; clear hf a; intro a hf
   refine o_off hf ?_; clear hf a; intro a hf
   refine o_v hf hh (y_pf rfl rfl) ?_; clear hf a; intro a hf
   refine o_v hf hh (yv_assign rfl) ?_; clear hf a; intro a hf
   refine o_end ?_
   refine sy_ret ?_
   refine ret_r hf rfl rfl ?_
   unfold inW
   first
     | (rw [decide_eq_true (show l ≤ n by omega), Bool.true_and]; exact ⟨rfl, hh.ext⟩)
     | (rw [decide_eq_false (show ¬ l ≤ n by omega), Bool.false_and]; exact ⟨rfl, hh.ext⟩)
theorem k24 (l : List (Int × Int)) (sa : Option Addr) (c0 : Nat) (n : Int) (u : World) (hA : SpAt u sa l) (hl : l.length ≤ 9223372036854775807) : Calls Tryz.prog 24 #[.slice sa l.length c0, .int .i64 n] u (Ret fun v w' => v = .bool (spsB n l) ∧ Ext [] u w') := by
  refine calls_of Tryz.func24 rfl rfl (fun a hf => ?_)
  have hh := Hp.init u []
  refine sy_sq ?_
  refine o_v hf hh (yv_assign rfl) ?_; clear hf a; intro a hf
  refine o_end ?_
  refine sy_seq ?_
  refine sy_sq ?_
  refine o_v hf hh (yv_assign rfl) ?_; clear hf a; intro a hf
  refine o_end ?_
  refine sy_block ?_
  refine sy_loopF (σ := Nat) [4, 5, 6, 7, 8, 9, 10, 11, 12, 13, 14, 15, 16, 17, 18, 19, 20, 21, 22, 23, 24, 25, 26, 27, 28, 29, 30, 31, 32, 33, 34, 35, 36, 37, 38] (fun i => [(5, .int .i64 (i : Nat))]) (fun i => i ≤ l.length ∧ (l.take i).all okB = true) (fun i => l.length - i) (0) hf hh ?_ ?_ ?_
  · repeat' (first | exact True.intro | refine And.intro rfl ?_)
  · exact ⟨Nat.zero_le _, rfl⟩
  ·rintro i a w ⟨hi, hta⟩ hf hh
   refine sy_seq ?_
   refine sy_sq ?_
   refine o_v hf hh (yv_move rfl) ?_; clear hf a; intro a hf
   refine o_v hf hh (yv_move rfl) ?_; clear hf a; intro a hf
   refine o_v hf hh (yv_len Tryz.se_22 rfl) ?_; clear hf a; intro a hf
   refine o_v hf hh (yv_bin rfl rfl rfl) ?_; clear hf a; intro a hf
   refine o_end ?_
   refine sy_cond hf rfl (fun hg2 => ?_) (fun hg2 => ?_)
   ·have hG2 := hg2; try simp only [gS] at hG2
    refine sy_skip ?_
    refine then_n ?_
    refine sy_seq ?_
    refine sy_block ?_
    refine sy_seq ?_
    obtain ⟨s, hs⟩ := ex_ofW (l := l) (i := i) (by omega)
    obtain ⟨blk, off, cc, T, fr, es, hb, hc⟩ := hA i s hs; subst es
    have hp := (cells_two hc).1
    have hq := (cells_two hc).2
    have htk := all_take (f := okB) hs
    refine sy_quiet (C := Hp _ _ _) Tryz.follows (by kernel_rfl) (hh.drawn _) ?_
    refine oq_v hf (yv_move rfl) ?_; clear hf a; intro a hf
    refine oq_v hf (yv_move rfl) ?_; clear hf a; intro a hf
    refine oq_v hf (y_ix Tryz.se_22 rfl rfl) ?_; clear hf a; intro a hf
    refine oq_v hf (yv_fieldAddr Tryz.fo_49_0 rfl) ?_; clear hf a; intro a hf
    refine oq_v hf (y_ld Tryz.sc_3 rfl) ?_; clear hf a; intro a hf
    refine oq_v hf (yv_bin rfl rfl rfl) ?_; clear hf a; intro a hf
    refine oq_v hf (yv_move rfl) ?_; clear hf a; intro a hf
    refine guard_splitq hf (t := 18) rfl (fun hg4 => ?_) (fun hg4 => ?_)
    ·have hG4 := hg4; try simp only [gS] at hG4
     refine oq_off hf ?_; clear hf a; intro a hf
     refine oq_off hf ?_; clear hf a; intro a hf
     refine oq_off hf ?_; clear hf a; intro a hf
     refine oq_off hf ?_; clear hf a; intro a hf
     refine oq_off hf ?_; clear hf a; intro a hf
     refine oq_off hf ?_; clear hf a; intro a hf
     refine oq_off hf ?_; clear hf a; intro a hf
     refine oq_off hf ?_; clear hf a; intro a hf
     refine oq_off hf ?_; clear hf a; intro a hf
     refine oq_off hf ?_; clear hf a; intro a hf
     refine oq_off hf ?_; clear hf a; intro a hf
     refine oq_v hf (y_pt rfl rfl) ?_; clear hf a; intro a hf
     refine oq_v hf (yv_move rfl) ?_; clear hf a; intro a hf
     refine oq_off hf ?_; clear hf a; intro a hf
     refine oq_off hf ?_; clear hf a; intro a hf
     refine oq_off hf ?_; clear hf a; intro a hf
     refine oq_off hf ?_; clear hf a; intro a hf
     refine oq_off hf ?_; clear hf a; intro a hf
     refine oq_off hf ?_; clear hf a; intro a hf
     refine oq_v hf (y_pt rfl rfl) ?_; clear hf a; intro a hf
     refine q_end fun w hh => ?_
     refine then_n ?_
     refine c_t hf ?_
     refine sy_sq ?_
     refine o_v hf hh (yv_assign rfl) ?_; clear hf a; intro a hf
     refine o_end ?_
     refine sy_ret ?_
     refine blk_r ?_
     refine then_r ?_
     refine then_r ?_
     refine blk_r ?_
     refine then_r ?_
     refine ret_r hf rfl rfl ?_
     refine ⟨congrArg Value.bool ?_, hh.ext⟩
     clear hf hh
     unfold spsB
     first
       | (have hbad : okB s = false := by unfold okB; simp_all <;> omega
          have hal : l.all okB = false := by rw [List.all_eq_false]; exact ⟨s, List.mem_of_getElem? hs, by rw [hbad]; decide⟩
          rw [hal, Bool.and_false])
       | (obtain rfl : i = l.length := by omega
          rw [List.take_length] at hta
          rw [hta, Bool.and_true])
    ·have hG4 := hg4; try simp only [gS] at hG4
     refine oq_v hf (yv_move rfl) ?_; clear hf a; intro a hf
     refine oq_v hf (yv_move rfl) ?_; clear hf a; intro a hf
     refine oq_v hf (y_ix Tryz.se_22 rfl rfl) ?_; clear hf a; intro a hf
     refine oq_v hf (yv_fieldAddr Tryz.fo_49_0 rfl) ?_; clear hf a; intro a hf
     refine oq_v hf (y_ld Tryz.sc_3 rfl) ?_; clear hf a; intro a hf
     refine oq_v hf (yv_move rfl) ?_; clear hf a; intro a hf
     refine oq_v hf (yv_move rfl) ?_; clear hf a; intro a hf
     refine oq_v hf (y_ix Tryz.se_22 rfl rfl) ?_; clear hf a; intro a hf
     refine oq_v hf (yv_fieldAddr Tryz.fo_49_1 rfl) ?_; clear hf a; intro a hf
     refine oq_v hf (y_ld Tryz.sc_3 rfl) ?_; clear hf a; intro a hf
     refine oq_v hf (yv_bin rfl rfl rfl) ?_; clear hf a; intro a hf
     refine oq_v hf (y_pf rfl rfl) ?_; clear hf a; intro a hf
     refine oq_v hf (yv_move rfl) ?_; clear hf a; intro a hf
     refine guard_splitq hf (t := 31) rfl (fun hg6 => ?_) (fun hg6 => ?_)
     ·have hG6 := hg6; try simp only [gS] at hG6
      refine oq_off hf ?_; clear hf a; intro a hf
      refine oq_off hf ?_; clear hf a; intro a hf
      refine oq_off hf ?_; clear hf a; intro a hf
      refine oq_off hf ?_; clear hf a; intro a hf
      refine oq_off hf ?_; clear hf a; intro a hf
      refine oq_off hf ?_; clear hf a; intro a hf
      refine oq_v hf (y_pt rfl rfl) ?_; clear hf a; intro a hf
      refine q_end fun w hh => ?_
      refine then_n ?_
      refine c_t hf ?_
      refine sy_sq ?_
      refine o_v hf hh (yv_assign rfl) ?_; clear hf a; intro a hf
      refine o_end ?_
      refine sy_ret ?_
      refine blk_r ?_
      refine then_r ?_
      refine then_r ?_
      refine blk_r ?_
      refine then_r ?_
      refine ret_r hf rfl rfl ?_
      refine ⟨congrArg Value.bool ?_, hh.ext⟩
      clear hf hh
      unfold spsB
      first
        | (have hbad : okB s = false := by unfold okB; simp_all <;> omega
           have hal : l.all okB = false := by rw [List.all_eq_false]; exact ⟨s, List.mem_of_getElem? hs, by rw [hbad]; decide⟩
           rw [hal, Bool.and_false])
        | (obtain rfl : i = l.length := by omega
           rw [List.take_length] at hta
           rw [hta, Bool.and_true])
     ·have hG6 := hg6; try simp only [gS] at hG6
      refine oq_v hf (yv_move rfl) ?_; clear hf a; intro a hf
      refine oq_v hf (yv_move rfl) ?_; clear hf a; intro a hf
      refine oq_v hf (y_ix Tryz.se_22 rfl rfl) ?_; clear hf a; intro a hf
      refine oq_v hf (yv_fieldAddr Tryz.fo_49_1 rfl) ?_; clear hf a; intro a hf
      refine oq_v hf (y_ld Tryz.sc_3 rfl) ?_; clear hf a; intro a hf
      refine oq_v hf (yv_bin rfl rfl rfl) ?_; clear hf a; intro a hf
      refine oq_v hf (y_pf rfl rfl) ?_; clear hf a; intro a hf
      refine q_end fun w hh => ?_
      refine then_n ?_
      refine sy_cond hf rfl (fun hg8 => ?_) (fun hg8 => ?_)
      ·have hG8 := hg8; try simp only [gS] at hG8
       refine sy_sq ?_
       refine o_v hf hh (yv_assign rfl) ?_; clear hf a; intro a hf
       refine o_end ?_
       refine sy_ret ?_
       refine blk_r ?_
       refine then_r ?_
       refine then_r ?_
       refine blk_r ?_
       refine then_r ?_
       refine ret_r hf rfl rfl ?_
       refine ⟨congrArg Value.bool ?_, hh.ext⟩
       clear hf hh
       unfold spsB
       first
         | (have hbad : okB s = false := by unfold okB; simp_all <;> omega
            have hal : l.all okB = false := by rw [List.all_eq_false]; exact ⟨s, List.mem_of_getElem? hs, by rw [hbad]; decide⟩
            rw [hal, Bool.and_false])
         | (obtain rfl : i = l.length := by omega
            rw [List.take_length] at hta
            rw [hta, Bool.and_true])
      ·have hG8 := hg8; try simp only [gS] at hG8
       refine sy_skip ?_
       refine blk_n ?_
       refine then_n ?_
       refine sy_ops ?_
       refine o_v hf hh (yv_move rfl) ?_; clear hf a; intro a hf
       refine o_v hf hh (y_add rfl rfl) ?_; clear hf a; intro a hf
       refine o_v hf hh (yv_assign rfl) ?_; clear hf a; intro a hf
       refine ops_end ?_
       refine then_n ?_
       exact ⟨i + 1, ⟨⟨by omega, by rw [htk, hta, Bool.true_and]; unfold okB; simp_all <;> omega⟩, (hf.head (by repeat' (first | exact True.intro | refine And.intro rfl ?_)) (Keep.cons rfl (Keep.cons rfl (Keep.cons rfl (Keep.cons rfl (Keep.cons rfl (Keep.cons rfl (Keep.cons rfl (Keep.cons rfl (Keep.cons rfl (Keep.cons rfl (Keep.cons rfl (Keep.cons rfl (Keep.cons rfl (Keep.cons rfl (Keep.cons rfl (Keep.cons rfl (Keep.cons rfl (Keep.cons rfl (Keep.cons rfl (Keep.cons rfl (Keep.cons rfl (Keep.cons rfl (Keep.cons rfl (Keep.cons rfl (Keep.cons rfl (Keep.cons rfl (Keep.cons rfl (Keep.cons rfl (Keep.cons rfl (Keep.cons rfl (Keep.cons rfl (Keep.cons rfl (Keep.cons rfl (Keep.cons rfl (Keep.app rfl (Keep.rm rfl Keep.base))))))))))))))))))))))))))))))))))))), hh⟩, by omega⟩
   ·have hG2 := hg2; try simp only [gS] at hG2
    refine sy_exit ?_
    refine then_e ?_
    refine then_e ?_
    refine blk_e ?_
    refine then_n ?_
    refine sy_sq ?_
    refine o_v hf hh (yv_move rfl) ?_; clear hf a; intro a hf
    refine o_v hf hh (yv_len Tryz.se_22 rfl) ?_; clear hf a; intro a hf
    refine o_v hf hh (yv_move rfl) ?_; clear hf a; intro a hf
    refine o_v hf hh (yv_bin rfl rfl rfl) ?_; clear hf a; intro a hf
    refine o_v hf hh (yv_assign rfl) ?_; clear hf a; intro a hf
    refine o_end ?_
    refine sy_ret ?_
    refine ret_r hf rfl rfl ?_
    refine ⟨congrArg Value.bool ?_, hh.ext⟩
    clear hf hh
    unfold spsB
    first
      | (have hbad : okB s = false := by unfold okB; simp_all <;> omega
         have hal : l.all okB = false := by rw [List.all_eq_false]; exact ⟨s, List.mem_of_getElem? hs, by rw [hbad]; decide⟩
         rw [hal, Bool.and_false])
      | (obtain rfl : i = l.length := by omega
         rw [List.take_length] at hta
         rw [hta, Bool.and_true])
theorem k10 (t : TourD) (p : TPl) (l : List Int) (ln : Nat) (hln : ln = l.length) (so : Option Addr) (co : Nat) (u : World) (hn : t.fr.length ≤ 6) (hL : VwAt u so l) (hl : l.length ≤ 9223372036854775807) : Calls Tryz.prog 10 #[.agg (touC t p), .slice so ln co] u (Ret fun v w' => v = .bool (ordB t.fr.length l) ∧ Ext [] u w') := by
  subst hln
  refine calls_of Tryz.func10 rfl rfl (fun a hf => ?_)
  have hh := Hp.init u []
  refine sy_sq ?_
  refine o_box hf hh ?_; clear hf hh a; intro B2 a w hf hh
  refine o_v hf hh (yv_assign rfl) ?_; clear hf a; intro a hf
  refine o_end ?_
  refine sy_seq ?_
  refine sy_sq ?_
  refine o_v hf hh (yv_assign rfl) ?_; clear hf a; intro a hf
  refine o_end ?_
  refine sy_block ?_
  refine sy_loopF (σ := Nat) [4, 5, 6, 7, 8, 9, 10, 11, 12, 13, 14, 15, 16, 17, 18, 19, 20, 21, 22, 23, 24, 25, 26, 27, 28, 29, 30, 31, 32, 33, 34, 35, 36] (fun i => [(5, .int .i64 (i : Nat))]) (fun i => i ≤ l.length ∧ ordB t.fr.length (l.take i) = true) (fun i => l.length - i) (0) hf hh ?_ ?_ ?_
  · repeat' (first | exact True.intro | refine And.intro rfl ?_)
  · exact ⟨Nat.zero_le _, rfl⟩
  ·rintro i a w ⟨hi, hq⟩ hf hh
   refine sy_seq ?_
   refine sy_sq ?_
   refine o_v hf hh (yv_move rfl) ?_; clear hf a; intro a hf
   refine o_v hf hh (yv_move rfl) ?_; clear hf a; intro a hf
   refine o_v hf hh (yv_len Tryz.se_28 rfl) ?_; clear hf a; intro a hf
   refine o_v hf hh (yv_bin rfl rfl rfl) ?_; clear hf a; intro a hf
   refine o_end ?_
   refine sy_cond hf rfl (fun hg2 => ?_) (fun hg2 => ?_)
   ·have hG2 := hg2; try simp only [gS] at hG2
    refine sy_skip ?_
    refine then_n ?_
    refine sy_seq ?_
    refine sy_block ?_
    refine sy_seq ?_
    refine sy_seq ?_
    obtain ⟨x, hx1⟩ := ex_ofW (l := l) (i := i) (by omega)
    obtain ⟨blk1, off1, cc1, T1, fr1, es1, hb1, hc1⟩ := hL i x hx1; subst es1
    refine sy_quiet (C := Hp _ _ _) Tryz.follows (by kernel_rfl) (hh.drawn _) ?_
    refine oq_v hf (yv_move rfl) ?_; clear hf a; intro a hf
    refine oq_v hf (yv_move rfl) ?_; clear hf a; intro a hf
    refine oq_v hf (y_ix Tryz.se_28 rfl rfl) ?_; clear hf a; intro a hf
    refine oq_v hf (y_ld Tryz.sc_3 rfl) ?_; clear hf a; intro a hf
    refine oq_v hf (yv_fieldAddr Tryz.fo_25_1 rfl) ?_; clear hf a; intro a hf
    refine oq_v hf (y_ld Tryz.sc_22 rfl) ?_; clear hf a; intro a hf
    refine oq_v hf (yv_len Tryz.se_22 rfl) ?_; clear hf a; intro a hf
    refine oq_v hf (y_sub rfl rfl) ?_; clear hf a; intro a hf
    refine oq_call hf Tryz.en_23 rfl rfl rfl (fun w hh => k23 x 0 (((t.fr.length : Nat) : Int) - 1) _) ?_; clear hf a; intro a hf
    refine oq_v hf (yv_not rfl) ?_; clear hf a; intro a hf
    refine q_end fun w hh => ?_
    refine then_n ?_
    refine sy_cond hf rfl (fun hg4 => ?_) (fun hg4 => ?_)
    ·have hG4 := hg4; try simp only [gS] at hG4
     refine sy_sq ?_
     refine o_v hf hh (yv_assign rfl) ?_; clear hf a; intro a hf
     refine o_end ?_
     refine sy_ret ?_
     refine then_r ?_
     refine blk_r ?_
     refine then_r ?_
     refine then_r ?_
     refine blk_r ?_
     refine then_r ?_
     refine ret_r hf rfl rfl ?_
     exact ⟨congrArg Value.bool (ordB_bad hx1 (.inl (by simp_all))).symm, hh.ext⟩
    ·have hG4 := hg4; try simp only [gS] at hG4
     refine sy_skip ?_
     refine then_n ?_
     refine sy_seq ?_
     have hin : inW x 0 (((t.fr.length : Nat) : Int) - 1) = true := by simp_all
     refine sy_ops ?_
     refine o_v hf hh (yv_assign rfl) ?_; clear hf a; intro a hf
     refine o_end ?_
     refine sy_block ?_
     refine sy_loopF (σ := Nat) [4, 6, 23, 24, 25, 26, 27, 28, 29, 30, 31, 32, 33, 34, 35, 36] (fun k => [(6, .int .i64 (k : Nat))]) (fun k => k ≤ i ∧ ∀ j, j < k → l[j]? ≠ some x) (fun k => i - k) (0) hf hh ?_ ?_ ?_
     · repeat' (first | exact True.intro | refine And.intro rfl ?_)
     · exact ⟨Nat.zero_le _, fun j h => absurd h (Nat.not_lt_zero _)⟩
     ·rintro k a w ⟨hk, hne⟩ hf hh
      refine sy_seq ?_
      refine sy_sq ?_
      refine o_v hf hh (yv_move rfl) ?_; clear hf a; intro a hf
      refine o_v hf hh (yv_move rfl) ?_; clear hf a; intro a hf
      refine o_v hf hh (yv_bin rfl rfl rfl) ?_; clear hf a; intro a hf
      refine o_end ?_
      refine sy_cond hf rfl (fun hg6 => ?_) (fun hg6 => ?_)
      ·have hG6 := hg6; try simp only [gS] at hG6
       refine sy_skip ?_
       refine then_n ?_
       refine sy_seq ?_
       refine sy_block ?_
       refine sy_seq ?_
       obtain ⟨y, hx2⟩ := ex_ofW (l := l) (i := k) (by omega)
       obtain ⟨blk2, off2, cc2, T2, fr2, es2, hb2, hc2⟩ := hL k y hx2; cases es2
       rw [hb1] at hb2; cases hb2
       refine sy_quiet (C := Hp _ _ _) Tryz.follows (by kernel_rfl) (hh.drawn _) ?_
       refine oq_v hf (yv_move rfl) ?_; clear hf a; intro a hf
       refine oq_v hf (yv_move rfl) ?_; clear hf a; intro a hf
       refine oq_v hf (y_ix Tryz.se_28 rfl rfl) ?_; clear hf a; intro a hf
       refine oq_v hf (y_ld Tryz.sc_3 rfl) ?_; clear hf a; intro a hf
       refine oq_v hf (yv_move rfl) ?_; clear hf a; intro a hf
       refine oq_v hf (yv_move rfl) ?_; clear hf a; intro a hf
       refine oq_v hf (y_ix Tryz.se_28 rfl rfl) ?_; clear hf a; intro a hf
       refine oq_v hf (y_ld Tryz.sc_3 rfl) ?_; clear hf a; intro a hf
       refine oq_v hf (yv_bin rfl rfl rfl) ?_; clear hf a; intro a hf
       refine q_end fun w hh => ?_
       refine then_n ?_
       refine sy_cond hf rfl (fun hg8 => ?_) (fun hg8 => ?_)
       ·have hG8 := hg8; try simp only [gS] at hG8
        refine sy_sq ?_
        refine o_v hf hh (yv_assign rfl) ?_; clear hf a; intro a hf
        refine o_end ?_
        refine sy_ret ?_
        refine blk_r ?_
        refine then_r ?_
        refine then_r ?_
        refine blk_r ?_
        refine blk_r ?_
        refine then_r ?_
        refine then_r ?_
        refine blk_r ?_
        refine then_r ?_
        refine ret_r hf rfl rfl ?_
        have e3 : y = x := by omega
        subst e3
        exact ⟨congrArg Value.bool (ordB_bad hx1 (.inr (take_mem hx2 (by omega)))).symm, hh.ext⟩
       ·have hG8 := hg8; try simp only [gS] at hG8
        refine sy_skip ?_
        refine blk_n ?_
        refine then_n ?_
        refine sy_ops ?_
        refine o_v hf hh (yv_move rfl) ?_; clear hf a; intro a hf
        refine o_v hf hh (y_add rfl rfl) ?_; clear hf a; intro a hf
        refine o_v hf hh (yv_assign rfl) ?_; clear hf a; intro a hf
        refine ops_end ?_
        refine then_n ?_
        exact ⟨k + 1, ⟨⟨by omega, fun j hj => by
          rcases (show j < k ∨ j = k by omega) with h | rfl
          · exact hne j h
          · intro e
            have e2 := hx2.symm.trans e
            simp only [Option.some.injEq] at e2
            omega⟩, (hf.head (by repeat' (first | exact True.intro | refine And.intro rfl ?_)) (Keep.cons rfl (Keep.cons rfl (Keep.cons rfl (Keep.cons rfl (Keep.cons rfl (Keep.cons rfl (Keep.cons rfl (Keep.cons rfl (Keep.cons rfl (Keep.cons rfl (Keep.cons rfl (Keep.cons rfl (Keep.cons rfl (Keep.cons rfl (Keep.cons rfl (Keep.app rfl (Keep.rm rfl Keep.base)))))))))))))))))), hh⟩, by omega⟩
      ·have hG6 := hg6; try simp only [gS] at hG6
       refine sy_exit ?_
       refine then_e ?_
       refine then_e ?_
       refine blk_e ?_
       refine blk_n ?_
       refine then_n ?_
       refine sy_ops ?_
       refine o_v hf hh (yv_move rfl) ?_; clear hf a; intro a hf
       refine o_v hf hh (y_add rfl rfl) ?_; clear hf a; intro a hf
       refine o_v hf hh (yv_assign rfl) ?_; clear hf a; intro a hf
       refine ops_end ?_
       refine then_n ?_
       exact ⟨i + 1, ⟨⟨by omega, ordB_next hx1 hq (by have := inW_iff.1 hin; omega) (fun hm => by
         obtain ⟨j, hj, e⟩ := mem_takeW hm
         exact hne j (by omega) e)⟩, (hf.head (by repeat' (first | exact True.intro | refine And.intro rfl ?_)) (Keep.cons rfl (Keep.cons rfl (Keep.cons rfl (Keep.cons rfl (Keep.cons rfl (Keep.cons rfl (Keep.app rfl (Keep.rm rfl (Keep.cons rfl (Keep.cons rfl (Keep.cons rfl (Keep.cons rfl (Keep.cons rfl (Keep.cons rfl (Keep.cons rfl (Keep.cons rfl (Keep.cons rfl (Keep.cons rfl (Keep.cons rfl (Keep.cons rfl (Keep.cons rfl (Keep.cons rfl (Keep.cons rfl (Keep.app rfl (Keep.rm rfl Keep.base)))))))))))))))))))))))))), hh⟩, by omega⟩
   ·have hG2 := hg2; try simp only [gS] at hG2
    refine sy_exit ?_
    refine then_e ?_
    refine then_e ?_
    refine blk_e ?_
    refine then_n ?_
    refine sy_sq ?_
    refine o_v hf hh (yv_assign rfl) ?_; clear hf a; intro a hf
    refine o_end ?_
    refine sy_ret ?_
    refine ret_r hf rfl rfl ?_
    obtain rfl : i = l.length := by omega
    rw [List.take_length] at hq
    exact ⟨congrArg Value.bool hq.symm, hh.ext⟩
set_option maxRecDepth 100000 in
theorem k5 (t : TourD) (p : TPl) (u : World) (hA : TouIn u t p) : Calls Tryz.prog 5 #[.agg (touC t p)] u (Ret fun v w' => v = .bool (touB t) ∧ Ext [] u w') := by
  refine calls_of Tryz.func5 rfl rfl (fun a hf => ?_)
  have hh := Hp.init u []
  have hnf := hA.nf; have hnw := hA.nw; have hns := hA.ns; have hnl := hA.nl
  simp only [maxLen] at hnf hnw hns hnl
  have hrl : p.rows.length = t.ways.length := rows_len hA.e
  obtain ⟨sf, sw, ss, sl, cf, cw, cs, cl, rows⟩ := p
  dsimp only at hrl
  have hrr := fun r hr => hA.r r hr
  refine sy_sq ?_
  refine o_box hf hh ?_; clear hf hh a; intro B1 a w hf hh
  refine o_v hf hh (yv_assign rfl) ?_; clear hf a; intro a hf
  refine o_end ?_
  refine sy_sq ?_
  refine o_v hf hh (yv_fieldAddr Tryz.fo_25_1 rfl) ?_; clear hf a; intro a hf
  refine o_v hf hh (y_ld Tryz.sc_22 rfl) ?_; clear hf a; intro a hf
  refine o_v hf hh (yv_len Tryz.se_22 rfl) ?_; clear hf a; intro a hf
  refine o_v hf hh (yv_assign rfl) ?_; clear hf a; intro a hf
  refine o_end ?_
  refine sy_seq ?_
  refine sy_sq ?_
  refine o_v hf hh (yv_move rfl) ?_; clear hf a; intro a hf
  refine o_v hf hh (yv_bin rfl rfl rfl) ?_; clear hf a; intro a hf
  refine o_v hf hh (yv_move rfl) ?_; clear hf a; intro a hf
  refine guard_split hf (t := 10) rfl (fun hg2 => ?_) (fun hg2 => ?_)
  ·have hG2 := hg2; try simp only [gS] at hG2
   refine o_off hf ?_; clear hf a; intro a hf
   refine o_off hf ?_; clear hf a; intro a hf
   refine o_off hf ?_; clear hf a; intro a hf
   refine o_off hf ?_; clear hf a; intro a hf
   refine o_off hf ?_; clear hf a; intro a hf
   refine o_v hf hh (y_pt rfl rfl) ?_; clear hf a; intro a hf
   refine o_v hf hh (yv_move rfl) ?_; clear hf a; intro a hf
   refine o_off hf ?_; clear hf a; intro a hf
   refine o_off hf ?_; clear hf a; intro a hf
   refine o_off hf ?_; clear hf a; intro a hf
   refine o_off hf ?_; clear hf a; intro a hf
   refine o_v hf hh (y_pt rfl rfl) ?_; clear hf a; intro a hf
   refine o_end ?_
   refine c_t hf ?_
   refine sy_sq ?_
   refine o_v hf hh (yv_assign rfl) ?_; clear hf a; intro a hf
   refine o_end ?_
   refine sy_ret ?_
   refine then_r ?_
   refine ret_r hf rfl rfl ?_
   refine ⟨congrArg Value.bool ?_, hh.ext⟩
   clear hf hh
   first
     | (rw [e0]; simp only [*, Bool.true_and, Bool.and_true, Bool.false_and, Bool.and_false]; done)
     | (rw [tou_eq hA.e]; simp_all; done)
     | (rw [tou_eq hA.e]; rw [Bool.eq_iff_iff]; simp_all <;> omega)
     | (rw [tou_eq hA.e]
        have hal : rows.all (fun r => spsB ((t.fr.length : Nat) : Int) r.1) = false := by
          rw [List.all_eq_false]
          refine ⟨_, List.mem_of_getElem? hr, ?_⟩
          rw [show spsB ((t.fr.length : Nat) : Int) rl = false from by assumption]; decide
        rw [hal]; simp; done)
     | (simp_all; done)
  ·have hG2 := hg2; try simp only [gS] at hG2
   refine o_v hf hh (yv_fieldAddr Tryz.fo_25_2 rfl) ?_; clear hf a; intro a hf
   refine o_v hf hh (y_ld Tryz.sc_23 rfl) ?_; clear hf a; intro a hf
   refine o_v hf hh (yv_len Tryz.se_23 rfl) ?_; clear hf a; intro a hf
   refine o_v hf hh (yv_move rfl) ?_; clear hf a; intro a hf
   refine o_v hf hh (yv_bin rfl rfl rfl) ?_; clear hf a; intro a hf
   refine o_v hf hh (y_pf rfl rfl) ?_; clear hf a; intro a hf
   refine o_v hf hh (yv_move rfl) ?_; clear hf a; intro a hf
   refine guard_split hf (t := 17) rfl (fun hg4 => ?_) (fun hg4 => ?_)
   ·have hG4 := hg4; try simp only [gS] at hG4
    refine o_off hf ?_; clear hf a; intro a hf
    refine o_off hf ?_; clear hf a; intro a hf
    refine o_off hf ?_; clear hf a; intro a hf
    refine o_off hf ?_; clear hf a; intro a hf
    refine o_v hf hh (y_pt rfl rfl) ?_; clear hf a; intro a hf
    refine o_end ?_
    refine c_t hf ?_
    refine sy_sq ?_
    refine o_v hf hh (yv_assign rfl) ?_; clear hf a; intro a hf
    refine o_end ?_
    refine sy_ret ?_
    refine then_r ?_
    refine ret_r hf rfl rfl ?_
    refine ⟨congrArg Value.bool ?_, hh.ext⟩
    clear hf hh
    first
      | (rw [e0]; simp only [*, Bool.true_and, Bool.and_true, Bool.false_and, Bool.and_false]; done)
      | (rw [tou_eq hA.e]; simp_all; done)
      | (rw [tou_eq hA.e]; rw [Bool.eq_iff_iff]; simp_all <;> omega)
      | (rw [tou_eq hA.e]
         have hal : rows.all (fun r => spsB ((t.fr.length : Nat) : Int) r.1) = false := by
           rw [List.all_eq_false]
           refine ⟨_, List.mem_of_getElem? hr, ?_⟩
           rw [show spsB ((t.fr.length : Nat) : Int) rl = false from by assumption]; decide
         rw [hal]; simp; done)
      | (simp_all; done)
   ·have hG4 := hg4; try simp only [gS] at hG4
    refine o_v hf hh (yv_fieldAddr Tryz.fo_25_0 rfl) ?_; clear hf a; intro a hf
    refine o_v hf hh (y_ld Tryz.sc_3 rfl) ?_; clear hf a; intro a hf
    refine o_call hf Tryz.en_23 rfl rfl rfl (k23 t.dawn 0 1440 _) ?_; clear hf a; intro v a w hR hf
    obtain ⟨rfl, hx⟩ := hR; replace hh := hh.more hx; clear hx
    refine o_v hf hh (yv_not rfl) ?_; clear hf a; intro a hf
    refine o_v hf hh (y_pf rfl rfl) ?_; clear hf a; intro a hf
    refine o_end ?_
    refine sy_cond hf rfl (fun hg6 => ?_) (fun hg6 => ?_)
    ·have hG6 := hg6; try simp only [gS] at hG6
     refine sy_sq ?_
     refine o_v hf hh (yv_assign rfl) ?_; clear hf a; intro a hf
     refine o_end ?_
     refine sy_ret ?_
     refine then_r ?_
     refine ret_r hf rfl rfl ?_
     refine ⟨congrArg Value.bool ?_, hh.ext⟩
     clear hf hh
     first
       | (rw [e0]; simp only [*, Bool.true_and, Bool.and_true, Bool.false_and, Bool.and_false]; done)
       | (rw [tou_eq hA.e]; simp_all; done)
       | (rw [tou_eq hA.e]; rw [Bool.eq_iff_iff]; simp_all <;> omega)
       | (rw [tou_eq hA.e]
          have hal : rows.all (fun r => spsB ((t.fr.length : Nat) : Int) r.1) = false := by
            rw [List.all_eq_false]
            refine ⟨_, List.mem_of_getElem? hr, ?_⟩
            rw [show spsB ((t.fr.length : Nat) : Int) rl = false from by assumption]; decide
          rw [hal]; simp; done)
       | (simp_all; done)
    ·have hG6 := hg6; try simp only [gS] at hG6
     refine sy_skip ?_
     refine then_n ?_
     refine sy_seq ?_
     refine sy_sq ?_
     refine o_v hf hh (yv_assign rfl) ?_; clear hf a; intro a hf
     refine o_end ?_
     refine sy_block ?_
     refine sy_loopF (σ := Nat) [2, 4, 23, 24, 25, 26, 27, 28, 29, 30, 31, 32, 33, 34, 35] (fun i => [(4, .int .i64 (i : Nat))]) (fun i => i ≤ t.fr.length ∧ (rows.take i).all (fun r => spsB ((t.fr.length : Nat) : Int) r.1) = true) (fun i => t.fr.length - i) (0) hf hh ?_ ?_ ?_
     · repeat' (first | exact True.intro | refine And.intro rfl ?_)
     · exact ⟨Nat.zero_le _, rfl⟩
     ·rintro i a w ⟨hi, hta⟩ hf hh
      refine sy_seq ?_
      refine sy_sq ?_
      refine o_v hf hh (yv_move rfl) ?_; clear hf a; intro a hf
      refine o_v hf hh (yv_move rfl) ?_; clear hf a; intro a hf
      refine o_v hf hh (yv_bin rfl rfl rfl) ?_; clear hf a; intro a hf
      refine o_end ?_
      refine sy_cond hf rfl (fun hg8 => ?_) (fun hg8 => ?_)
      ·have hG8 := hg8; try simp only [gS] at hG8
       refine sy_skip ?_
       refine then_n ?_
       refine sy_seq ?_
       refine sy_block ?_
       refine sy_seq ?_
       obtain ⟨⟨rl, rs, rc⟩, hr⟩ := ex_ofW (l := rows) (i := i) (by omega)
       obtain ⟨blk, off, cc, T, frr, es, hb, hc⟩ := hA.g i _ hr; dsimp only at es; subst es
       have hSr := hA.r _ (List.mem_of_getElem? hr)
       have hlr := hA.nr _ (List.mem_of_getElem? hr)
       simp only [maxLen] at hlr hSr
       have htk := all_take (f := fun r : RowD => spsB ((t.fr.length : Nat) : Int) r.1) hr
       refine sy_ops ?_
       refine o_v hf hh (yv_fieldAddr Tryz.fo_25_2 rfl) ?_; clear hf a; intro a hf
       refine o_v hf hh (y_ld Tryz.sc_23 rfl) ?_; clear hf a; intro a hf
       refine o_v hf hh (yv_move rfl) ?_; clear hf a; intro a hf
       refine o_v hf hh (y_ix Tryz.se_23 rfl rfl) ?_; clear hf a; intro a hf
       refine o_v hf hh (y_ld Tryz.sc_22 rfl) ?_; clear hf a; intro a hf
       refine o_v hf hh (yv_move rfl) ?_; clear hf a; intro a hf
       refine o_call hf Tryz.en_24 rfl rfl rfl (k24 rl rs rc ((t.fr.length : Nat) : Int) _ (hSr.ext hh.ext) hlr) ?_; clear hf a; intro v a w hR hf
       obtain ⟨rfl, hx⟩ := hR; replace hh := hh.more hx; clear hx
       refine o_v hf hh (yv_not rfl) ?_; clear hf a; intro a hf
       refine o_end ?_
       refine sy_cond hf rfl (fun hg10 => ?_) (fun hg10 => ?_)
       ·have hG10 := hg10; try simp only [gS] at hG10
        refine sy_sq ?_
        refine o_v hf hh (yv_assign rfl) ?_; clear hf a; intro a hf
        refine o_end ?_
        refine sy_ret ?_
        refine blk_r ?_
        refine then_r ?_
        refine then_r ?_
        refine blk_r ?_
        refine then_r ?_
        refine ret_r hf rfl rfl ?_
        refine ⟨congrArg Value.bool ?_, hh.ext⟩
        clear hf hh
        first
          | (rw [e0]; simp only [*, Bool.true_and, Bool.and_true, Bool.false_and, Bool.and_false]; done)
          | (rw [tou_eq hA.e]; simp_all; done)
          | (rw [tou_eq hA.e]; rw [Bool.eq_iff_iff]; simp_all <;> omega)
          | (rw [tou_eq hA.e]
             have hal : rows.all (fun r => spsB ((t.fr.length : Nat) : Int) r.1) = false := by
               rw [List.all_eq_false]
               refine ⟨_, List.mem_of_getElem? hr, ?_⟩
               rw [show spsB ((t.fr.length : Nat) : Int) rl = false from by assumption]; decide
             rw [hal]; simp; done)
          | (simp_all; done)
       ·have hG10 := hg10; try simp only [gS] at hG10
        refine sy_skip ?_
        refine blk_n ?_
        refine then_n ?_
        refine sy_ops ?_
        refine o_v hf hh (yv_move rfl) ?_; clear hf a; intro a hf
        refine o_v hf hh (y_add rfl rfl) ?_; clear hf a; intro a hf
        refine o_v hf hh (yv_assign rfl) ?_; clear hf a; intro a hf
        refine ops_end ?_
        refine then_n ?_
        exact ⟨i + 1, ⟨⟨by omega, by rw [htk, hta, Bool.true_and]; assumption⟩, (hf.head (by repeat' (first | exact True.intro | refine And.intro rfl ?_)) (Keep.cons rfl (Keep.cons rfl (Keep.cons rfl (Keep.cons rfl (Keep.cons rfl (Keep.cons rfl (Keep.cons rfl (Keep.cons rfl (Keep.cons rfl (Keep.cons rfl (Keep.cons rfl (Keep.cons rfl (Keep.cons rfl (Keep.cons rfl (Keep.app rfl (Keep.rm rfl Keep.base))))))))))))))))), hh⟩, by omega⟩
      ·have hG8 := hg8; try simp only [gS] at hG8
       refine sy_exit ?_
       refine then_e ?_
       refine then_e ?_
       refine blk_e ?_
       refine then_n ?_
       refine sy_seq ?_
       have hal : rows.all (fun r => spsB ((t.fr.length : Nat) : Int) r.1) = true := by rw [← List.take_of_length_le (l := rows) (i := i) (by omega)]; exact hta
       have e0 : touB t = (spsB ((t.fr.length : Nat) : Int) t.fr && spsB ((t.fr.length : Nat) : Int) t.stay && spsB ((t.fr.length : Nat) : Int) t.light) := by
         rw [tou_eq hA.e]
         dsimp only
         rw [hal, decide_eq_true (show t.fr.length ≤ 6 by omega), decide_eq_true (show rows.length = t.fr.length by omega), show inW t.dawn 0 1440 = true from by assumption]; simp only [Bool.true_and]
       refine sy_ops ?_
       refine o_v hf hh (yv_fieldAddr Tryz.fo_25_1 rfl) ?_; clear hf a; intro a hf
       refine o_v hf hh (y_ld Tryz.sc_22 rfl) ?_; clear hf a; intro a hf
       refine o_v hf hh (yv_move rfl) ?_; clear hf a; intro a hf
       refine o_call hf Tryz.en_24 rfl rfl rfl (k24 t.fr sf cf ((t.fr.length : Nat) : Int) _ (hA.f.ext hh.ext) hnf) ?_; clear hf a; intro v a w hR hf
       obtain ⟨rfl, hx⟩ := hR; replace hh := hh.more hx; clear hx
       refine o_v hf hh (yv_move rfl) ?_; clear hf a; intro a hf
       refine guard_split hf (t := 40) rfl (fun hg12 => ?_) (fun hg12 => ?_)
       ·have hG12 := hg12; try simp only [gS] at hG12
        refine o_v hf hh (yv_fieldAddr Tryz.fo_25_3 rfl) ?_; clear hf a; intro a hf
        refine o_v hf hh (y_ld Tryz.sc_22 rfl) ?_; clear hf a; intro a hf
        refine o_v hf hh (yv_move rfl) ?_; clear hf a; intro a hf
        refine o_call hf Tryz.en_24 rfl rfl rfl (k24 t.stay ss cs ((t.fr.length : Nat) : Int) _ (hA.s.ext hh.ext) hns) ?_; clear hf a; intro v a w hR hf
        obtain ⟨rfl, hx⟩ := hR; replace hh := hh.more hx; clear hx
        refine o_v hf hh (y_pt rfl rfl) ?_; clear hf a; intro a hf
        refine o_v hf hh (yv_move rfl) ?_; clear hf a; intro a hf
        refine guard_split hf (t := 46) rfl (fun hg14 => ?_) (fun hg14 => ?_)
        ·have hG14 := hg14; try simp only [gS] at hG14
         refine o_v hf hh (yv_fieldAddr Tryz.fo_25_4 rfl) ?_; clear hf a; intro a hf
         refine o_v hf hh (y_ld Tryz.sc_22 rfl) ?_; clear hf a; intro a hf
         refine o_v hf hh (yv_move rfl) ?_; clear hf a; intro a hf
         refine o_call hf Tryz.en_24 rfl rfl rfl (k24 t.light sl cl ((t.fr.length : Nat) : Int) _ (hA.l.ext hh.ext) hnl) ?_; clear hf a; intro v a w hR hf
         obtain ⟨rfl, hx⟩ := hR; replace hh := hh.more hx; clear hx
         refine o_v hf hh (y_pt rfl rfl) ?_; clear hf a; intro a hf
         refine o_v hf hh (yv_assign rfl) ?_; clear hf a; intro a hf
         refine o_end ?_
         refine sy_ret ?_
         refine ret_r hf rfl rfl ?_
         refine ⟨congrArg Value.bool ?_, hh.ext⟩
         clear hf hh
         first
           | (rw [e0]; simp only [*, Bool.true_and, Bool.and_true, Bool.false_and, Bool.and_false]; done)
           | (rw [tou_eq hA.e]; simp_all; done)
           | (rw [tou_eq hA.e]; rw [Bool.eq_iff_iff]; simp_all <;> omega)
           | (rw [tou_eq hA.e]
              have hal : rows.all (fun r => spsB ((t.fr.length : Nat) : Int) r.1) = false := by
                rw [List.all_eq_false]
                refine ⟨_, List.mem_of_getElem? hr, ?_⟩
                rw [show spsB ((t.fr.length : Nat) : Int) rl = false from by assumption]; decide
              rw [hal]; simp; done)
           | (simp_all; done)
        ·have hG14 := hg14; try simp only [gS] at hG14
         refine o_off hf ?_; clear hf a; intro a hf
         refine o_off hf ?_; clear hf a; intro a hf
         refine o_off hf ?_; clear hf a; intro a hf
         refine o_off hf ?_; clear hf a; intro a hf
         refine o_v hf hh (y_pf rfl rfl) ?_; clear hf a; intro a hf
         refine o_v hf hh (yv_assign rfl) ?_; clear hf a; intro a hf
         refine o_end ?_
         refine sy_ret ?_
         refine ret_r hf rfl rfl ?_
         refine ⟨congrArg Value.bool ?_, hh.ext⟩
         clear hf hh
         first
           | (rw [e0]; simp only [*, Bool.true_and, Bool.and_true, Bool.false_and, Bool.and_false]; done)
           | (rw [tou_eq hA.e]; simp_all; done)
           | (rw [tou_eq hA.e]; rw [Bool.eq_iff_iff]; simp_all <;> omega)
           | (rw [tou_eq hA.e]
              have hal : rows.all (fun r => spsB ((t.fr.length : Nat) : Int) r.1) = false := by
                rw [List.all_eq_false]
                refine ⟨_, List.mem_of_getElem? hr, ?_⟩
                rw [show spsB ((t.fr.length : Nat) : Int) rl = false from by assumption]; decide
              rw [hal]; simp; done)
           | (simp_all; done)
       ·have hG12 := hg12; try simp only [gS] at hG12
        refine o_off hf ?_; clear hf a; intro a hf
        refine o_off hf ?_; clear hf a; intro a hf
        refine o_off hf ?_; clear hf a; intro a hf
        refine o_off hf ?_; clear hf a; intro a hf
        refine o_v hf hh (y_pf rfl rfl) ?_; clear hf a; intro a hf
        refine o_v hf hh (yv_move rfl) ?_; clear hf a; intro a hf
        refine o_off hf ?_; clear hf a; intro a hf
        refine o_off hf ?_; clear hf a; intro a hf
        refine o_off hf ?_; clear hf a; intro a hf
        refine o_off hf ?_; clear hf a; intro a hf
        refine o_v hf hh (y_pf rfl rfl) ?_; clear hf a; intro a hf
        refine o_v hf hh (yv_assign rfl) ?_; clear hf a; intro a hf
        refine o_end ?_
        refine sy_ret ?_
        refine ret_r hf rfl rfl ?_
        refine ⟨congrArg Value.bool ?_, hh.ext⟩
        clear hf hh
        first
          | (rw [e0]; simp only [*, Bool.true_and, Bool.and_true, Bool.false_and, Bool.and_false]; done)
          | (rw [tou_eq hA.e]; simp_all; done)
          | (rw [tou_eq hA.e]; rw [Bool.eq_iff_iff]; simp_all <;> omega)
          | (rw [tou_eq hA.e]
             have hal : rows.all (fun r => spsB ((t.fr.length : Nat) : Int) r.1) = false := by
               rw [List.all_eq_false]
               refine ⟨_, List.mem_of_getElem? hr, ?_⟩
               rw [show spsB ((t.fr.length : Nat) : Int) rl = false from by assumption]; decide
             rw [hal]; simp; done)
          | (simp_all; done)
end Go.Proofs.YtccpgpnekoncoaaGreat

namespace Go.Proofs.YtccpgpnekoncoaaGreat
open Go Go.Sy Go.WalM
theorem k15 (x y : Int) (u : World) : Calls Tryz.prog 15 #[.int .i64 x, .int .i64 y] u (Ret fun v w' => v = swV (x, y) ∧ Ext [] u w') := by
  refine calls_of Tryz.func15 rfl rfl (fun a hf => ?_)
  have hh := Hp.init u []
  refine sy_sq ?_
  refine o_alloc hf hh Tryz.ze_49 ?_; clear hf hh a; intro B4 a w hf hh
  refine o_end ?_
  refine sy_sq ?_
  refine o_v hf hh (yv_move rfl) ?_; clear hf a; intro a hf
  refine o_v hf hh (yv_move rfl) ?_; clear hf a; intro a hf
  refine o_v hf hh (yv_buildS Tryz.bs_49 rfl rfl) ?_; clear hf a; intro a hf
  refine o_store hf hh Tryz.sz_49 fun w hh => ?_
  refine o_end ?_
  refine sy_ret ?_
  refine ret_c (vs := [swV (x, y)]) hf ?_ ?_
  · exact ⟨⟨B4, 0, _, _, _, rfl, hh.at (i := 0) rfl, .inr ⟨2, _, Tryz.ag_49, rfl, rfl⟩⟩, True.intro⟩
  · exact ⟨rfl, hh.ext⟩
end Go.Proofs.YtccpgpnekoncoaaGreat

