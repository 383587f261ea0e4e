/- Lemmas, in order: Whether something holds all the way. Whether an order is walked.. -/
import Derived.Test.YtccpgpnekoncoaaGreatQ19
namespace Go.Proofs.YtccpgpnekoncoaaGreat
open Go Go.Sy Go.WalM
theorem meth82 : methS Tryz.prog 82 "pairworks/walk.holds" = some 74 := by kernel_rfl
theorem meth83 : methS Tryz.prog 83 "pairworks/walk.holds" = some 194 := by kernel_rfl
theorem k194 (t : TourD) (p : TPl) (Bt : Nat) (u : World) (hB : u.heap[Bt]? = some (.cells (tpC t p) 136 (0, 0))) (hA : TouAt u t p) (hO : TourOk t) (v : Nat) (m : Int × Int) (hv : v < t.fr.length) : Calls Tryz.prog 194 #[.agg #[], ptr Bt 0, .int .i64 (v : Nat), swV m] u (Ret fun z w' => z = .bool (canV t v m) ∧ Ext [] u w') := by
  refine calls_of Tryz.func194 rfl rfl (fun a hf => ?_)
  have hh := Hp.init u []
  obtain ⟨sf, sw, ss, sl, cf, cw, cs, cl, rows⟩ := p
  have hll : t.light.length = t.fr.length := hO.ll
  obtain ⟨blk1, off1, cc1, T1, fr1, es1, hb1, hc1⟩ := hA.l v _ (sp_at (l := t.light) (v := v) (by omega))
  dsimp only at es1; subst es1
  have hp1 := (cells_two hc1).1
  have hq1 := (cells_two hc1).2
  refine sy_sq ?_
  refine o_box hf hh ?_; clear hf hh a; intro B4 a w hf hh
  refine o_box hf hh ?_; clear hf hh a; intro B7 a w hf hh
  refine o_v hf hh (yv_assign rfl) ?_; clear hf a; intro a hf
  refine o_end ?_
  refine sy_seq ?_
  refine sy_tree1 (.p 0 (.q 0 1 (.p 2 (.p 3 (.p 4 (.p 5 (.q 0 6 (.p 7 (.p 8 (.p 9 (.q 0 10 (.p 11 (.p 12 (.fin)))))))))))))) [] Tryz.follows (by kernel_rfl) hh (fun w hh => ?_)
  refine mc_p rfl   hf (yv_fieldAddr Tryz.fo_131_0 rfl) (.inl rfl) rfl rfl ?_; clear hf a; intro a hf
  refine mc_q rfl rfl hh hf (y_ld Tryz.sc_3 rfl) (.inl rfl) rfl rfl ?_; clear hf a; intro a hf
  refine mc_p rfl   hf (yv_move rfl) (.inl rfl) rfl rfl ?_; clear hf a; intro a hf
  refine mc_p rfl   hf (yv_nilCheck rfl) (.inl rfl) rfl rfl ?_; clear hf a; intro a hf
  refine mc_p rfl   hf (yv_fieldAddr Tryz.fo_136_0 rfl) (.inl rfl) rfl rfl ?_; clear hf a; intro a hf
  refine mc_p rfl   hf (yv_fieldAddr Tryz.fo_25_4 rfl) (.inl rfl) rfl rfl ?_; clear hf a; intro a hf
  refine mc_q rfl rfl hh hf (y_ld Tryz.sc_22 rfl) (.inl rfl) rfl rfl ?_; clear hf a; intro a hf
  refine mc_p rfl   hf (yv_move rfl) (.inl rfl) rfl rfl ?_; clear hf a; intro a hf
  refine mc_p rfl   hf (y_ix Tryz.se_22 rfl rfl) (.inl rfl) rfl rfl ?_; clear hf a; intro a hf
  refine mc_p rfl   hf (yv_fieldAddr Tryz.fo_49_1 rfl) (.inl rfl) rfl rfl ?_; clear hf a; intro a hf
  refine mc_q rfl rfl hh hf (y_ld Tryz.sc_3 rfl) (.inl rfl) rfl rfl ?_; clear hf a; intro a hf
  refine mc_p rfl   hf (yv_bin rfl rfl rfl) (.inl rfl) rfl rfl ?_; clear hf a; intro a hf
  refine mc_p rfl   hf (yv_assign rfl) (.inl rfl) rfl rfl ?_; clear hf a; intro a hf
  refine mc_end ?_
  refine then_n ?_
  refine sy_ret ?_
  refine ret_r hf rfl rfl ?_
  exact ⟨rfl, hh.ext⟩
theorem k70 (Bt : Nat) (so : Option Addr) (ln co : Nat) (t : TourD) (p : TPl) (u : World) (hB : u.heap[Bt]? = some (.cells (tpC t p) 136 (0, 0))) : Calls Tryz.prog 70 #[ptr Bt 0, .slice so ln co] u (Ret fun v w' => ∃ B2 B6 B3, v = .tuple #[.func (.func 97) #[] #[ptr B2 0, ptr B6 0, ptr B3 0], .func (.func 98) #[] #[ptr B6 0]] ∧ Hp u [] [(B6, .cells #[.int .i64 t.dawn, .int .i64 t.dawn] 131), (B3, .cells #[.slice so ln co] 28), (B2, .cells #[ptr Bt 0] 75)] w') := by
  refine calls_of Tryz.func70 rfl rfl (fun a hf => ?_)
  have hh := Hp.init u []
  refine sy_sq ?_
  refine o_box hf hh ?_; clear hf hh a; intro B2 a w hf hh
  refine o_box hf hh ?_; clear hf hh a; intro B3 a w hf hh
  refine o_v hf hh (yv_assign rfl) ?_; clear hf a; intro a hf
  refine o_v hf hh (yv_assign rfl) ?_; clear hf a; intro a hf
  refine o_end ?_
  refine sy_seq ?_
  refine sy_tree1 (.q 0 0 (.p 1 (.p 2 (.p 3 (.q 0 4 (.q 0 5 (.p 6 (.p 7 (.p 8 (.q 0 9 (.p 10 (.e1 11 (.e1 12 (.fin)))))))))))))) [12] Tryz.follows (by kernel_rfl) hh (fun w hh => ?_)
  refine mc_q rfl rfl hh hf (y_ld Tryz.sc_75 rfl) (.inl rfl) rfl rfl ?_; clear hf a; intro a hf
  refine mc_p rfl   hf (yv_nilCheck rfl) (.inl rfl) rfl rfl ?_; clear hf a; intro a hf
  refine mc_p rfl   hf (yv_fieldAddr Tryz.fo_136_0 rfl) (.inl rfl) rfl rfl ?_; clear hf a; intro a hf
  refine mc_p rfl   hf (yv_fieldAddr Tryz.fo_25_0 rfl) (.inl rfl) rfl rfl ?_; clear hf a; intro a hf
  refine mc_q rfl rfl hh hf (y_ld Tryz.sc_3 rfl) (.inl rfl) rfl rfl ?_; clear hf a; intro a hf
  refine mc_q rfl rfl hh hf (y_ld Tryz.sc_75 rfl) (.inl rfl) rfl rfl ?_; clear hf a; intro a hf
  refine mc_p rfl   hf (yv_nilCheck rfl) (.inl rfl) rfl rfl ?_; clear hf a; intro a hf
  refine mc_p rfl   hf (yv_fieldAddr Tryz.fo_136_0 rfl) (.inl rfl) rfl rfl ?_; clear hf a; intro a hf
  refine mc_p rfl   hf (yv_fieldAddr Tryz.fo_25_0 rfl) (.inl rfl) rfl rfl ?_; clear hf a; intro a hf
  refine mc_q rfl rfl hh hf (y_ld Tryz.sc_3 rfl) (.inl rfl) rfl rfl ?_; clear hf a; intro a hf
  refine mc_p rfl   hf (yv_buildS Tryz.bs_131 rfl rfl) (.inl rfl) rfl rfl ?_; clear hf a; intro a hf
  refine mc_e rfl fun Q1 => ?_
  refine o_alloc hf hh Tryz.ze_131 ?_; clear hf hh a; intro B6 a w hf hh
  refine ops_end ?_
  refine then_n ⟨⟨fun _ _ => (hh.less (.cons _ (List.Sublist.refl _))), trivial⟩, ?_⟩
  refine mc_e rfl fun Q1 => ?_
  refine o_store hf hh Tryz.sz_131 fun w hh => ?_
  refine ops_end ?_
  refine then_n ⟨⟨fun h => Bool.noConfusion (show true = false from h), trivial⟩, ?_⟩
  refine mc_end ?_
  refine then_n ?_
  refine sy_sq ?_
  refine o_v hf hh (yv_makeFunc rfl rfl) ?_; clear hf a; intro a hf
  refine o_v hf hh (yv_assign rfl) ?_; clear hf a; intro a hf
  refine o_end ?_
  refine sy_sq ?_
  refine o_v hf hh (yv_move rfl) ?_; clear hf a; intro a hf
  refine o_v hf hh (yv_makeFunc rfl rfl) ?_; clear hf a; intro a hf
  refine o_v hf hh (yv_assign rfl) ?_; clear hf a; intro a hf
  refine o_v hf hh (yv_assign rfl) ?_; clear hf a; intro a hf
  refine o_end ?_
  refine sy_ret ?_
  refine ret_r hf rfl rfl ?_
  exact ⟨B2, B6, B3, rfl, hh⟩
set_option maxRecDepth 100000 in
theorem k39 (t : TourD) (p : TPl) (Bt : Nat) (u : World) (hB : u.heap[Bt]? = some (.cells (tpC t p) 136 (0, 0))) (hA : TouAt u t p) (hO : TourOk t) (od : List Nat) (so : Option Addr) (co : Nat) (hL : VwAt u so (ints od)) (hor : ∀ v ∈ od, v < t.fr.length) (hll : od.length ≤ 6) (T : TypeId) (f : FuncId) (hol : Nat → Int × Int → Bool) (hmt : methS Tryz.prog T "pairworks/walk.holds" = some f) (hE : Enters Tryz.prog f)
    (hcall : ∀ (v : Nat) (m : Int × Int) (w1 : World), v < t.fr.length → CellsLe u w1 → Calls Tryz.prog f #[.agg #[], ptr Bt 0, .int .i64 (v : Nat), swV m] w1 (Ret fun z w' => z = .bool (hol v m) ∧ Ext [] w1 w')) :
    Calls Tryz.prog 39 #[ptr Bt 0, .slice so od.length co, .iface T (.agg #[])] u (Ret fun z w' => z = .bool ((begL t od).all fun x => hol x.1 x.2) ∧ Ext [] u w') := by
  refine calls_ofM Tryz.func39 rfl rfl (fun a hf => ?_)
  have hh := Hp.init u []
  refine sy_sq ?_
  refine o_box hf hh ?_; clear hf hh a; intro B3 a w hf hh
  refine o_box hf hh ?_; clear hf hh a; intro B5 a w hf hh
  refine o_alloc hf hh Tryz.ze_4 ?_; clear hf hh a; intro B6 a w hf hh
  refine o_end ?_
  refine sy_sq ?_
  refine o_v hf hh (y_ld Tryz.sc_75 rfl) ?_; clear hf a; intro a hf
  refine o_v hf hh (yv_move rfl) ?_; clear hf a; intro a hf
  refine o_call hf Tryz.en_70 rfl rfl rfl (k70 Bt so od.length co t p _ (hh.old hB)) ?_; clear hf a; intro v a w hR hf
  obtain ⟨Ca, Cb, Cc, rfl, hx⟩ := hR; replace hh := hh.join hx; clear hx
  refine o_v hf hh (yv_move rfl) ?_; clear hf a; intro a hf
  refine o_v hf hh (yv_extract rfl rfl) ?_; clear hf a; intro a hf
  refine o_v hf hh (yv_extract rfl rfl) ?_; clear hf a; intro a hf
  refine o_v hf hh (yv_assign rfl) ?_; clear hf a; intro a hf
  refine o_v hf hh (yv_assign rfl) ?_; clear hf a; intro a hf
  refine o_end ?_
  refine sy_seq ?_
  refine sy_seq ?_
  replace hh : Hp u [] ((Cb, .cells #[.int .i64 (t.dawn, t.dawn).1, .int .i64 (t.dawn, t.dawn).2] 131) :: [(Cc, .cells #[.slice so od.length co] 28), (Ca, .cells #[ptr Bt 0] 75), (B6, .cells #[.bool false] 4), (B5, .cells #[.iface T (.agg #[])] 150), (B3, .cells #[ptr Bt 0] 75)]) w := hh
  have hW := own_walk (X := [(B6, Obj.cells #[.bool false] 4), (B5, Obj.cells #[.iface T (.agg #[])] 150), (B3, Obj.cells #[ptr Bt 0] 75)]) (Z := [(Ca, Obj.cells #[ptr Bt 0] 75), (Cc, Obj.cells #[.slice so od.length co] 28)]) (is := [2, 3, 4]) (js := [1, 0]) (R := fun _ => True) hh rfl rfl (by decide) trivial
  replace hW := hW.add hB
  replace hh := hh.less (.cons _ (.cons _ (.cons _ (.refl _))))
  refine sy_ops ?_
  refine o_v hf hh (yv_move rfl) ?_; clear hf a; intro a hf
  refine o_end ?_
  refine sy_block ?_
  refine sy_rangeHE (I := fun k H => H = [(B6, .cells #[.bool false] 4), (B5, .cells #[.iface T (.agg #[])] 150), (B3, .cells #[ptr Bt 0] 75)] ∧ ((begL t od).take k).all (fun x => hol x.1 x.2) = true) (X := fun k c H => c = .ret ∧ H = [(B6, .cells #[.bool false] 4), (B5, .cells #[.iface T (.agg #[])] 150), (B3, .cells #[ptr Bt 0] 75)] ∧ (begL t od).all (fun x => hol x.1 x.2) = false) hf hh Tryz.en_97 rfl (it97 t p Bt u hA hO od so co hL hor hll Ca Cb Cc) (fun x hx => .inr (by rw [List.mem_singleton.1 hx]; exact hW.s)) rfl (by intro x hx; obtain ⟨y, _, rfl⟩ := List.mem_map.1 hx; rfl) ?_ ?_ ?_ ?_ ?_ ?_ ?_
  · exact ⟨rfl, rfl⟩
  · intro N1 w1 e1 g1
    exact hW.yield (e1.mono (by simp)) g1
  ·rintro k x fn D l H w a tm hx ⟨rfl, hta⟩ hv hh hf
   obtain ⟨q, hq, rfl⟩ : ∃ q, (begL t od)[k]? = some q ∧ x = stA q := by
     rw [List.getElem?_map] at hx
     cases e : (begL t od)[k]? with
     | none => rw [e] at hx; cases hx
     | some y => rw [e] at hx; cases hx; exact ⟨y, rfl, rfl⟩
   have hq1 : q.1 ∈ od := beg_mem (List.mem_of_getElem? hq)
   have hl0 := hh.at (i := 0) rfl
   have hD0 := hh.at (i := 1) rfl
   refine sy_sq ?_
   refine o_v hf hh (yv_assign rfl) ?_; clear hf a; intro a hf
   refine o_end ?_
   refine sy_ops ?_
   refine o_alloc hf hh Tryz.ze_131 ?_; clear hf hh a; intro B10 a w hf hh
   refine o_store hf hh Tryz.sz_131 fun w hh => ?_
   refine ops_end ?_
   refine then_n (Go.Sy.begun (i := 1) hh rfl fun w hh => ?_)
   refine sy_block ?_
   refine sy_sq ?_
   refine o_v hf hh (y_ld Tryz.sc_150 rfl) ?_; clear hf a; intro a hf
   refine o_v hf hh (y_ld Tryz.sc_75 rfl) ?_; clear hf a; intro a hf
   refine o_v hf hh (yv_move rfl) ?_; clear hf a; intro a hf
   refine o_v hf hh (y_lds Tryz.ag_131 rfl) ?_; clear hf a; intro a hf
   refine o_invokeS hf hmt hE rfl rfl rfl (hcall q.1 q.2 _ (hor q.1 hq1) (round_cells hv hl0 hD0 (fun x hx => by
     simp only [List.mem_cons] at hx ⊢
     exact hx) hh.ext)) ?_; clear hf a; intro v a w hR hf
   obtain ⟨rfl, hx⟩ := hR; replace hh := hh.more hx; clear hx
   refine o_v hf hh (yv_not rfl) ?_; clear hf a; intro a hf
   refine o_end ?_
   refine sy_cond hf rfl (fun hg7 => ?_) (fun hg7 => ?_)
   ·have hG7 := hg7; try simp only [gS] at hG7
    refine sy_sq ?_
    refine o_store hf hh Tryz.sz_4 fun w hh => ?_
    refine o_end ?_
    refine sy_ret ?_
    refine blk_r ?_
    refine ⟨_, ⟨rfl, rfl, ?_⟩, (hh.less (.cons _ (List.Sublist.refl _)))⟩
    rw [List.all_eq_false]
    exact ⟨q, List.mem_of_getElem? hq, by simp_all⟩
   ·have hG7 := hg7; try simp only [gS] at hG7
    refine sy_skip ?_
    refine blk_n ?_
    exact ⟨_, ⟨rfl, by rw [take_snoc hq, List.all_append, hta]; simp_all⟩, (hh.less (.cons _ (List.Sublist.refl _)))⟩
  ·rintro D H N2 a w ⟨rfl, hta⟩ hOw hsN hf hh
   rw [List.length_map, List.take_length] at hta
   refine blk_n ?_
   refine then_n ?_
   refine sy_sq ?_
   refine o_store hf hh Tryz.sz_4 fun w hh => ?_
   refine o_end ?_
   refine sy_ret ?_
   first
     | (rw [hfa]; exact ret_m (Ds := [D]) hf hh fun w' hh => ⟨[.bool false], ⟨⟨B6, 0, _, _, _, rfl, hh.at (i := 0) rfl, .inl ⟨Tryz.sc_4, rfl⟩⟩, True.intro⟩, rfl, hh.ext⟩)
     | (rw [hta]; exact ret_m (Ds := [D]) hf hh fun w' hh => ⟨[.bool true], ⟨⟨B6, 0, _, _, _, rfl, hh.at (i := 0) rfl, .inl ⟨Tryz.sc_4, rfl⟩⟩, True.intro⟩, rfl, hh.ext⟩)
  ·rintro k c D H N2 a w hX hOw hf hh
   obtain ⟨rfl, rfl, hfa⟩ := hX
   refine sy_ret ?_
   refine blk_r ?_
   refine then_r ?_
   first
     | (rw [hfa]; exact ret_m (Ds := [D]) hf hh fun w' hh => ⟨[.bool false], ⟨⟨B6, 0, _, _, _, rfl, hh.at (i := 0) rfl, .inl ⟨Tryz.sc_4, rfl⟩⟩, True.intro⟩, rfl, hh.ext⟩)
     | (rw [hta]; exact ret_m (Ds := [D]) hf hh fun w' hh => ⟨[.bool true], ⟨⟨B6, 0, _, _, _, rfl, hh.at (i := 0) rfl, .inl ⟨Tryz.sc_4, rfl⟩⟩, True.intro⟩, rfl, hh.ext⟩)
  · rintro N v v' b h hb e; exact h.one e hb
  · rintro N v v' b h hb e; exact h.one e hb
end Go.Proofs.YtccpgpnekoncoaaGreat

namespace Go.Proofs.YtccpgpnekoncoaaGreat
open Go Go.Sy Go.WalM
theorem k37 (t : TourD) (p : TPl) (l : List Int) (so : Option Addr) (co : Nat) (Bt B3 : Nat) (u : World) (hB : u.heap[Bt]? = some (.cells (tpC t p) 136 (0, 0))) (hn : t.fr.length ≤ 6) (hL : VwAt u so l) (hl : l.length ≤ 4000000000) (h3 : u.heap[B3]? = some (.cells #[.slice so l.length co] 28 (0, 0))) : Calls Tryz.prog 37 #[ptr Bt 0, ptr B3 0] u (Ret fun v w' => v = .bool (ordB t.fr.length l) ∧ Ext [] u w') := by
  refine calls_of Tryz.func37 rfl rfl (fun a hf => ?_)
  have hh := Hp.init u []
  refine sy_sq ?_
  refine o_v hf hh (yv_assign rfl) ?_; clear hf a; intro a hf
  refine o_end ?_
  refine sy_sq ?_
  refine o_v hf hh (yv_move rfl) ?_; clear hf a; intro a hf
  refine o_v hf hh (y_ld Tryz.sc_28 rfl) ?_; clear hf a; intro a hf
  refine o_call hf Tryz.en_38 rfl rfl rfl (k38 t p l so co Bt _ (hh.old hB) hn (hL.ext hh.ext) hl) ?_; clear hf a; intro v a w hR hf
  obtain ⟨rfl, hx⟩ := hR; replace hh := hh.more hx; clear hx
  refine o_v hf hh (yv_assign rfl) ?_; clear hf a; intro a hf
  refine o_end ?_
  refine sy_ret ?_
  refine ret_r hf rfl rfl ?_
  exact ⟨rfl, hh.ext⟩
theorem k39s (t : TourD) (p : TPl) (Bt : Nat) (u : World) (hB : u.heap[Bt]? = some (.cells (tpC t p) 136 (0, 0))) (hA : TouAt u t p) (hO : TourOk t) (l : List Nat) (so : Option Addr) (co : Nat) (hL : VwAt u so (ints l)) (hor : ∀ v ∈ l, v < t.fr.length) (hll : l.length ≤ 6) : Calls Tryz.prog 39 #[ptr Bt 0, .slice so l.length co, .iface 82 (.agg #[])] u (Ret fun z w' => z = .bool (surB t l) ∧ Ext [] u w') :=
  k39 t p Bt u hB hA hO l so co hL hor hll 82 74 (surV t) meth82 Tryz.en_74 (fun v m w1 hv e => k74 t p Bt w1 (e _ _ _ _ hB) (hA.cells e) hO v m hv)
theorem k39c (t : TourD) (p : TPl) (Bt : Nat) (u : World) (hB : u.heap[Bt]? = some (.cells (tpC t p) 136 (0, 0))) (hA : TouAt u t p) (hO : TourOk t) (l : List Nat) (so : Option Addr) (co : Nat) (hL : VwAt u so (ints l)) (hor : ∀ v ∈ l, v < t.fr.length) (hll : l.length ≤ 6) : Calls Tryz.prog 39 #[ptr Bt 0, .slice so l.length co, .iface 83 (.agg #[])] u (Ret fun z w' => z = .bool (canB t l) ∧ Ext [] u w') :=
  k39 t p Bt u hB hA hO l so co hL hor hll 83 194 (canV t) meth83 Tryz.en_194 (fun v m w1 hv e => k194 t p Bt w1 (e _ _ _ _ hB) (hA.cells e) hO v m hv)
def walN (t : TourD) (l : List Nat) : Int := if surB t l = true then 2 else if canB t l = true then 1 else 0
set_option maxRecDepth 100000 in
theorem k12 (t : TourD) (p : TPl) (u : World) (hA : TouAt u t p) (hok : touB t = true) (l : List Nat) (so : Option Addr) (co : Nat) (hL : VwAt u so (ints l)) (hod : ordB t.fr.length (ints l) = true) (hor : ∀ v ∈ l, v < t.fr.length) (hll : l.length ≤ 6) : Calls Tryz.prog 12 #[.agg (touC t p), .slice so l.length co] u (Ret fun v w' => v = .tuple #[.int .i64 (walN t l), .int .i64 0] ∧ Ext [] u w') := by
  refine calls_ofM Tryz.func12 rfl rfl (fun a hf => ?_)
  have hh := Hp.init u []
  have hO := touB_iff.1 hok
  have hn6 : t.fr.length ≤ 6 := hO.n6
  refine sy_sq ?_
  refine o_box hf hh ?_; clear hf hh a; intro B2 a w hf hh
  refine o_box hf hh ?_; clear hf hh a; intro B3 a w hf hh
  refine o_v hf hh (yv_assign rfl) ?_; clear hf a; intro a hf
  refine o_alloc hf hh Tryz.ze_34 ?_; clear hf hh a; intro B5 a w hf hh
  refine o_end ?_
  refine sy_sq ?_
  refine o_v hf hh (yv_makeFunc rfl rfl) ?_; clear hf a; intro a hf
  refine o_defer hf ?_; clear hf a; intro a hf
  refine o_end ?_
  refine sy_sq ?_
  refine o_v hf hh (y_lds Tryz.ag_25 rfl) ?_; clear hf a; intro a hf
  refine o_v hf hh (yv_makeFunc rfl rfl) ?_; clear hf a; intro a hf
  refine o_callX hf Tryz.en_30 rfl rfl rfl (k30 t p _ (hA.ext hh.ext) 37 #[ptr B3 0] (ordB t.fr.length (ints l)) Tryz.en_37 (fun _ Bc w2 e hc => k37 t p (ints l) so co Bc B3 w2 hc hn6 ((hL.ext hh.ext).ext e) (by rw [ints_len]; omega) (by rw [ints_len]; exact e.get (hh.at (i := 1) rfl)))) ?_ ?_
  ·clear hf a; intro v a w hR hf
   obtain ⟨he, Bc, rfl, hx⟩ := hR; replace hh := hh.join hx; clear hx
   refine o_v hf hh (yv_assign rfl) ?_; clear hf a; intro a hf
   refine o_end ?_
   refine sy_seq ?_
   refine sy_block ?_
   refine sy_sq ?_
   refine o_v hf hh (yv_move rfl) ?_; clear hf a; intro a hf
   refine o_v hf hh (y_ld Tryz.sc_28 rfl) ?_; clear hf a; intro a hf
   refine o_v hf hh (yv_buildS Tryz.bs_82 rfl rfl) ?_; clear hf a; intro a hf
   refine o_v hf hh (yv_makeIface (by kernel_rfl) rfl) ?_; clear hf a; intro a hf
   refine o_call hf Tryz.en_39 rfl rfl rfl (k39s t p Bc _ (hh.at (i := 0) rfl) (hA.ext hh.ext) hO l so co (hL.ext hh.ext) hor hll) ?_; clear hf a; intro v a w hR hf
   obtain ⟨rfl, hx⟩ := hR; replace hh := hh.more hx; clear hx
   refine o_v hf hh (yv_assign rfl) ?_; clear hf a; intro a hf
   refine o_end ?_
   refine sy_cond hf rfl (fun hg3 => ?_) (fun hg3 => ?_)
   ·have hG3 := hg3; try simp only [gS] at hG3
    refine sy_sq ?_
    refine o_v hf hh (yv_assign rfl) ?_; clear hf a; intro a hf
    refine o_store hf hh Tryz.sz_34 fun w hh => ?_
    refine o_end ?_
    refine sy_ret ?_
    refine blk_r ?_
    refine then_r ?_
    have hwn : walN t l = 2 := by
      unfold walN
      simp_all
    exact ret_d (Ds := []) hf hh Tryz.en_36 (fun w' => kd36r B5 w') fun w' hh => ⟨[.int .i64 2, .int .i64 0], ⟨rfl, ⟨B5, 0, _, _, _, rfl, hh.at (i := 1) rfl, .inl ⟨Tryz.sc_34, rfl⟩⟩, True.intro⟩, by rw [hwn]; rfl, hh.ext⟩
   ·have hG3 := hg3; try simp only [gS] at hG3
    refine sy_sq ?_
    refine o_v hf hh (yv_move rfl) ?_; clear hf a; intro a hf
    refine o_v hf hh (y_ld Tryz.sc_28 rfl) ?_; clear hf a; intro a hf
    refine o_v hf hh (yv_buildS Tryz.bs_83 rfl rfl) ?_; clear hf a; intro a hf
    refine o_v hf hh (yv_makeIface (by kernel_rfl) rfl) ?_; clear hf a; intro a hf
    refine o_call hf Tryz.en_39 rfl rfl rfl (k39c t p Bc _ (hh.at (i := 0) rfl) (hA.ext hh.ext) hO l so co (hL.ext hh.ext) hor hll) ?_; clear hf a; intro v a w hR hf
    obtain ⟨rfl, hx⟩ := hR; replace hh := hh.more hx; clear hx
    refine o_v hf hh (yv_assign rfl) ?_; clear hf a; intro a hf
    refine o_end ?_
    refine sy_cond hf rfl (fun hg5 => ?_) (fun hg5 => ?_)
    ·have hG5 := hg5; try simp only [gS] at hG5
     refine sy_sq ?_
     refine o_v hf hh (yv_assign rfl) ?_; clear hf a; intro a hf
     refine o_store hf hh Tryz.sz_34 fun w hh => ?_
     refine o_end ?_
     refine sy_ret ?_
     refine blk_r ?_
     refine then_r ?_
     have hwn : walN t l = 1 := by
       unfold walN
       simp_all
     exact ret_d (Ds := []) hf hh Tryz.en_36 (fun w' => kd36r B5 w') fun w' hh => ⟨[.int .i64 1, .int .i64 0], ⟨rfl, ⟨B5, 0, _, _, _, rfl, hh.at (i := 1) rfl, .inl ⟨Tryz.sc_34, rfl⟩⟩, True.intro⟩, by rw [hwn]; rfl, hh.ext⟩
    ·have hG5 := hg5; try simp only [gS] at hG5
     refine sy_skip ?_
     refine blk_n ?_
     refine then_n ?_
     refine sy_sq ?_
     refine o_v hf hh (yv_assign rfl) ?_; clear hf a; intro a hf
     refine o_store hf hh Tryz.sz_34 fun w hh => ?_
     refine o_end ?_
     refine sy_ret ?_
     have hwn : walN t l = 0 := by
       unfold walN
       simp_all
     exact ret_d (Ds := []) hf hh Tryz.en_36 (fun w' => kd36r B5 w') fun w' hh => ⟨[.int .i64 0, .int .i64 0], ⟨rfl, ⟨B5, 0, _, _, _, rfl, hh.at (i := 1) rfl, .inl ⟨Tryz.sc_34, rfl⟩⟩, True.intro⟩, by rw [hwn]; rfl, hh.ext⟩
  ·intro ch w hX hf
   have hno := hX.2.1
   refine then_p ?_
   exact absurd (opnE_zero.2 ⟨hok, hod⟩) hno
end Go.Proofs.YtccpgpnekoncoaaGreat

