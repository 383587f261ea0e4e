/- Lemmas, in order: What the exported functions tell, put together. Between, Place. Why, Drop.. -/
import Derived.Test.YtccjnjhlnpgocaaQ12
namespace Go.ChaM
open Go Go.Sy
theorem bnd_axis {c : ChD} (hO : ChOk c) (hw : wrL c = []) {x y : Nat} (hx : x < c.n.toNat) (a b : Bool) (h : bndV c a noneS x y = none) : bndV c b noneS x y = none := by
  rw [bnd_none hO (wr_noneg hO hw b) hx]
  rw [bnd_none hO (wr_noneg hO hw a) hx] at h
  intro l hl
  obtain ⟨l', h'⟩ := link_wk (E' := edE c a fun i => !noneS i) (fun e he => by
    obtain ⟨i, s, hs, hS, h1⟩ := edE_mem.1 he
    rcases h1 with rfl | rfl
    · exact ⟨edF a i s, edE_mem.2 ⟨i, s, hs, hS, .inl rfl⟩, rfl, rfl⟩
    · exact ⟨edT a i s, edE_mem.2 ⟨i, s, hs, hS, .inr rfl⟩, rfl, rfl⟩) hl
  exact h l' h'
theorem betE1 {c : ChD} {x y : Int} (h : chB c = false) : betE c x y = 1 := by unfold betE; rw [if_pos h]
theorem betE2 {c : ChD} {x y : Int} (h : chB c = true) (h2 : (stB c x && stB c y) = false) : betE c x y = 2 := by unfold betE; rw [if_neg (by rw [h]; decide), if_pos h2]
theorem betE4 {c : ChD} {x y : Int} (h : chB c = true) (h2 : (stB c x && stB c y) = true) (hw : wrL c ≠ []) : betE c x y = 4 := by unfold betE; rw [if_neg (by rw [h]; decide), if_neg (by rw [h2]; decide), if_pos hw]
theorem betE12 {c : ChD} {x y : Int} (h : chB c = true) (h2 : (stB c x && stB c y) = true) (hw : wrL c = []) (hb : bndV c false noneS x.toNat y.toNat = none) : betE c x y = 12 := by unfold betE; rw [if_neg (by rw [h]; decide), if_neg (by rw [h2]; decide), if_neg (by rw [hw]; simp), if_pos hb]
theorem betE0 {c : ChD} {x y : Int} (h : chB c = true) (h2 : (stB c x && stB c y) = true) (hw : wrL c = []) (hb : bndV c false noneS x.toNat y.toNat ≠ none) : betE c x y = 0 := by unfold betE; rw [if_neg (by rw [h]; decide), if_neg (by rw [h2]; decide), if_neg (by rw [hw]; simp), if_neg hb]
theorem betV_no {c : ChD} {x y : Int} {e : Int} (h : betE c x y = e) (he : e ≠ 0) (a : Bool) : betV c a x y = (0, 0) := by unfold betV; rw [if_neg (by rw [h]; exact he)]
theorem betV_ok {c : ChD} {x y : Int} (h : betE c x y = 0) (a : Bool) : betV c a x y = (-(bndV c a noneS y.toNat x.toNat).getD 0, (bndV c a noneS x.toNat y.toNat).getD 0) := by unfold betV; rw [if_pos h]
theorem zero_out (i : Nat) : Nat.testBit 0 i = noneS i := Nat.zero_testBit i
abbrev spC (p : Int × Int) : List Value := [.int .i64 p.1, .int .i64 p.2]
theorem spC_len (p : Int × Int) : (spC p).length = 2 := rfl
theorem drwE1 {c : ChD} (h : chB c = false) : drwE c = 1 := by unfold drwE; rw [if_pos h]
theorem drwE_at {c : ChD} (h : chB c = true) {i : Nat} (hi : i < c.n.toNat) (h0 : drwG c i = 0) {e : Int} (he : betE c 0 (i : Int) = e) (hne : e ≠ 0) : drwE c = e := by
  unfold drwE
  rw [if_neg (by rw [h]; decide)]
  have h1 : drwG c (i + 1) = e := by rw [drwG, if_pos h0]; exact he
  have h2 := drwG_stop h1 hne (c.n.toNat - (i + 1))
  rwa [show i + 1 + (c.n.toNat - (i + 1)) = c.n.toNat by omega] at h2
theorem drwE0 {c : ChD} (h : chB c = true) (h0 : drwG c c.n.toNat = 0) : drwE c = 0 := by
  unfold drwE
  rw [if_neg (by rw [h]; decide)]
  exact h0
theorem drwL_no {c : ChD} {e : Int} (h : drwE c = e) (he : e ≠ 0) : drwL c = [] := by unfold drwL; rw [if_neg (by rw [h]; exact he)]
theorem drwL_ok {c : ChD} (h : drwE c = 0) : drwL c = (List.range c.n.toNat).map (drwP c) := by unfold drwL; rw [if_pos h]
theorem drwP_of {c : ChD} {i : Nat} (h : betE c 0 (i : Int) = 0) : drwP c i = (-(bndV c false noneS i 0).getD 0, -(bndV c true noneS i 0).getD 0) := by
  unfold drwP
  rw [betV_ok h, betV_ok h]
  rfl
def dk (i : Nat) : Nat → Bool := fun j => decide (j = i)
theorem dk_bit (i : Nat) (j : Nat) : (2 ^ i).testBit j = dk i j := by
  rw [Nat.testBit_two_pow]
  unfold dk
  rw [decide_eq_decide]
  exact eq_comm
theorem aix_eq {c : ChD} (hO : ChOk c) (hw : wrL c = []) {i : Nat} {s : SiD} (hs : c.si[i]? = some s) (a : Bool) : aixB c a i s = ((bndV c a (dk i) s.fr.toNat s.to.toNat).isSome && (decide ((bndV c a (dk i) s.fr.toNat s.to.toNat).getD 0 ≤ hiA a s) && decide (loA a s ≤ -(bndV c a (dk i) s.to.toNat s.fr.toNat).getD 0))) := by
  have ho := hO.s s (List.mem_of_getElem? hs)
  have h1 := ho.f0; have h2 := ho.f1; have h3 := ho.t0; have h4 := ho.t1
  have hN : NoNeg (edE c a fun k => !dk i k) := (((can_all hO).2 hw).less (S := fun k => !dk i k) fun _ _ => rfl) a
  unfold aixB
  show (match bndV c a (dk i) s.fr.toNat s.to.toNat, bndV c a (dk i) s.to.toNat s.fr.toNat with
    | some m, some m' => decide (m ≤ hiA a s) && decide (loA a s ≤ -m')
    | _, _ => false) = _
  cases e1 : bndV c a (dk i) s.fr.toNat s.to.toNat with
  | none => rfl
  | some m =>
    cases e2 : bndV c a (dk i) s.to.toNat s.fr.toNat with
    | none =>
      have := bnd_back (out := dk i) hO hN (src := s.to.toNat) (by omega) (v := s.fr.toNat) (by omega) e2
      rw [e1] at this; cases this
    | some m' => rfl
/-- Idle so far, by the first axes. -/
def idP (c : ChD) (i : Nat) (s : SiD) (k : Nat) : Bool := (decide (k < 1) || aixB c false i s) && (decide (k < 2) || aixB c true i s)
theorem idP_zero (c : ChD) (i : Nat) (s : SiD) : idP c i s 0 = true := rfl
theorem idP_two (c : ChD) (i : Nat) (s : SiD) (hs : c.si[i]? = some s) : idP c i s 2 = idlB c i := by unfold idP idlB; rw [hs]; rfl
theorem idP_no {c : ChD} {i : Nat} {s : SiD} {k : Nat} (hk : k < 2) (h : aixB c (axB k) i s = false) : idP c i s (k + 1) = false := by
  rcases (show k = 0 ∨ k = 1 by omega) with rfl | rfl
  · have h : aixB c false i s = false := h
    unfold idP; rw [h]; rfl
  · have h : aixB c true i s = false := h
    unfold idP; rw [h]; simp
theorem idP_yes {c : ChD} {i : Nat} {s : SiD} {k : Nat} (hk : k < 2) (h : aixB c (axB k) i s = true) : idP c i s (k + 1) = idP c i s k := by
  rcases (show k = 0 ∨ k = 1 by omega) with rfl | rfl
  · have h : aixB c false i s = true := h
    unfold idP; rw [h]; rfl
  · have h : aixB c true i s = true := h
    unfold idP; rw [h]; simp
theorem idlE1 {c : ChD} (h : chB c = false) : idlE c = 1 := by unfold idlE; rw [if_pos h]
theorem idlE4 {c : ChD} (h : chB c = true) (hw : wrL c ≠ []) : idlE c = 4 := by unfold idlE; rw [if_neg (by rw [h]; decide), if_pos hw]
theorem idlE0 {c : ChD} (h : chB c = true) (hw : wrL c = []) : idlE c = 0 := by unfold idlE; rw [if_neg (by rw [h]; decide), if_neg (by rw [hw]; simp)]
theorem idlV_no {c : ChD} {e : Int} (h : idlE c = e) (he : e ≠ 0) : idlV c = 0 := by unfold idlV; rw [if_neg (by rw [h]; exact he)]
theorem idlV_ok {c : ChD} (h : idlE c = 0) : idlV c = bitN (idlB c) c.si.length := by unfold idlV; rw [if_pos h]
theorem ax3_0 {v o : Bool} {m h l g : Int} (e : v = (o && (decide (m ≤ h) && decide (l ≤ -g)))) (ho : o = false) : v = false := by rw [e, ho]; rfl
theorem ax3_1 {v o : Bool} {m h l g : Int} (e : v = (o && (decide (m ≤ h) && decide (l ≤ -g)))) (ho : h < m) : v = false := by
  rw [e, decide_eq_false (show ¬ m ≤ h by omega)]; simp
theorem ax3_2 {v o : Bool} {m h l g : Int} (e : v = (o && (decide (m ≤ h) && decide (l ≤ -g)))) (ho : -g < l) : v = false := by
  rw [e, decide_eq_false (show ¬ l ≤ -g by omega)]; simp
theorem ax3_y {v o : Bool} {m h l g : Int} (e : v = (o && (decide (m ≤ h) && decide (l ≤ -g)))) (h0 : o = true) (h1 : m ≤ h) (h2 : l ≤ -g) : v = true := by
  rw [e, h0, decide_eq_true (show m ≤ h by omega), decide_eq_true (show l ≤ -g by omega)]; rfl

end Go.ChaM
namespace Go.Proofs.Ytccjnjhlnpgocaa
open Go Go.Sy Go.ChaM
theorem p43 (Bv : Nat) (c : ChD) (sa : Option Addr) (cp : Nat) (u : World) (hV : VAt u Bv c sa cp) (hO : ChOk c) : Calls Try.prog 43 #[ptr Bv 0] u (RetX (fun v w' => wrL c = [] ∧ Ext [] u w') (fun ch w' => wrL c ≠ [] ∧ ch = misfit 4 ∧ Ext [] u w')) := by
  refine calls_ofX Try.func43 rfl rfl (fun a hf => ?_)
  have hh := Hp.init u []
  refine sy_ops ?_
  refine o_v hf hh (yv_move rfl) ?_; clear hf a; intro a hf
  refine o_call hf Try.en_53 rfl rfl rfl (p53 Bv c sa cp _ (hV.ext hh.ext) hO) ?_; clear hf a; intro v a w hR hf
  obtain ⟨l2, sb, cb, X9, rfl, hU, hSr, hx⟩ := hR; replace hh := hh.more hx.ext; clear hx
  refine o_v hf hh (yv_len Try.se_92 rfl) ?_; clear hf a; intro a hf
  refine o_v hf hh (yv_bin rfl rfl rfl) ?_; clear hf a; intro a hf
  refine o_callX hf Try.en_60 rfl rfl rfl (p60 (decide (((l2.length : Nat) : Int) = 0)) 4 _) ?_ ?_
  ·clear hf a; intro v a w hR hf
   obtain ⟨hz, hx⟩ := hR; replace hh := hh.more hx; clear hx
   refine ops_end ?_
   refine ret_xn ?_
   refine ret_n hf rfl rfl ?_
   exact ⟨hSr.nil_iff.1 (List.eq_nil_of_length_eq_zero (by simpa using hz)), hh.ext⟩
  ·intro ch w hX hf
   obtain ⟨hz, rfl, hx⟩ := hX; replace hh := hh.more hx; clear hx
   refine pan_x hf ?_
   exact ⟨fun e => by rw [hSr.nil_iff.2 e] at hz; simp at hz, rfl, hh.ext⟩
set_option maxRecDepth 100000 in
set_option maxHeartbeats 4000000 in
theorem p17 (c : ChD) (sa : Option Addr) (cp : Nat) (x y : Int) (u : World) (hA : ChAt u c sa) : Calls Try.prog 17 #[.agg (chC c sa cp), .int .i64 x, .int .i64 y] u (Ret fun v w' => v = .tuple #[spV (betV c false x y), spV (betV c true x y), .int .i64 (betE c x y)] ∧ Ext [] u w') := by
  refine calls_ofM Try.func17 rfl rfl (fun a hf => ?_)
  have hh := Hp.init u []
  refine sy_sq ?_
  refine o_box hf hh ?_; clear hf hh a; intro B3 a w hf hh
  refine o_alloc hf hh Try.ze_28 ?_; clear hf hh a; intro B6 a w hf hh
  refine o_alloc hf hh Try.ze_28 ?_; clear hf hh a; intro B7 a w hf hh
  refine o_alloc hf hh Try.ze_29 ?_; clear hf hh a; intro B8 a w hf hh
  refine o_end ?_
  refine sy_sq ?_
  refine o_defer hf ?_; clear hf a; intro a hf
  refine o_end ?_
  refine sy_sq ?_
  refine o_v hf hh (y_lds Try.ag_24 rfl) ?_; clear hf a; intro a hf
  refine o_v hf hh (yv_move rfl) ?_; clear hf a; intro a hf
  refine o_v hf hh (yv_move rfl) ?_; clear hf a; intro a hf
  refine ops_buildSl hf hh Try.bl_54_2 rfl rfl (.inl rfl) rfl ?_; clear hf hh; clear a; intro B14 a w hf hh
  refine o_callX hf Try.en_42 rfl rfl rfl (p42 c sa cp [x, y] (some ⟨B14, 0, none⟩) 2 2 _ (hA.ext hh.ext) (fun i z hz => by
      match i, hz with
      | 0, hz => cases hz; exact ⟨B14, 0, _, _, _, rfl, hh.at (i := 0) rfl, rfl⟩
      | 1, hz => cases hz; exact ⟨B14, 0, _, _, _, rfl, hh.at (i := 0) rfl, rfl⟩
      | i + 2, hz => simp at hz) rfl (by simp)) ?_ ?_
  ·clear hf a; intro v a w hR hf
   obtain ⟨Bv, XV, rfl, hcb, hall, hVof, hx⟩ := hR; replace hh := (hh.join hx).perm List.perm_append_comm; clear hx
   have hO := chB_iff.1 hcb
   have hxy : (stB c x && stB c y) = true := by simpa using hall
   obtain ⟨hx0, hx1⟩ := st_lt (show stB c x = true by simp_all)
   obtain ⟨hy0, hy1⟩ := st_lt (show stB c y = true by simp_all)
   obtain ⟨xn, hxn⟩ : ∃ k : Nat, x = k := ⟨x.toNat, by omega⟩
   obtain ⟨yn, hyn⟩ : ∃ k : Nat, y = k := ⟨y.toNat, by omega⟩
   subst hxn; subst hyn
   rw [Int.toNat_natCast] at hx1 hy1
   refine o_v hf hh (yv_assign rfl) ?_; clear hf a; intro a hf
   refine o_end ?_
   refine sy_sq ?_
   refine o_v hf hh (yv_move rfl) ?_; clear hf a; intro a hf
   refine o_callX hf Try.en_43 rfl rfl rfl (p43 Bv c sa cp _ (hVof _ (fun q hq => hh.get q (by simp [hq])) (hA.ext hh.ext)) hO) ?_ ?_
   ·clear hf a; intro v a w hR hf
    obtain ⟨hwr, hx⟩ := hR; replace hh := hh.more hx; clear hx
    refine o_end ?_
    refine sy_sq ?_
    refine o_call hf Try.en_44 rfl rfl rfl (p44 _) ?_; clear hf a; intro v a w hR hf
    obtain ⟨rfl, hx⟩ := hR; replace hh := hh.more hx; clear hx
    refine o_alloc hf hh Try.ze_70 ?_; clear hf hh a; intro B10 a w hf hh
    refine o_store hf hh Try.sz_70 fun w hh => ?_
    refine o_end ?_
    refine sy_seq ?_
    refine sy_treeX1 (.p 0 (.p 1 (.p 2 (.p 3 (.q 0 4 (.p 6 (.p 7 (.p 8 (.p 9 (.q 0 10 (.e1 5 (.e1 11 (.e1 12 (.e1 13 (.e1 14 (.fin)))))))))))))))) [12, 13, 14] (fun ch w => bndV c false noneS xn yn = none ∧ ch = misfit 12 ∧ Hp u [] [(B8, .cells #[.int .i64 0] 29), (B7, .cells #[.int .i64 0, .int .i64 0] 28), (B6, .cells #[.int .i64 0, .int .i64 0] 28)] w) ([(6, ptr B6 0), (7, ptr B7 0), (8, ptr B8 0)]) Try.follows (by kernel_rfl) hf (by repeat' (first | exact True.intro | refine And.intro rfl ?_)) (by rfl) hh ?_ (fun w hh => ?_)
    ·intro ch a w hX hf
     obtain ⟨hnn, rfl, hh⟩ := hX
     refine then_p ?_
     have ev : betE c xn yn = 12 := betE12 hcb hxy hwr hnn
     rw [ev, betV_no ev (by decide), betV_no ev (by decide)]
     exact pan_da (Ds := []) hf hh Try.en_41 (fun w' hh => d41p B8 12 0 w' (hh.at (i := 0) rfl)) fun w' w'' hh h2 => by
       replace hh := hh.turn (i := 0) rfl h2.ext (h2.at (i := 0) rfl)
       exact ⟨[.agg #[.int .i64 0, .int .i64 0], .agg #[.int .i64 0, .int .i64 0], .int .i64 12], ⟨⟨B6, 0, _, _, _, rfl, hh.at (i := 2) rfl, .inr ⟨2, _, Try.ag_28, rfl, rfl⟩⟩, ⟨B7, 0, _, _, _, rfl, hh.at (i := 1) rfl, .inr ⟨2, _, Try.ag_28, rfl, rfl⟩⟩, ⟨B8, 0, _, _, _, rfl, hh.at (i := 0) rfl, .inl ⟨Try.sc_29, rfl⟩⟩, True.intro⟩, rfl, hh.ext⟩
    refine mz_p rfl   hf (yv_move rfl) (.inl rfl) rfl rfl ?_; clear hf a; intro a hf
    refine mz_p rfl   hf (yv_move rfl) (.inl rfl) rfl rfl ?_; clear hf a; intro a hf
    refine mz_p rfl   hf (yv_move rfl) (.inl rfl) rfl rfl ?_; clear hf a; intro a hf
    refine mz_p rfl   hf (y_ia Try.ae_70 rfl rfl) (.inl rfl) rfl rfl ?_; clear hf a; intro a hf
    refine mz_q rfl rfl hh hf (y_lds Try.ag_69 rfl) (.inl rfl) rfl rfl ?_; clear hf a; intro a hf
    refine mz_p rfl   hf (yv_move rfl) (.inl rfl) rfl rfl ?_; clear hf a; intro a hf
    refine mz_p rfl   hf (yv_move rfl) (.inl rfl) rfl rfl ?_; clear hf a; intro a hf
    refine mz_p rfl   hf (yv_move rfl) (.inl rfl) rfl rfl ?_; clear hf a; intro a hf
    refine mz_p rfl   hf (y_ia Try.ae_70 rfl rfl) (.inl rfl) rfl rfl ?_; clear hf a; intro a hf
    refine mz_q rfl rfl hh hf (y_lds Try.ag_69 rfl) (.inl rfl) rfl rfl ?_; clear hf a; intro a hf
    refine mz_e rfl ?_
    refine o_callX hf Try.en_45 rfl rfl rfl (p45 Bv c sa cp xn yn false 0 noneS _ (hVof _ (fun q hq => hh.get q (by simp [hq])) (hA.ext hh.ext)) hO hx1 hy1 (fun i _ => zero_out i) (by omega)) ?_ ?_
    ·clear hf a; intro v a w hR hf
     obtain ⟨rfl, hnn, hx⟩ := hR; replace hh := hh.more hx; clear hx
     refine ops_end ?_
     refine qx_n ⟨hf.sub (by repeat' (first | exact True.intro | refine And.intro rfl ?_)), ⟨fun _ _ => hh, trivial⟩, ?_⟩
     refine mz_e rfl ?_
     refine o_callX hf Try.en_45 rfl rfl rfl (p45 Bv c sa cp xn yn true 0 noneS _ (hVof _ (fun q hq => hh.get q (by simp [hq])) (hA.ext hh.ext)) hO hx1 hy1 (fun i _ => zero_out i) (by omega)) ?_ ?_
     ·clear hf a; intro v a w hR hf
      obtain ⟨rfl, hnn2, hx⟩ := hR; replace hh := hh.more hx; clear hx
      refine ops_end ?_
      refine qx_n ⟨hf.sub (by repeat' (first | exact True.intro | refine And.intro rfl ?_)), ⟨fun _ _ => hh, trivial⟩, ?_⟩
      refine mz_e rfl ?_
      refine o_store hf hh Try.sz_28 fun w hh => ?_
      refine ops_end ?_
      refine qx_n ⟨hf.sub (by repeat' (first | exact True.intro | refine And.intro rfl ?_)), ⟨fun h => Bool.noConfusion (show true = false from h), trivial⟩, ?_⟩
      refine mz_e rfl ?_
      refine o_store hf hh Try.sz_28 fun w hh => ?_
      refine ops_end ?_
      refine qx_n ⟨hf.sub (by repeat' (first | exact True.intro | refine And.intro rfl ?_)), ⟨fun h => Bool.noConfusion (show true = false from h), trivial⟩, ?_⟩
      refine mz_e rfl ?_
      refine o_store hf hh Try.sz_29 fun w hh => ?_
      refine ops_end ?_
      refine qx_n ⟨hf.sub (by repeat' (first | exact True.intro | refine And.intro rfl ?_)), ⟨fun h => Bool.noConfusion (show true = false from h), trivial⟩, ?_⟩
      refine mz_end ?_
      refine then_n ?_
      refine sy_ret ?_
      have ev : betE c xn yn = 0 := betE0 hcb hxy hwr hnn
      rw [ev, betV_ok ev, betV_ok ev]
      exact ret_da (Ds := []) hf hh Try.en_41 (fun w' => d41r B8 w') fun w' hh => ⟨[.agg #[.int .i64 (-(bndV c false noneS yn xn).getD 0), .int .i64 ((bndV c false noneS xn yn).getD 0)], .agg #[.int .i64 (-(bndV c true noneS yn xn).getD 0), .int .i64 ((bndV c true noneS xn yn).getD 0)], .int .i64 0], ⟨⟨B6, 0, _, _, _, rfl, hh.at (i := 4) rfl, .inr ⟨2, _, Try.ag_28, rfl, rfl⟩⟩, ⟨B7, 0, _, _, _, rfl, hh.at (i := 3) rfl, .inr ⟨2, _, Try.ag_28, rfl, rfl⟩⟩, ⟨B8, 0, _, _, _, rfl, hh.at (i := 2) rfl, .inl ⟨Try.sc_29, rfl⟩⟩, True.intro⟩, rfl, hh.ext⟩
     ·intro ch w hX hf
      exact absurd (bnd_axis hO hwr hx1 true false hX.1) hnn
    ·intro ch w hX hf
     obtain ⟨hnn, rfl, hx⟩ := hX; exact qx_p ⟨hnn, rfl, (hh.more hx).less (.cons _ (.cons _ (.cons_cons _ (.cons_cons _ (.cons_cons _ (List.nil_sublist _))))))⟩
   ·intro ch w hX hf
    obtain ⟨hwr, rfl, hx⟩ := hX; replace hh := hh.more hx; clear hx
    refine then_p ?_
    have ev : betE c xn yn = 4 := betE4 hcb hxy hwr
    rw [ev, betV_no ev (by decide), betV_no ev (by decide)]
    exact pan_da (Ds := []) hf hh Try.en_41 (fun w' hh => d41p B8 4 0 w' (hh.at (i := 1) rfl)) fun w' w'' hh h2 => by
      replace hh := hh.turn (i := 1) rfl h2.ext (h2.at (i := 0) rfl)
      exact ⟨[.agg #[.int .i64 0, .int .i64 0], .agg #[.int .i64 0, .int .i64 0], .int .i64 4], ⟨⟨B6, 0, _, _, _, rfl, hh.at (i := 3) rfl, .inr ⟨2, _, Try.ag_28, rfl, rfl⟩⟩, ⟨B7, 0, _, _, _, rfl, hh.at (i := 2) rfl, .inr ⟨2, _, Try.ag_28, rfl, rfl⟩⟩, ⟨B8, 0, _, _, _, rfl, hh.at (i := 1) rfl, .inl ⟨Try.sc_29, rfl⟩⟩, True.intro⟩, rfl, hh.ext⟩
  ·intro ch w hX hf
   obtain ⟨e, rfl, hx, he⟩ := hX; replace hh := hh.more hx; clear hx
   refine then_p ?_
   rcases he with ⟨hcb, rfl⟩ | ⟨hcb, hal, rfl⟩
   · have ev : betE c x y = 1 := betE1 hcb
     rw [ev, betV_no ev (by decide), betV_no ev (by decide)]
     exact pan_da (Ds := []) hf hh Try.en_41 (fun w' hh => d41p B8 1 0 w' (hh.at (i := 1) rfl)) fun w' w'' hh h2 => by
       replace hh := hh.turn (i := 1) rfl h2.ext (h2.at (i := 0) rfl)
       exact ⟨[.agg #[.int .i64 0, .int .i64 0], .agg #[.int .i64 0, .int .i64 0], .int .i64 1], ⟨⟨B6, 0, _, _, _, rfl, hh.at (i := 3) rfl, .inr ⟨2, _, Try.ag_28, rfl, rfl⟩⟩, ⟨B7, 0, _, _, _, rfl, hh.at (i := 2) rfl, .inr ⟨2, _, Try.ag_28, rfl, rfl⟩⟩, ⟨B8, 0, _, _, _, rfl, hh.at (i := 1) rfl, .inl ⟨Try.sc_29, rfl⟩⟩, True.intro⟩, rfl, hh.ext⟩
   · have ev : betE c x y = 2 := betE2 hcb (by simpa using hal)
     rw [ev, betV_no ev (by decide), betV_no ev (by decide)]
     exact pan_da (Ds := []) hf hh Try.en_41 (fun w' hh => d41p B8 2 0 w' (hh.at (i := 1) rfl)) fun w' w'' hh h2 => by
       replace hh := hh.turn (i := 1) rfl h2.ext (h2.at (i := 0) rfl)
       exact ⟨[.agg #[.int .i64 0, .int .i64 0], .agg #[.int .i64 0, .int .i64 0], .int .i64 2], ⟨⟨B6, 0, _, _, _, rfl, hh.at (i := 3) rfl, .inr ⟨2, _, Try.ag_28, rfl, rfl⟩⟩, ⟨B7, 0, _, _, _, rfl, hh.at (i := 2) rfl, .inr ⟨2, _, Try.ag_28, rfl, rfl⟩⟩, ⟨B8, 0, _, _, _, rfl, hh.at (i := 1) rfl, .inl ⟨Try.sc_29, rfl⟩⟩, True.intro⟩, rfl, hh.ext⟩
theorem p15 (c : ChD) (sa : Option Addr) (cp : Nat) (y : Int) (u : World) (hA : ChAt u c sa) : Calls Try.prog 15 #[.agg (chC c sa cp), .int .i64 y] u (Ret fun v w' => v = .tuple #[spV (betV c false 0 y), spV (betV c true 0 y), .int .i64 (betE c 0 y)] ∧ Ext [] u w') := by
  refine calls_of Try.func15 rfl rfl (fun a hf => ?_)
  have hh := Hp.init u []
  refine sy_sq ?_
  refine o_box hf hh ?_; clear hf hh a; intro B2 a w hf hh
  refine o_alloc hf hh Try.ze_28 ?_; clear hf hh a; intro B4 a w hf hh
  refine o_alloc hf hh Try.ze_28 ?_; clear hf hh a; intro B5 a w hf hh
  refine o_v hf hh (yv_assign rfl) ?_; clear hf a; intro a hf
  refine o_end ?_
  refine sy_sq ?_
  refine o_v hf hh (y_lds Try.ag_24 rfl) ?_; clear hf a; intro a hf
  refine o_v hf hh (yv_move rfl) ?_; clear hf a; intro a hf
  refine o_call hf Try.en_17 rfl rfl rfl (p17 c sa cp 0 y _ (hA.ext hh.ext)) ?_; clear hf a; intro v a w hR hf
  obtain ⟨rfl, hx⟩ := hR; replace hh := hh.more hx; clear hx
  refine o_v hf hh (yv_extract rfl rfl) ?_; clear hf a; intro a hf
  refine o_v hf hh (yv_extract rfl rfl) ?_; clear hf a; intro a hf
  refine o_v hf hh (yv_extract rfl rfl) ?_; clear hf a; intro a hf
  refine o_store hf hh Try.sz_28 fun w hh => ?_
  refine o_store hf hh Try.sz_28 fun w hh => ?_
  refine o_v hf hh (yv_assign rfl) ?_; clear hf a; intro a hf
  refine o_end ?_
  refine sy_ret ?_
  refine ret_c (vs := [spV (betV c false 0 y), spV (betV c true 0 y), .int .i64 (betE c 0 y)]) hf ?_ ?_
  · exact ⟨⟨B4, 0, _, _, _, rfl, hh.at (i := 1) rfl, .inr ⟨2, _, Try.ag_28, rfl, rfl⟩⟩, ⟨B5, 0, _, _, _, rfl, hh.at (i := 0) rfl, .inr ⟨2, _, Try.ag_28, rfl, rfl⟩⟩, rfl, True.intro⟩
  · exact ⟨rfl, hh.ext⟩
end Go.Proofs.Ytccjnjhlnpgocaa
namespace Go.Proofs.Ytccjnjhlnpgocaa
open Go Go.Sy Go.ChaM
theorem whyE1 {c : ChD} (h : chB c = false) : whyE c = 1 ∧ whyV c = 0 := by unfold whyE whyV; rw [if_pos h, if_pos h]; exact ⟨rfl, rfl⟩
theorem ch_ne {c : ChD} (h : chB c = true) : ¬ chB c = false := by rw [h]; decide
theorem whyE0 {c : ChD} (h : chB c = true) (hw : wrL c = []) : whyE c = 0 ∧ whyV c = 0 := ⟨by unfold whyE; rw [if_neg (ch_ne h), if_pos hw], by unfold whyV; rw [if_neg (ch_ne h), hw]; rfl⟩
theorem whyE11 {c : ChD} (h : chB c = true) (hw : wrL c ≠ []) : whyE c = 11 ∧ whyV c = bst (wrL c) := ⟨by unfold whyE; rw [if_neg (ch_ne h), if_neg hw], by unfold whyV; rw [if_neg (ch_ne h)]⟩
theorem drpE1 {c : ChD} (h : chB c = false) : drpE c = 1 ∧ drpV c = 0 := by unfold drpE drpV; rw [if_pos h, if_pos h]; exact ⟨rfl, rfl⟩
theorem drpE0 {c : ChD} (h : chB c = true) : drpE c = 0 ∧ drpV c = bst (drpL c) := by unfold drpE drpV; rw [if_neg (by rw [h]; decide), if_neg (by rw [h]; decide)]; exact ⟨rfl, rfl⟩
theorem srt_all {l l2 : List Nat} (h : Srt l l2) (f : Nat → Bool) : l2.all f = l.all f := by
  rw [Bool.eq_iff_iff, List.all_eq_true, List.all_eq_true]
  exact ⟨fun h1 x hx => h1 x ((h.mem x).2 hx), fun h1 x hx => h1 x ((h.mem x).1 hx)⟩
set_option maxRecDepth 100000 in
theorem p24 (c : ChD) (sa : Option Addr) (cp : Nat) (u : World) (hA : ChAt u c sa) : Calls Try.prog 24 #[.agg (chC c sa cp)] u (Ret fun v w' => v = .tuple #[.int .i64 (whyV c : Nat), .int .i64 (whyE c)] ∧ Ext [] u w') := by
  refine calls_ofM Try.func24 rfl rfl (fun a hf => ?_)
  have hh := Hp.init u []
  refine sy_sq ?_
  refine o_box hf hh ?_; clear hf hh a; intro B1 a w hf hh
  refine o_v hf hh (yv_assign rfl) ?_; clear hf a; intro a hf
  refine o_alloc hf hh Try.ze_29 ?_; clear hf hh a; intro B3 a w hf hh
  refine o_end ?_
  refine sy_sq ?_
  refine o_defer hf ?_; clear hf a; intro a hf
  refine o_end ?_
  refine sy_sq ?_
  refine o_v hf hh (y_lds Try.ag_24 rfl) ?_; clear hf a; intro a hf
  refine o_callX hf Try.en_42 rfl rfl rfl (p42 c sa cp [] none 0 0 _ (hA.ext hh.ext) (fun i z hz => by simp at hz) rfl (by simp)) ?_ ?_
  ·clear hf a; intro v a w hR hf
   obtain ⟨Bv, XV, rfl, hcb, hall, hVof, hx⟩ := hR; replace hh := (hh.join hx).perm List.perm_append_comm; clear hx
   have hO := chB_iff.1 hcb
   refine o_call hf Try.en_53 rfl rfl rfl (p53 Bv c sa cp _ (hVof _ (fun q hq => hh.get q (by simp [hq])) (hA.ext hh.ext)) hO) ?_; clear hf a; intro v a w hR hf
   obtain ⟨l2, sb, cb, X9, rfl, hU, hSr, hx⟩ := hR; replace hh := (hh.join hx).perm List.perm_append_comm; clear hx
   refine o_v hf hh (yv_assign rfl) ?_; clear hf a; intro a hf
   refine o_end ?_
   refine sy_seq ?_
   refine sy_sq ?_
   refine o_v hf hh (yv_move rfl) ?_; clear hf a; intro a hf
   refine o_v hf hh (yv_len Try.se_92 rfl) ?_; clear hf a; intro a hf
   refine o_v hf hh (yv_bin rfl rfl rfl) ?_; clear hf a; intro a hf
   refine o_end ?_
   refine sy_cond hf rfl (fun hg4 => ?_) (fun hg4 => ?_)
   ·have hG4 := hg4; try simp only [gS] at hG4
    refine sy_sq ?_
    refine o_v hf hh (yv_assign rfl) ?_; clear hf a; intro a hf
    refine o_store hf hh Try.sz_29 fun w hh => ?_
    refine o_end ?_
    refine sy_ret ?_
    refine then_r ?_
    have hw0 : wrL c = [] := hSr.nil_iff.1 (List.eq_nil_of_length_eq_zero (by simp_all))
    rw [(whyE0 hcb hw0).1, (whyE0 hcb hw0).2]
    exact ret_da (Ds := []) hf hh Try.en_41 (fun w' => d41r B3 w') fun w' hh => ⟨[.int .i64 0, .int .i64 0], ⟨rfl, ⟨B3, 0, _, _, _, rfl, hh.at (i := 0) rfl, .inl ⟨Try.sc_29, rfl⟩⟩, True.intro⟩, rfl, hh.ext⟩
   ·have hG4 := hg4; try simp only [gS] at hG4
    refine sy_skip ?_
    refine then_n ?_
    refine sy_seq ?_
    have hlp : 0 < l2.length := by omega
    obtain ⟨x0, hx0⟩ := ex_of (l := l2) (i := 0) hlp
    have hxb := hSr.hd x0 hx0
    have hxm := (hSr.mem x0).1 (List.mem_of_getElem? hx0)
    have hxl := (wr_lt hxm).1
    have hp10 : 2 ^ c.si.length ≤ 2 ^ 10 := Nat.pow_le_pow_right (by omega) hO.l
    have hwn : wrL c ≠ [] := fun e => by rw [e] at hxm; cases hxm
    obtain ⟨blk, off, cc, T, fr, e, hb, hc⟩ := hU _ (fun q hq => hh.get q (by simp [hq])) 0 x0 hx0; subst e
    refine sy_ops ?_
    refine o_v hf hh (yv_move rfl) ?_; clear hf a; intro a hf
    refine o_v hf hh (y_ix Try.se_92 rfl rfl) ?_; clear hf a; intro a hf
    refine o_w hf (yv_ldw Try.sc_74 rfl hb hc) ?_; clear hf a; intro a hf
    first | refine o_v hf hh (yv_convx (.inl rfl) (by kernel_rfl) Try.un_3 rfl (by omega) (by simp only [IntKind.top]; omega)) ?_; clear hf a; intro a hf | refine o_v hf hh (yv_conv (by kernel_rfl) Try.un_3 rfl) ?_; clear hf a; intro a hf
    refine o_v hf hh (yv_assign rfl) ?_; clear hf a; intro a hf
    refine o_store hf hh Try.sz_29 fun w hh => ?_
    refine o_end ?_
    refine sy_ret ?_
    rw [(whyE11 hcb hwn).1, (whyE11 hcb hwn).2, ← hxb]
    exact ret_da (Ds := []) hf hh Try.en_41 (fun w' => d41r B3 w') fun w' hh => ⟨[.int .i64 (x0 : Nat), .int .i64 11], ⟨rfl, ⟨B3, 0, _, _, _, rfl, hh.at (i := 0) rfl, .inl ⟨Try.sc_29, rfl⟩⟩, True.intro⟩, rfl, hh.ext⟩
  ·intro ch w hX hf
   obtain ⟨e, rfl, hx, he⟩ := hX; replace hh := hh.more hx; clear hx
   refine then_p ?_
   rcases he with ⟨hcb, rfl⟩ | ⟨hcb, hal, rfl⟩
   · rw [(whyE1 hcb).1, (whyE1 hcb).2]
     exact pan_da (Ds := []) hf hh Try.en_41 (fun w' hh => d41p B3 1 0 w' (hh.at (i := 0) rfl)) fun w' w'' hh h2 => by
       replace hh := hh.turn (i := 0) rfl h2.ext (h2.at (i := 0) rfl)
       exact ⟨[.int .i64 0, .int .i64 1], ⟨rfl, ⟨B3, 0, _, _, _, rfl, hh.at (i := 0) rfl, .inl ⟨Try.sc_29, rfl⟩⟩, True.intro⟩, rfl, hh.ext⟩
   · simp at hal
set_option maxRecDepth 100000 in
theorem p26 (c : ChD) (sa : Option Addr) (cp : Nat) (u : World) (hA : ChAt u c sa) : Calls Try.prog 26 #[.agg (chC c sa cp)] u (Ret fun v w' => v = .tuple #[.int .i64 (drpV c : Nat), .int .i64 (drpE c)] ∧ Ext [] u w') := by
  refine calls_ofM Try.func26 rfl rfl (fun a hf => ?_)
  have hh := Hp.init u []
  refine sy_sq ?_
  refine o_box hf hh ?_; clear hf hh a; intro B1 a w hf hh
  refine o_v hf hh (yv_assign rfl) ?_; clear hf a; intro a hf
  refine o_alloc hf hh Try.ze_29 ?_; clear hf hh a; intro B3 a w hf hh
  refine o_end ?_
  refine sy_sq ?_
  refine o_defer hf ?_; clear hf a; intro a hf
  refine o_end ?_
  refine sy_sq ?_
  refine o_v hf hh (y_lds Try.ag_24 rfl) ?_; clear hf a; intro a hf
  refine o_callX hf Try.en_42 rfl rfl rfl (p42 c sa cp [] none 0 0 _ (hA.ext hh.ext) (fun i z hz => by simp at hz) rfl (by simp)) ?_ ?_
  ·clear hf a; intro v a w hR hf
   obtain ⟨Bv, XV, rfl, hcb, hall, hVof, hx⟩ := hR; replace hh := (hh.join hx).perm List.perm_append_comm; clear hx
   have hO := chB_iff.1 hcb
   refine o_v hf hh (yv_assign rfl) ?_; clear hf a; intro a hf
   refine o_end ?_
   refine sy_sq ?_
   refine o_v hf hh (yv_move rfl) ?_; clear hf a; intro a hf
   refine o_call hf Try.en_53 rfl rfl rfl (p53 Bv c sa cp _ (hVof _ (fun q hq => hh.get q (by simp [hq])) (hA.ext hh.ext)) hO) ?_; clear hf a; intro v a w hR hf
   obtain ⟨l2, sb, cb, X9, rfl, hU, hSr, hx⟩ := hR; replace hh := (hh.join hx).perm List.perm_append_comm; clear hx
   refine o_v hf hh (yv_assign rfl) ?_; clear hf a; intro a hf
   refine o_end ?_
   refine sy_seq ?_
   obtain ⟨bmv, esv, cmv, mv, hbv, _⟩ := hVof _ (fun q hq => hh.get q (by simp [hq])) (hA.ext hh.ext)
   have hl10 := hO.l
   have hp10 : 2 ^ c.si.length ≤ 2 ^ 10 := Nat.pow_le_pow_right (by omega) hl10
   have hp1 : 1 ≤ 2 ^ c.si.length := Nat.one_le_two_pow
   obtain ⟨q, hq⟩ : ∃ q, q = 2 ^ c.si.length := ⟨_, rfl⟩
   rw [← hq] at hp10 hp1
   have hl16 : ∀ o ∈ l2, o < 65536 := fun o ho => by have := (wr_lt ((hSr.mem o).1 ho)).1; omega
   have hll := wrL_len hO
   have hll2 := hSr.le
   have hdrp : ∀ s, s ≤ q - 1 → drpP c s < 65536 := fun s hs => by
     have h1 := (drpP_inv c s (by omega)).1
     have h2 := (drp_mem.1 h1).1
     omega
   have hal2 : ∀ s, (l2.all fun o => decide (o &&& s ≠ 0)) = hitB c s := fun s => srt_all hSr _
   refine sy_ops ?_
   refine o_v hf hh (yv_move rfl) ?_; clear hf a; intro a hf
   refine o_v hf hh (yv_nilCheck rfl) ?_; clear hf a; intro a hf
   refine o_v hf hh (yv_fieldAddr Try.fo_86_0 rfl) ?_; clear hf a; intro a hf
   refine o_v hf hh (yv_fieldAddr Try.fo_24_1 rfl) ?_; clear hf a; intro a hf
   refine o_w hf (yv_ldw Try.sc_22 rfl hbv rfl) ?_; clear hf a; intro a hf
   refine o_v hf hh (yv_len Try.se_22 rfl) ?_; clear hf a; intro a hf
   refine ops_v hf hh (yv_cast (yv_shl1 (.inr rfl) rfl rfl (by omega) (by omega)) (intv (b := ((q : Nat) : Int)) (by rw [Int.toNat_natCast, hq]))) (.inl rfl) rfl rfl rfl ?_; clear hf a; intro a hf
   refine ops_v hf hh (yv_cast (yv_subx (.inr rfl) rfl rfl (by omega) (by simp only [IntKind.top]; omega)) (intv (b := ((q - 1 : Nat) : Int)) (by omega))) (.inl rfl) rfl rfl rfl ?_; clear hf a; intro a hf
   refine o_v hf hh (yv_assign rfl) ?_; clear hf a; intro a hf
   refine o_end ?_
   refine sy_seq ?_
   refine sy_sq ?_
   refine o_v hf hh (yv_move rfl) ?_; clear hf a; intro a hf
   refine o_v hf hh (yv_move rfl) ?_; clear hf a; intro a hf
   refine o_end ?_
   refine sy_block ?_
   refine sy_loopH (σ := Nat) [6, 7, 8, 22, 23, 24, 25, 26, 27, 28, 29, 30, 31, 32, 33, 34, 35, 36, 37] (fun s => [(22, .int .u64 (s : Nat)), (6, .int .u64 (drpP c s : Nat))]) (fun s => fun w' => s ≤ q - 1 ∧ Hp u [] ([(B3, .cells #[.int .i64 0] 29), (B1, .cells (chC c sa cp) 24)] ++ XV ++ X9) w') (fun s => q - 1 - s) (0) hf ?_ ?_ ?_
   · exact ⟨rfl, congrArg (fun z => some (Value.int IntKind.u64 ((z : Nat) : Int))) (by rw [hq]; rfl), True.intro⟩
   · exact ⟨Nat.zero_le _, hh⟩
   ·rintro s a w ⟨hs, hh⟩ hf
    have hdl := hdrp s (by omega)
    refine sy_sq ?_
    refine o_v hf hh (yv_bin rfl rfl rfl) ?_; clear hf a; intro a hf
    refine o_end ?_
    refine sy_seq ?_
    refine sy_cond hf rfl (fun hg7 => ?_) (fun hg7 => ?_)
    ·have hG7 := hg7; try simp only [gS] at hG7
     refine sy_skip ?_
     refine then_n ?_
     refine sy_seq ?_
     refine sy_block ?_
     refine sy_sq ?_
     refine o_v hf hh (yv_move rfl) ?_; clear hf a; intro a hf
     refine o_alloc hf hh Try.ze_74 ?_; clear hf hh a; intro B7 a w hf hh
     refine o_store hf hh Try.sz_74 fun w hh => ?_
     refine o_end ?_
     refine sy_sq ?_
     refine o_v hf hh (yv_makeFunc rfl rfl) ?_; clear hf a; intro a hf
     refine o_v hf hh (yv_assign rfl) ?_; clear hf a; intro a hf
     refine o_end ?_
     refine sy_sq ?_
     refine o_v hf hh (y_ld Try.sc_74 rfl) ?_; clear hf a; intro a hf
     refine o_v hf hh (yv_move rfl) ?_; clear hf a; intro a hf
     refine o_call hf Try.en_55 rfl rfl rfl (p55 s (drpP c s) (by omega) hdl _) ?_; clear hf a; intro v a w hR hf
     obtain ⟨rfl, hx⟩ := hR; replace hh := hh.more hx; clear hx
     refine o_v hf hh (yv_bin rfl rfl rfl) ?_; clear hf a; intro a hf
     refine o_v hf hh (yv_move rfl) ?_; clear hf a; intro a hf
     refine guard_split hf (t := 30) rfl (fun hg10 => ?_) (fun hg10 => ?_)
     ·have hG10 := hg10; try simp only [gS] at hG10
      refine o_v hf hh (yv_move rfl) ?_; clear hf a; intro a hf
      refine o_v hf hh (yv_move rfl) ?_; clear hf a; intro a hf
      refine o_call hf Try.en_56 rfl rfl rfl (p56 (fun o => decide (o &&& s ≠ 0)) l2 sb _ cb 54 #[ptr B7 0] _ (hU _ (fun q hq => hh.get q (by simp [hq]))) rfl (by omega) Try.en_54 (fun o ho w1 e => p54 o s B7 w1 (hl16 o ho) (by omega) (e.get (hh.at (i := 0) rfl)))) ?_; clear hf a; intro v a w hR hf
      obtain ⟨rfl, hx⟩ := hR; replace hh := hh.more hx; clear hx
      refine o_v hf hh (yv_not rfl) ?_; clear hf a; intro a hf
      refine o_v hf hh (y_pt rfl rfl) ?_; clear hf a; intro a hf
      refine o_end ?_
      refine sy_cond hf rfl (fun hg12 => ?_) (fun hg12 => ?_)
      ·have hG12 := hg12; try simp only [gS] at hG12
       refine sy_ops ?_
       refine o_v hf hh (y_ld Try.sc_74 rfl) ?_; clear hf a; intro a hf
       refine o_v hf hh (yv_assign rfl) ?_; clear hf a; intro a hf
       refine ops_end ?_
       refine blk_n ?_
       refine then_n ?_
       refine sy_ops ?_
       first | refine o_v hf hh (yv_addx (.inr rfl) rfl rfl (by omega) (by simp only [IntKind.top]; omega)) ?_; clear hf a; intro a hf | refine o_v hf hh (yv_bin rfl rfl rfl) ?_; clear hf a; intro a hf
       refine o_v hf hh (yv_move rfl) ?_; clear hf a; intro a hf
       refine ops_end ?_
       refine then_n ?_
       first
         | (have hc1 : Bet s (drpP c s) ∧ hitB c s = true := ⟨cmpS_neg.1 (by omega), by rw [← hal2]; assumption⟩
            exact ⟨s + 1, ⟨⟨by omega, hh.less (.cons _ (.refl _))⟩, hf.head ⟨rfl, congrArg (fun z => some (Value.int IntKind.u64 ((z : Nat) : Int))) (by rw [drpP, if_pos hc1]), True.intro⟩ (Keep.cons rfl (Keep.cons rfl (Keep.cons rfl (Keep.cons rfl (Keep.cons rfl (Keep.cons rfl (Keep.cons rfl (Keep.cons rfl (Keep.cons rfl (Keep.cons rfl (Keep.cons rfl (Keep.cons rfl (Keep.cons rfl (Keep.cons rfl (Keep.cons rfl (Keep.cons rfl (Keep.cons rfl (Keep.cons rfl (Keep.cons rfl (Keep.app rfl (Keep.rm rfl Keep.base)))))))))))))))))))))⟩, by omega⟩)
         | (have hc1 : ¬ (Bet s (drpP c s) ∧ hitB c s = true) := fun h => by
              have h1 := cmpS_neg.2 h.1
              have h2 := h.2
              rw [← hal2] at h2
              first
              | omega
              | (simp_all; done)
            exact ⟨s + 1, ⟨⟨by omega, hh.less (.cons _ (.refl _))⟩, hf.head ⟨rfl, congrArg (fun z => some (Value.int IntKind.u64 ((z : Nat) : Int))) (by rw [drpP, if_neg hc1]), True.intro⟩ (Keep.cons rfl (Keep.cons rfl (Keep.cons rfl (Keep.cons rfl (Keep.cons rfl (Keep.cons rfl (Keep.cons rfl (Keep.cons rfl (Keep.cons rfl (Keep.cons rfl (Keep.cons rfl (Keep.cons rfl (Keep.cons rfl (Keep.cons rfl (Keep.cons rfl (Keep.cons rfl (Keep.cons rfl (Keep.cons rfl (Keep.cons rfl (Keep.app rfl (Keep.rm rfl Keep.base)))))))))))))))))))))⟩, by omega⟩)
         | omega
      ·have hG12 := hg12; try simp only [gS] at hG12
       refine sy_skip ?_
       refine blk_n ?_
       refine then_n ?_
       refine sy_ops ?_
       first | refine o_v hf hh (yv_addx (.inr rfl) rfl rfl (by omega) (by simp only [IntKind.top]; omega)) ?_; clear hf a; intro a hf | refine o_v hf hh (yv_bin rfl rfl rfl) ?_; clear hf a; intro a hf
       refine o_v hf hh (yv_move rfl) ?_; clear hf a; intro a hf
       refine ops_end ?_
       refine then_n ?_
       first
         | (have hc1 : Bet s (drpP c s) ∧ hitB c s = true := ⟨cmpS_neg.1 (by omega), by rw [← hal2]; assumption⟩
            exact ⟨s + 1, ⟨⟨by omega, hh.less (.cons _ (.refl _))⟩, hf.head ⟨rfl, congrArg (fun z => some (Value.int IntKind.u64 ((z : Nat) : Int))) (by rw [drpP, if_pos hc1]), True.intro⟩ (Keep.cons rfl (Keep.cons rfl (Keep.cons rfl (Keep.cons rfl (Keep.cons rfl (Keep.cons rfl (Keep.cons rfl (Keep.cons rfl (Keep.cons rfl (Keep.cons rfl (Keep.cons rfl (Keep.cons rfl (Keep.cons rfl (Keep.cons rfl (Keep.cons rfl (Keep.cons rfl (Keep.cons rfl (Keep.app rfl (Keep.rm rfl Keep.base)))))))))))))))))))⟩, by omega⟩)
         | (have hc1 : ¬ (Bet s (drpP c s) ∧ hitB c s = true) := fun h => by
              have h1 := cmpS_neg.2 h.1
              have h2 := h.2
              rw [← hal2] at h2
              first
              | omega
              | (simp_all; done)
            exact ⟨s + 1, ⟨⟨by omega, hh.less (.cons _ (.refl _))⟩, hf.head ⟨rfl, congrArg (fun z => some (Value.int IntKind.u64 ((z : Nat) : Int))) (by rw [drpP, if_neg hc1]), True.intro⟩ (Keep.cons rfl (Keep.cons rfl (Keep.cons rfl (Keep.cons rfl (Keep.cons rfl (Keep.cons rfl (Keep.cons rfl (Keep.cons rfl (Keep.cons rfl (Keep.cons rfl (Keep.cons rfl (Keep.cons rfl (Keep.cons rfl (Keep.cons rfl (Keep.cons rfl (Keep.cons rfl (Keep.cons rfl (Keep.app rfl (Keep.rm rfl Keep.base)))))))))))))))))))⟩, by omega⟩)
         | omega
     ·have hG10 := hg10; try simp only [gS] at hG10
      refine o_off hf ?_; clear hf a; intro a hf
      refine o_off hf ?_; clear hf a; intro a hf
      refine o_off hf ?_; clear hf a; intro a hf
      refine o_off hf ?_; clear hf a; intro a hf
      refine o_v hf hh (y_pf rfl rfl) ?_; clear hf a; intro a hf
      refine o_end ?_
      refine c_f hf ?_
      refine sy_skip ?_
      refine blk_n ?_
      refine then_n ?_
      refine sy_ops ?_
      first | refine o_v hf hh (yv_addx (.inr rfl) rfl rfl (by omega) (by simp only [IntKind.top]; omega)) ?_; clear hf a; intro a hf | refine o_v hf hh (yv_bin rfl rfl rfl) ?_; clear hf a; intro a hf
      refine o_v hf hh (yv_move rfl) ?_; clear hf a; intro a hf
      refine ops_end ?_
      refine then_n ?_
      first
        | (have hc1 : Bet s (drpP c s) ∧ hitB c s = true := ⟨cmpS_neg.1 (by omega), by rw [← hal2]; assumption⟩
           exact ⟨s + 1, ⟨⟨by omega, hh.less (.cons _ (.refl _))⟩, hf.head ⟨rfl, congrArg (fun z => some (Value.int IntKind.u64 ((z : Nat) : Int))) (by rw [drpP, if_pos hc1]), True.intro⟩ (Keep.cons rfl (Keep.cons rfl (Keep.cons rfl (Keep.cons rfl (Keep.cons rfl (Keep.cons rfl (Keep.cons rfl (Keep.cons rfl (Keep.cons rfl (Keep.cons rfl (Keep.cons rfl (Keep.cons rfl (Keep.cons rfl (Keep.cons rfl (Keep.cons rfl (Keep.cons rfl (Keep.cons rfl (Keep.app rfl (Keep.rm rfl Keep.base)))))))))))))))))))⟩, by omega⟩)
        | (have hc1 : ¬ (Bet s (drpP c s) ∧ hitB c s = true) := fun h => by
             have h1 := cmpS_neg.2 h.1
             have h2 := h.2
             rw [← hal2] at h2
             first
             | omega
             | (simp_all; done)
           exact ⟨s + 1, ⟨⟨by omega, hh.less (.cons _ (.refl _))⟩, hf.head ⟨rfl, congrArg (fun z => some (Value.int IntKind.u64 ((z : Nat) : Int))) (by rw [drpP, if_neg hc1]), True.intro⟩ (Keep.cons rfl (Keep.cons rfl (Keep.cons rfl (Keep.cons rfl (Keep.cons rfl (Keep.cons rfl (Keep.cons rfl (Keep.cons rfl (Keep.cons rfl (Keep.cons rfl (Keep.cons rfl (Keep.cons rfl (Keep.cons rfl (Keep.cons rfl (Keep.cons rfl (Keep.cons rfl (Keep.cons rfl (Keep.app rfl (Keep.rm rfl Keep.base)))))))))))))))))))⟩, by omega⟩)
        | omega
    ·have hG7 := hg7; try simp only [gS] at hG7
     refine sy_exit ?_
     refine then_e ?_
     refine then_e ?_
     refine blk_e ?_
     refine then_n ?_
     refine sy_sq ?_
     refine o_v hf hh (yv_move rfl) ?_; clear hf a; intro a hf
     first | refine o_v hf hh (yv_convx (.inl rfl) (by kernel_rfl) Try.un_3 rfl (by omega) (by simp only [IntKind.top]; omega)) ?_; clear hf a; intro a hf | refine o_v hf hh (yv_conv (by kernel_rfl) Try.un_3 rfl) ?_; clear hf a; intro a hf
     refine o_v hf hh (yv_assign rfl) ?_; clear hf a; intro a hf
     refine o_store hf hh Try.sz_29 fun w hh => ?_
     refine o_end ?_
     refine sy_ret ?_
     obtain rfl : s = q - 1 := by omega
     rw [(drpE0 hcb).1, (drpE0 hcb).2]
     have eb : drpP c (q - 1) = bst (drpL c) := by rw [hq]; exact drpP_all c (by omega)
     exact ret_da (Ds := []) hf hh Try.en_41 (fun w' => d41r B3 w') fun w' hh => ⟨[.int .i64 (bst (drpL c) : Nat), .int .i64 0], ⟨by rw [← eb]; rfl, ⟨B3, 0, _, _, _, rfl, hh.at (i := 0) rfl, .inl ⟨Try.sc_29, rfl⟩⟩, True.intro⟩, rfl, hh.ext⟩
  ·intro ch w hX hf
   obtain ⟨e, rfl, hx, he⟩ := hX; replace hh := hh.more hx; clear hx
   refine then_p ?_
   rcases he with ⟨hcb, rfl⟩ | ⟨hcb, hal, rfl⟩
   · rw [(drpE1 hcb).1, (drpE1 hcb).2]
     exact pan_da (Ds := []) hf hh Try.en_41 (fun w' hh => d41p B3 1 0 w' (hh.at (i := 0) rfl)) fun w' w'' hh h2 => by
       replace hh := hh.turn (i := 0) rfl h2.ext (h2.at (i := 0) rfl)
       exact ⟨[.int .i64 0, .int .i64 1], ⟨rfl, ⟨B3, 0, _, _, _, rfl, hh.at (i := 0) rfl, .inl ⟨Try.sc_29, rfl⟩⟩, True.intro⟩, rfl, hh.ext⟩
   · simp at hal
end Go.Proofs.Ytccjnjhlnpgocaa
