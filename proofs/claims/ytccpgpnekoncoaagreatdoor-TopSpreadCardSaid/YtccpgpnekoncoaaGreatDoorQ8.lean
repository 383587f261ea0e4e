/- Lemmas, in order: Package pair: Shift, Power, Stands. Package pair: Distance. Package pair: Why. Cards in memory. Package mount: what is a card. Package mount: a card that is opened, what is seen.. -/
import Derived.Test.YtccpgpnekoncoaaGreatDoorQ7
namespace Go.Proofs.YtccpgpnekoncoaaGreatDoor
open Go Go.Sy Go.PaiM
theorem noX {P : Program} {f : FuncId} {args : Array Value} {w : World} {R : Value → World → Prop} {X : List PanicEntry → World → Prop} (h : Calls P f args w (RetX R X)) (hn : ∀ ch w', ¬ X ch w') : Calls P f args w (Ret R) :=
  (callsIn_wide (n := 0)).1 (((callsIn_wide (n := 0)).2 h).mono fun e w' he => by
    cases e with
    | returned v => exact he
    | panicked c => exact (hn _ _ he).elim
    | outgrown => exact he.elim)
theorem c_caughtR (Be : Nat) (w : World) : CallsDIn (FR none) 0 Tryz.prog 28 #[ptr Be 0] .returning w (fun e u' w' => (∃ v, e = .returned v) ∧ u' = .returning ∧ Ext [] w w') := by
  refine callsDIn_of_wpSIn Tryz.func28 rfl trivial fun c₀ cs hu => ?_
  refine wpSIn_seq ?_
  refine wpSIn_recover (v := .nilIface) (cs' := c₀ :: cs) rfl rfl (.inr ⟨by simp [recoverD, hu], rfl, rfl⟩) ?_
  have hf := (Fr.enter [ptr Be 0] Tryz.f28.ntmps (Nat.le_of_ble_eq_true rfl)).put (d := 5) (blt_lt rfl) (.nilIface)
  have hh := Hp.init w []
  refine o_v hf hh (yv_assign rfl) ?_; clear hf; intro a hf
  refine ops_end ?_
  refine wpSIn_of_wpIn rfl ?_
  show WP _ none _ _ _ _
  refine sy_sq ?_
  refine o_v hf hh (yv_move rfl) ?_; clear hf a; intro a hf
  refine o_v hf hh (yv_neqNil (by kernel_rfl) rfl rfl) ?_; clear hf a; intro a hf
  refine o_end ?_
  refine c_f hf ?_
  refine sy_skip ?_
  exact ends_s hf rfl (frame_same hu) ⟨⟨_, rfl⟩, rfl, hh.ext⟩
theorem c_caughtP (Be : Nat) (e x : Int) (w : World) (hb : w.heap[Be]? = some (.cells #[.int .i64 x] 28 (0, 0))) : CallsDIn (FR none) 0 Tryz.prog 28 #[ptr Be 0] (.panicking (misP e)) w (fun e' u' w' => (∃ v, e' = .returned v) ∧ u' = .panicking [{ v := .iface 135 (.agg #[.int .i64 e]), recovered := true }] ∧ Hp w [Be] [(Be, .cells #[.int .i64 e] 28)] w') := by
  refine callsDIn_of_wpSIn Tryz.func28 rfl trivial fun c₀ cs hu => ?_
  refine wpSIn_seq ?_
  refine wpSIn_recover (v := .iface 135 (.agg #[.int .i64 e])) (cs' := { c₀ with mode := .panicking [{ v := .iface 135 (.agg #[.int .i64 e]), recovered := true }] } :: cs) rfl rfl (.inl (by simp [recoverD, hu])) ?_
  have hf := (Fr.enter [ptr Be 0] Tryz.f28.ntmps (Nat.le_of_ble_eq_true rfl)).put (d := 5) (blt_lt rfl) (.iface 135 (.agg #[.int .i64 e]))
  have hh := Hp.init1 hb
  refine o_v hf hh (yv_assign rfl) ?_; clear hf; intro a hf
  refine ops_end ?_
  refine wpSIn_of_wpIn rfl ?_
  show WP _ none _ _ _ _
  refine sy_sq ?_
  refine o_v hf hh (yv_move rfl) ?_; clear hf a; intro a hf
  refine o_v hf hh (yv_neqSome (by kernel_rfl) rfl rfl) ?_; clear hf a; intro a hf
  refine o_end ?_
  refine c_t hf ?_
  refine sy_sq ?_
  refine o_v hf hh (yv_move rfl) ?_; clear hf a; intro a hf
  refine o_v hf hh (yv_assert (by kernel_rfl) rfl) ?_; clear hf a; intro a hf
  refine o_v hf hh (yv_move rfl) ?_; clear hf a; intro a hf
  refine o_v hf hh (yv_extract rfl rfl) ?_; clear hf a; intro a hf
  refine o_v hf hh (yv_extract rfl rfl) ?_; clear hf a; intro a hf
  refine o_alloc hf hh Tryz.ze_135 ?_; clear hf hh a; intro B3 a w hf hh
  refine o_store hf hh Tryz.sz_135 fun w hh => ?_
  refine o_v hf hh (yv_assign rfl) ?_; clear hf a; intro a hf
  refine o_end ?_
  refine sy_seq ?_
  refine sy_sq ?_
  refine o_v hf hh (yv_move rfl) ?_; clear hf a; intro a hf
  refine o_v hf hh (yv_not rfl) ?_; clear hf a; intro a hf
  refine o_end ?_
  refine c_f hf ?_
  refine sy_skip ?_
  refine then_n ?_
  refine sy_ops ?_
  refine o_v hf hh (yv_move rfl) ?_; clear hf a; intro a hf
  refine o_v hf hh (yv_fieldAddr Tryz.fo_135_0 rfl) ?_; clear hf a; intro a hf
  refine o_v hf hh (y_ld Tryz.sc_28 rfl) ?_; clear hf a; intro a hf
  refine o_v hf hh (yv_nilCheck rfl) ?_; clear hf a; intro a hf
  refine o_store hf hh Tryz.sz_28 fun w hh => ?_
  refine ops_end ?_
  exact ends_s hf rfl rfl ⟨⟨_, rfl⟩, rfl, hh.less (.cons _ (.refl _))⟩
theorem opE_ok {p : PrD} {t : ThD} {k : Nat} (hp : PrOk p) (hk : p.th[k]? = some t) : opE p [((k : Nat) : Int)] = 0 := by
  have hl := (List.getElem?_eq_some_iff.1 hk).1
  refine opE_zero.2 ⟨prB_iff.2 hp, fun n hn => ?_⟩
  rw [List.mem_singleton.1 hn]
  exact inP_iff.2 ⟨by omega, by omega⟩
theorem opE_nil {p : PrD} (hp : PrOk p) : opE p [] = 0 := opE_zero.2 ⟨prB_iff.2 hp, fun n hn => by simp at hn⟩
/-- What Power, Distance tell. -/
def powEr (p : PrD) : Int := match powO p with | some _ => 0 | none => 4
def powV (p : PrD) : Int × Int := match powO p with | some w => w | none => (0, 0)
theorem trE_pow {p : PrD} {l : List Int} (h : opE p l = 0) : trE p l = powEr p := by unfold trE powEr; rw [if_pos h]; cases powO p <;> rfl
theorem powEr_some {p : PrD} {y : Int × Int} (h : powO p = some y) : powEr p = 0 := by unfold powEr; rw [h]
theorem powV_some {p : PrD} {y : Int × Int} (h : powO p = some y) : powV p = y := by unfold powV; rw [h]
theorem pow_none {p : PrD} (h : powEr p ≠ 0) : powO p = none := by
  unfold powEr at h
  split at h
  · exact absurd rfl h
  · assumption
def disE (p : PrD) (t : ThD) : Int := match powO p with | some w => if stB p t w then 0 else 11 | none => 4
def disV (p : PrD) (t : ThD) : Int × Int := match powO p with | some w => if stB p t w then dstV p t w else (0, 0) | none => (0, 0)
set_option maxRecDepth 100000 in
theorem c_Shift (p : PrD) (sa : Option Addr) (cp : Nat) (t : ThD) (k : Nat) (hp : PrOk p) (hk : p.th[k]? = some t) (u : World) (hA : ThAt u sa p.th) : Calls Tryz.prog 76 #[.agg (prA p sa cp), .int .i64 (k : Nat)] u (Ret fun v w' => v = .tuple #[spV (shf t), .int .i64 0] ∧ Ext [] u w') := by
  refine calls_ofM Tryz.func76 rfl rfl (fun a hf => ?_)
  have hh := Hp.init u []
  have hl := hp.nt
  have hkl := (List.getElem?_eq_some_iff.1 hk).1
  obtain ⟨blk, off, cc, TT, fr, esa, hb2, hc⟩ := hA k t hk
  have hO := hp.th t (List.mem_of_getElem? hk)
  obtain ⟨⟨a1, a2, a3⟩, ⟨b1, b2, b3⟩, ⟨c1, c2, c3⟩, ⟨d1, d2, d3⟩, -⟩ := hO
  refine sy_sq ?_
  refine o_box hf hh ?_; clear hf hh a; intro B2 a w hf hh
  refine o_alloc hf hh Tryz.ze_35 ?_; clear hf hh a; intro B4 a w hf hh
  refine o_alloc hf hh Tryz.ze_28 ?_; clear hf hh a; intro B5 a w hf hh
  refine o_end ?_
  refine sy_sq ?_
  refine o_defer hf ?_; clear hf a; intro a hf
  refine o_end ?_
  refine sy_sq ?_
  refine o_v hf hh (y_lds Tryz.ag_38 rfl) ?_; clear hf a; intro a hf
  refine o_v hf hh (yv_move rfl) ?_; clear hf a; intro a hf
  refine ops_buildSl hf hh Tryz.bl_108_1 rfl rfl (.inl rfl) rfl ?_; clear hf hh; clear a; intro B8 a w hf hh
  refine o_call hf Tryz.en_29 rfl rfl rfl (noX (c_open p sa cp [((k : Nat) : Int)] (some ⟨B8, 0, none⟩) 1 w (hA.ext hh.ext) (by omega) (ix_one (hh.at (i := 0) rfl)) (by simp)) (fun ch w9 hx => hx.1 (opE_ok hp hk))) ?_; clear hf a; intro v a w hR hf
  obtain ⟨-, Bv, rfl, hx⟩ := hR; replace hh := hh.join hx; clear hx
  refine o_v hf hh (yv_nilCheck rfl) ?_; clear hf a; intro a hf
  refine o_v hf hh (yv_fieldAddr Tryz.fo_85_0 rfl) ?_; clear hf a; intro a hf
  refine o_v hf hh (yv_fieldAddr Tryz.fo_38_5 rfl) ?_; clear hf a; intro a hf
  refine o_v hf hh (y_ld Tryz.sc_36 rfl) ?_; clear hf a; intro a hf
  refine o_v hf hh (yv_move rfl) ?_; clear hf a; intro a hf
  refine o_v hf hh (y_ix Tryz.se_36 (congrArg (fun z => some (Value.slice z p.th.length cp)) esa) rfl) ?_; clear hf a; intro a hf
  refine o_v hf hh (y_lds Tryz.ag_46 rfl) ?_; clear hf a; intro a hf
  refine o_call hf Tryz.en_67 rfl rfl rfl (c_shift t _ ⟨by omega, by omega⟩ ⟨by omega, by omega⟩ ⟨by omega, by omega⟩ ⟨by omega, by omega⟩) ?_; clear hf a; intro v a w hR hf
  obtain ⟨rfl, hx⟩ := hR; replace hh := hh.more hx; clear hx
  refine o_store hf hh Tryz.sz_35 fun w hh => ?_
  refine o_store hf hh Tryz.sz_28 fun w hh => ?_
  refine o_end ?_
  refine sy_ret ?_
  exact ret_da (Ds := []) hf hh Tryz.en_28 (fun w' => c_caughtR B5 w') fun w' hh => ⟨[spV (shf t), .int .i64 0], ⟨⟨B4, 0, _, _, _, rfl, hh.at (i := 3) rfl, .inr ⟨2, _, Tryz.ag_35, rfl, rfl⟩⟩, ⟨B5, 0, _, _, _, rfl, hh.at (i := 2) rfl, .inl ⟨Tryz.sc_28, rfl⟩⟩, True.intro⟩, ⟨rfl, hh.ext⟩⟩
theorem c_Power (p : PrD) (sa : Option Addr) (cp : Nat) (hp : PrOk p) (u : World) (hA : ThAt u sa p.th) : Calls Tryz.prog 104 #[.agg (prA p sa cp)] u (Ret fun v w' => v = .tuple #[spV (powV p), .int .i64 (powEr p)] ∧ Ext [] u w') := by
  refine calls_ofM Tryz.func104 rfl rfl (fun a hf => ?_)
  have hh := Hp.init u []
  have hl := hp.nt
  refine sy_sq ?_
  refine o_box hf hh ?_; clear hf hh a; intro B1 a w hf hh
  refine o_alloc hf hh Tryz.ze_35 ?_; clear hf hh a; intro B2 a w hf hh
  refine o_alloc hf hh Tryz.ze_28 ?_; clear hf hh a; intro B3 a w hf hh
  refine o_end ?_
  refine sy_sq ?_
  refine o_defer hf ?_; clear hf a; intro a hf
  refine o_end ?_
  refine sy_sq ?_
  refine o_v hf hh (y_lds Tryz.ag_38 rfl) ?_; clear hf a; intro a hf
  refine o_callX hf Tryz.en_33 rfl rfl rfl (c_truths p sa cp [] none 0 w (hA.ext hh.ext) (by omega) (ix_nil _ _) (by simp)) ?_ ?_
  ·clear hf a; intro v a w hR hf
   obtain ⟨htr, y, Bv, hy, rfl, hx⟩ := hR; replace hh := hh.join hx; clear hx
   refine o_v hf hh (yv_nilCheck rfl) ?_; clear hf a; intro a hf
   refine o_v hf hh (yv_fieldAddr Tryz.fo_85_1 rfl) ?_; clear hf a; intro a hf
   refine o_v hf hh (y_lds Tryz.ag_83 rfl) ?_; clear hf a; intro a hf
   refine o_call hf Tryz.en_43 rfl rfl rfl (c_spanOf y _) ?_; clear hf a; intro v a w hR hf
   obtain ⟨rfl, hx⟩ := hR; replace hh := hh.more hx; clear hx
   refine o_store hf hh Tryz.sz_35 fun w hh => ?_
   refine o_store hf hh Tryz.sz_28 fun w hh => ?_
   refine o_end ?_
   refine sy_ret ?_
   exact ret_da (Ds := []) hf hh Tryz.en_28 (fun w' => c_caughtR B3 w') fun w' hh => ⟨[spV y, .int .i64 0], ⟨⟨B2, 0, _, _, _, rfl, hh.at (i := 2) rfl, .inr ⟨2, _, Tryz.ag_35, rfl, rfl⟩⟩, ⟨B3, 0, _, _, _, rfl, hh.at (i := 1) rfl, .inl ⟨Tryz.sc_28, rfl⟩⟩, True.intro⟩, ⟨by rw [powV_some hy, powEr_some hy]; rfl, hh.ext⟩⟩
  ·intro ch w hX hf
   obtain ⟨htr, rfl, hx⟩ := hX; replace hh := hh.more hx; clear hx
   refine then_p ?_
   rw [trE_pow (opE_nil hp)] at htr ⊢
   exact pan_da (Ds := []) hf hh Tryz.en_28 (fun w' hh => c_caughtP B3 (powEr p) 0 w' (hh.at (i := 0) rfl)) fun w' w'' hh h2 => by
     replace hh := hh.turn (i := 0) rfl h2.ext (h2.at (i := 0) rfl)
     exact ⟨[spV (0, 0), .int .i64 (powEr p)], ⟨⟨B2, 0, _, _, _, rfl, hh.at (i := 1) rfl, .inr ⟨2, _, Tryz.ag_35, rfl, rfl⟩⟩, ⟨B3, 0, _, _, _, rfl, hh.at (i := 0) rfl, .inl ⟨Tryz.sc_28, rfl⟩⟩, True.intro⟩, ⟨by unfold powV; rw [pow_none htr]; rfl, hh.ext⟩⟩
set_option maxRecDepth 100000 in
theorem c_Stands (p : PrD) (sa : Option Addr) (cp : Nat) (y : Int × Int) (z : Int) (hl : p.th.length ≤ 9223372036854775807) (hz : prB p = true → inP z p.near p.far = true) (hy : prB p = true → powO p = some y) (u : World) (hA : ThAt u sa p.th) : Calls Tryz.prog 10 #[.agg (prA p sa cp), .int .i64 z] u (Ret fun v w' => v = (if prB p then .tuple #[spV (y.1 / z, y.2 / z), .int .i64 0] else .tuple #[spV (0, 0), .int .i64 1]) ∧ Ext [] u w') := by
  refine calls_ofM Tryz.func10 rfl rfl (fun a hf => ?_)
  have hh := Hp.init u []
  refine sy_sq ?_
  refine o_box hf hh ?_; clear hf hh a; intro B2 a w hf hh
  refine o_alloc hf hh Tryz.ze_35 ?_; clear hf hh a; intro B4 a w hf hh
  refine o_alloc hf hh Tryz.ze_28 ?_; clear hf hh a; intro B5 a w hf hh
  refine o_end ?_
  refine sy_sq ?_
  refine o_defer hf ?_; clear hf a; intro a hf
  refine o_end ?_
  refine sy_sq ?_
  refine o_v hf hh (y_lds Tryz.ag_38 rfl) ?_; clear hf a; intro a hf
  refine o_callX hf Tryz.en_29 rfl rfl rfl (c_open p sa cp [] none 0 w (hA.ext hh.ext) hl (ix_nil _ _) (by simp)) ?_ ?_
  ·clear hf a; intro v a w hR hf
   obtain ⟨hop, Bv, rfl, hx⟩ := hR; replace hh := hh.join hx
   have hpb := (opE_zero.1 hop).1
   have hp := prB_iff.1 hpb
   replace hz := hz hpb
   replace hy := hy hpb
   obtain ⟨z1, z2⟩ := inP_iff.1 hz
   obtain ⟨-, y1, y2, y3⟩ := pow_bd hp hy
   have hne := hp.ne; have hfa := hp.fa
   have hmn := hx.fresh Bv (by simp); clear hx
   refine o_v hf hh (yv_assign rfl) ?_; clear hf a; intro a hf
   refine o_end ?_
   refine sy_seq ?_
   replace hh : Hp u [] [(Bv, .cells (viA p sa cp (0, 0)) viT), (B5, .cells #[.int .i64 0] 28), (B4, .cells #[.int .i64 0, .int .i64 0] 35), (B2, .cells (prA p sa cp) 38)] w := hh
   refine sy_tail (C := Hp _ _ _) 12 Tryz.follows (by kernel_rfl) rfl rfl (hh.drawn _) ?_
   refine oq_v hf (yv_move rfl) ?_; clear hf a; intro a hf
   refine oq_v hf (yv_move rfl) ?_; clear hf a; intro a hf
   refine oq_v hf (yv_nilCheck rfl) ?_; clear hf a; intro a hf
   refine oq_v hf (yv_fieldAddr Tryz.fo_85_0 rfl) ?_; clear hf a; intro a hf
   refine oq_v hf (yv_fieldAddr Tryz.fo_38_3 rfl) ?_; clear hf a; intro a hf
   refine oq_v hf (y_ld Tryz.sc_3 rfl) ?_; clear hf a; intro a hf
   refine oq_v hf (yv_move rfl) ?_; clear hf a; intro a hf
   refine oq_v hf (yv_nilCheck rfl) ?_; clear hf a; intro a hf
   refine oq_v hf (yv_fieldAddr Tryz.fo_85_0 rfl) ?_; clear hf a; intro a hf
   refine oq_v hf (yv_fieldAddr Tryz.fo_38_4 rfl) ?_; clear hf a; intro a hf
   refine oq_v hf (y_ld Tryz.sc_3 rfl) ?_; clear hf a; intro a hf
   refine oq_call hf Tryz.en_31 rfl rfl rfl (fun w hh => c_wthn z p.near p.far _) ?_; clear hf a; intro a hf
   refine q_end fun w hh => ?_
   refine o_call hf Tryz.en_30 rfl rfl rfl (noX (c_need (inP z p.near p.far) 2 w) (fun ch w9 hx => by rw [hz] at hx; exact Bool.noConfusion hx.1)) ?_; clear hf a; intro v a w hR hf
   obtain ⟨-, hx⟩ := hR; replace hh := hh.more hx; clear hx
   refine o_end ?_
   refine sy_sq ?_
   refine o_v hf hh (yv_move rfl) ?_; clear hf a; intro a hf
   refine o_call hf Tryz.en_32 rfl rfl rfl (noX (c_look p sa cp (0, 0) hp Bv u w hA hh.ext (hh.fresh Bv (by simp)) (hh.at (i := 0) rfl)) (fun ch w9 hx => by rw [hy] at hx; cases hx.1)) ?_; clear hf a; intro v a w hR hf
   obtain ⟨y9, hy9, hx⟩ := hR; replace hh := hh.joinM (i := 0) rfl hx; clear hx
   obtain rfl : y = y9 := by rw [hy] at hy9; exact Option.some.inj hy9
   clear hy9
   replace hh : Hp u [] [(Bv, .cells (viA p sa cp y) viT), (B5, .cells #[.int .i64 0] 28), (B4, .cells #[.int .i64 0, .int .i64 0] 35), (B2, .cells (prA p sa cp) 38)] w := hh
   refine o_end ?_
   refine sy_seq ?_
   refine sy_treeC (.p 0 (.p 1 (.p 2 (.p 3 (.q 0 4 (.p 5 (.p 6 (.p 7 (.p 8 (.p 9 (.p 10 (.q 0 11 (.p 12 (.p 13 (.e1 14 (.p 15 (.e1 16 (.p 17 (.e1 18 (.e1 19 (.fin))))))))))))))))))))) [[]] [(AtE u [] [(Bv, .cells (viA p sa cp y) viT)], [])] Tryz.follows (by kernel_rfl) rfl hh (fun w hh => ?_)
   refine mc_p rfl   hf (yv_move rfl) (.inl rfl) rfl rfl ?_; clear hf a; intro a hf
   refine mc_p rfl   hf (yv_nilCheck rfl) (.inl rfl) rfl rfl ?_; clear hf a; intro a hf
   refine mc_p rfl   hf (yv_fieldAddr Tryz.fo_85_1 rfl) (.inl rfl) rfl rfl ?_; clear hf a; intro a hf
   refine mc_p rfl   hf (y_ia Tryz.ae_83 rfl rfl) (.inl rfl) rfl rfl ?_; clear hf a; intro a hf
   refine mc_q rfl rfl (AtE.of hh (by intro q hq; rw [List.mem_singleton.1 hq]; simp)) hf (y_ld Tryz.sc_3 rfl) (.inl rfl) rfl rfl ?_; clear hf a; intro a hf
   refine mc_p rfl   hf (yv_move rfl) (.inl rfl) rfl rfl ?_; clear hf a; intro a hf
   refine mc_p rfl   hf (yv_quo rfl rfl (by omega) (by omega) (by omega)) (.inl rfl) rfl rfl ?_; clear hf a; intro a hf
   refine mc_p rfl   hf (yv_move rfl) (.inl rfl) rfl rfl ?_; clear hf a; intro a hf
   refine mc_p rfl   hf (yv_nilCheck rfl) (.inl rfl) rfl rfl ?_; clear hf a; intro a hf
   refine mc_p rfl   hf (yv_fieldAddr Tryz.fo_85_1 rfl) (.inl rfl) rfl rfl ?_; clear hf a; intro a hf
   refine mc_p rfl   hf (y_ia Tryz.ae_83 rfl rfl) (.inl rfl) rfl rfl ?_; clear hf a; intro a hf
   refine mc_q rfl rfl (AtE.of hh (by intro q hq; rw [List.mem_singleton.1 hq]; simp)) hf (y_ld Tryz.sc_3 rfl) (.inl rfl) rfl rfl ?_; clear hf a; intro a hf
   refine mc_p rfl   hf (yv_move rfl) (.inl rfl) rfl rfl ?_; clear hf a; intro a hf
   refine mc_p rfl   hf (yv_quo rfl rfl (by omega) (by omega) (by omega)) (.inl rfl) rfl rfl ?_; clear hf a; intro a hf
   refine mc_e rfl fun Q1 => ?_
   refine o_store hf hh Tryz.sz_35 fun w hh => ?_
   refine ops_end ?_
   refine then_n ⟨⟨fun _ _ => (AtE.of hh (by intro q hq; rw [List.mem_singleton.1 hq]; simp)), trivial⟩, ?_⟩
   refine mc_p rfl   hf (yv_fieldAddr Tryz.fo_35_0 rfl) (.inl rfl) rfl rfl ?_; clear hf a; intro a hf
   refine mc_e rfl fun Q1 => ?_
   refine o_store hf hh Tryz.sz_3 fun w hh => ?_
   refine ops_end ?_
   refine then_n ⟨⟨fun _ _ => (AtE.of hh (by intro q hq; rw [List.mem_singleton.1 hq]; simp)), trivial⟩, ?_⟩
   refine mc_p rfl   hf (yv_fieldAddr Tryz.fo_35_1 rfl) (.inl rfl) rfl rfl ?_; clear hf a; intro a hf
   refine mc_e rfl fun Q1 => ?_
   refine o_store hf hh Tryz.sz_3 fun w hh => ?_
   refine ops_end ?_
   refine then_n ⟨⟨fun _ _ => (AtE.of hh (by intro q hq; rw [List.mem_singleton.1 hq]; simp)), trivial⟩, ?_⟩
   refine mc_e rfl fun Q1 => ?_
   refine o_store hf hh Tryz.sz_28 fun w hh => ?_
   refine ops_end ?_
   refine then_n ⟨⟨fun _ _ => (AtE.of hh (by intro q hq; rw [List.mem_singleton.1 hq]; simp)), trivial⟩, ?_⟩
   refine mc_end ?_
   refine then_n ?_
   refine sy_ret ?_
   rw [hpb, if_pos rfl]
   exact ret_da (Ds := []) hf hh Tryz.en_28 (fun w' => c_caughtR B5 w') fun w' hh => ⟨[spV (y.1 / z, y.2 / z), .int .i64 0], ⟨⟨B4, 0, _, _, _, rfl, hh.at (i := 2) rfl, .inr ⟨2, _, Tryz.ag_35, rfl, rfl⟩⟩, ⟨B5, 0, _, _, _, rfl, hh.at (i := 1) rfl, .inl ⟨Tryz.sc_28, rfl⟩⟩, True.intro⟩, ⟨rfl, hh.ext⟩⟩
  ·intro ch w hX hf
   obtain ⟨hop, rfl, hx⟩ := hX; replace hh := hh.more hx; clear hx
   refine then_p ?_
   have hpb : prB p = false := by
     cases h : prB p
     · rfl
     · exact absurd (opE_zero.2 ⟨h, fun n hn => by simp at hn⟩) hop
   rw [opE_bad hpb]
   rw [hpb, if_neg (by decide)]
   exact pan_da (Ds := []) hf hh Tryz.en_28 (fun w' hh => c_caughtP B5 1 0 w' (hh.at (i := 0) rfl)) fun w' w'' hh h2 => by
     replace hh := hh.turn (i := 0) rfl h2.ext (h2.at (i := 0) rfl)
     exact ⟨[spV (0, 0), .int .i64 1], ⟨⟨B4, 0, _, _, _, rfl, hh.at (i := 1) rfl, .inr ⟨2, _, Tryz.ag_35, rfl, rfl⟩⟩, ⟨B5, 0, _, _, _, rfl, hh.at (i := 0) rfl, .inl ⟨Tryz.sc_28, rfl⟩⟩, True.intro⟩, ⟨rfl, hh.ext⟩⟩
end Go.Proofs.YtccpgpnekoncoaaGreatDoor

namespace Go.Proofs.YtccpgpnekoncoaaGreatDoor
open Go Go.Sy Go.PaiM
theorem dis_yes {p : PrD} {t : ThD} {y : Int × Int} (hy : powO p = some y) (hs : stB p t y = true) : disE p t = 0 ∧ disV p t = dstV p t y := by
  unfold disE disV
  rw [hy]
  dsimp only
  rw [if_pos hs, if_pos hs]; exact ⟨rfl, rfl⟩
theorem dis_no {p : PrD} {t : ThD} {y : Int × Int} (hy : powO p = some y) (hs : stB p t y = false) : disE p t = 11 ∧ disV p t = (0, 0) := by
  unfold disE disV
  rw [hy]
  dsimp only
  rw [hs]; exact ⟨rfl, rfl⟩
theorem dis_none {p : PrD} {t : ThD} (hy : powO p = none) : disE p t = 4 ∧ disV p t = (0, 0) := by
  unfold disE disV
  rw [hy]; exact ⟨rfl, rfl⟩
theorem dst_far {p : PrD} {t : ThD} {y : Int × Int} (h : ¬ t.far = 0) : dstV p t y = (t.far, t.far) := if_neg h
theorem dst_non {p : PrD} {t : ThD} {y : Int × Int} (h : t.far = 0) : dstV p t y = nar (p.near, p.far) (y.1 / ((shn t).2 + 1) + 1, if 0 < (shn t).1 then y.2 / (shn t).1 else p.far) := if_pos h
set_option maxRecDepth 100000 in
set_option maxHeartbeats 4000000 in
theorem c_Distance (p : PrD) (sa : Option Addr) (cp : Nat) (t : ThD) (k : Nat) (hp : PrOk p) (hk : p.th[k]? = some t) (u : World) (hA : ThAt u sa p.th) : Calls Tryz.prog 12 #[.agg (prA p sa cp), .int .i64 (k : Nat)] u (Ret fun v w' => v = .tuple #[spV (disV p t), .int .i64 (disE p t)] ∧ Ext [] u w') := by
  refine calls_ofM Tryz.func12 rfl rfl (fun a hf => ?_)
  have hh := Hp.init u []
  have hl := hp.nt
  have hkl := (List.getElem?_eq_some_iff.1 hk).1
  obtain ⟨blk, off, cc, TT, fr, esa, hb2, hc⟩ := hA k t hk
  have hO := hp.th t (List.mem_of_getElem? hk)
  refine sy_sq ?_
  refine o_box hf hh ?_; clear hf hh a; intro B2 a w hf hh
  refine o_alloc hf hh Tryz.ze_35 ?_; clear hf hh a; intro B4 a w hf hh
  refine o_alloc hf hh Tryz.ze_28 ?_; clear hf hh a; intro B5 a w hf hh
  refine o_end ?_
  refine sy_sq ?_
  refine o_defer hf ?_; clear hf a; intro a hf
  refine o_end ?_
  refine sy_sq ?_
  refine o_v hf hh (y_lds Tryz.ag_38 rfl) ?_; clear hf a; intro a hf
  refine o_v hf hh (yv_move rfl) ?_; clear hf a; intro a hf
  refine ops_buildSl hf hh Tryz.bl_108_1 rfl rfl (.inl rfl) rfl ?_; clear hf hh; clear a; intro B17 a w hf hh
  refine o_callX hf Tryz.en_33 rfl rfl rfl (c_truths p sa cp [((k : Nat) : Int)] (some ⟨B17, 0, none⟩) 1 w (hA.ext hh.ext) (by omega) (ix_one (hh.at (i := 0) rfl)) (by simp)) ?_ ?_
  ·clear hf a; intro v a w hR hf
   obtain ⟨htr, y, Bv, hy, rfl, hx⟩ := hR; replace hh := hh.join hx; clear hx
   obtain ⟨-, y1, y2, y3⟩ := pow_bd hp hy
   have hne := hp.ne; have hfa := hp.fa
   refine o_v hf hh (yv_assign rfl) ?_; clear hf a; intro a hf
   refine o_end ?_
   refine sy_sq ?_
   refine o_v hf hh (yv_move rfl) ?_; clear hf a; intro a hf
   refine o_v hf hh (yv_nilCheck rfl) ?_; clear hf a; intro a hf
   refine o_v hf hh (yv_fieldAddr Tryz.fo_85_0 rfl) ?_; clear hf a; intro a hf
   refine o_v hf hh (yv_fieldAddr Tryz.fo_38_5 rfl) ?_; clear hf a; intro a hf
   refine o_v hf hh (y_ld Tryz.sc_36 rfl) ?_; clear hf a; intro a hf
   refine o_v hf hh (yv_move rfl) ?_; clear hf a; intro a hf
   refine o_v hf hh (y_ix Tryz.se_36 (congrArg (fun z => some (Value.slice z p.th.length cp)) esa) rfl) ?_; clear hf a; intro a hf
   refine o_v hf hh (y_lds Tryz.ag_46 rfl) ?_; clear hf a; intro a hf
   refine o_alloc hf hh Tryz.ze_46 ?_; clear hf hh a; intro B7 a w hf hh
   refine o_store hf hh Tryz.sz_46 fun w hh => ?_
   refine o_end ?_
   refine sy_cut (σ := Unit) [8, 9, 27, 28, 29, 30, 31, 32, 33, 34, 35, 36] (fun q => [(9, .bool (stB p t y))]) (fun q => fun w' => Hp u [] [(B7, .cells (thA t) 46), (Bv, .cells (viA p sa cp y) viT), (B5, .cells #[.int .i64 0] 28), (B4, .cells #[.int .i64 0, .int .i64 0] 35)] w') hf ?_ ?_
   ·replace hh : Hp u [] [(B7, .cells (thA t) 46), (Bv, .cells (viA p sa cp y) viT), (B17, .cells #[.int .i64 ((k : Nat) : Int)] 3), (B5, .cells #[.int .i64 0] 28), (B4, .cells #[.int .i64 0, .int .i64 0] 35), (B2, .cells (prA p sa cp) 38)] w := hh
    replace hh := hh.pick [0, 1, 3, 4]
    replace hh : Hp u [] [(B7, .cells (thA t) 46), (Bv, .cells (viA p sa cp y) viT), (B5, .cells #[.int .i64 0] 28), (B4, .cells #[.int .i64 0, .int .i64 0] 35)] w := hh
    refine sy_treeC (.p 0 (.q 0 1 (.p 2 (.p 3 (.p 4 (.q 0 5 (.e2 6 (.p 7 (.p 8 (.p 9 (.e1 10 (.e1 11 (.p 12 (.fin))))))) 10 (.e1 6 (.p 7 (.p 8 (.p 9 (.e1 11 (.p 12 (.fin)))))))))))))) [[]] [(AtE u [] [(B7, .cells (thA t) 46), (Bv, .cells (viA p sa cp y) viT)], [])] Tryz.follows (by kernel_rfl) rfl hh (fun w hh => ?_)
    refine mc_p rfl   hf (yv_move rfl) (.inl rfl) rfl rfl ?_; clear hf a; intro a hf
    refine mc_q rfl rfl (AtE.of hh (by intro z hz; simp only [List.mem_cons, List.not_mem_nil, or_false] at hz ⊢; rcases hz with h | h <;> simp [h])) hf (y_lds Tryz.ag_46 rfl) (.inl rfl) rfl rfl ?_; clear hf a; intro a hf
    refine mc_p rfl   hf (yv_move rfl) (.inl rfl) rfl rfl ?_; clear hf a; intro a hf
    refine mc_p rfl   hf (yv_nilCheck rfl) (.inl rfl) rfl rfl ?_; clear hf a; intro a hf
    refine mc_p rfl   hf (yv_fieldAddr Tryz.fo_85_1 rfl) (.inl rfl) rfl rfl ?_; clear hf a; intro a hf
    refine mc_q rfl rfl (AtE.of hh (by intro z hz; simp only [List.mem_cons, List.not_mem_nil, or_false] at hz ⊢; rcases hz with h | h <;> simp [h])) hf (y_lds Tryz.ag_83 rfl) (.inl rfl) rfl rfl ?_; clear hf a; intro a hf
    refine ⟨?_, ?_⟩
    ·refine mc_e rfl fun Q1 => ?_
     refine o_call hf Tryz.en_34 rfl rfl rfl (c_still p sa cp y y t hp hO Bv _ (hh.get (Bv, .cells (viA p sa cp y) viT) (by simp))) ?_; clear hf a; intro v a w hR hf
     obtain ⟨rfl, hx⟩ := hR; replace hh := hh.more hx; clear hx
     refine ops_end ?_
     refine then_n ⟨⟨fun _ _ => (AtE.of hh (by intro z hz; simp only [List.mem_cons, List.not_mem_nil, or_false] at hz ⊢; rcases hz with h | h <;> simp [h])), trivial⟩, ?_⟩
     refine mc_p rfl   hf (yv_move rfl) (.inl rfl) rfl rfl ?_; clear hf a; intro a hf
     refine mc_p rfl   hf (yv_extract rfl rfl) (.inl rfl) rfl rfl ?_; clear hf a; intro a hf
     refine mc_p rfl   hf (yv_extract rfl rfl) (.inl rfl) rfl rfl ?_; clear hf a; intro a hf
     refine mc_e rfl fun Q1 => ?_
     refine o_alloc hf hh Tryz.ze_83 ?_; clear hf hh a; intro B8 a w hf hh
     refine ops_end ?_
     refine then_n ⟨⟨fun _ _ => (AtE.of hh (by intro z hz; simp only [List.mem_cons, List.not_mem_nil, or_false] at hz ⊢; rcases hz with h | h <;> simp [h])), trivial⟩, ?_⟩
     refine mc_e rfl fun Q1 => ?_
     refine o_store hf hh Tryz.sz_83 fun w hh => ?_
     refine ops_end ?_
     refine then_n ⟨⟨fun _ _ => (AtE.of hh (by intro z hz; simp only [List.mem_cons, List.not_mem_nil, or_false] at hz ⊢; rcases hz with h | h <;> simp [h])), trivial⟩, ?_⟩
     refine mc_p rfl   hf (yv_assign rfl) (.inl rfl) rfl rfl ?_; clear hf a; intro a hf
     refine mc_end ?_
     refine then_n ?_
     exact ⟨(), (by first | exact hh.less (.cons _ (.refl _))), hf.head ⟨rfl, True.intro⟩ (Keep.cons rfl (Keep.cons rfl (Keep.cons rfl (Keep.cons rfl (Keep.cons rfl (Keep.cons rfl (Keep.cons rfl (Keep.cons rfl (Keep.cons rfl (Keep.cons rfl (Keep.cons rfl (Keep.cons rfl (Keep.base)))))))))))))⟩
    ·refine mc_e rfl fun Q1 => ?_
     refine o_alloc hf hh Tryz.ze_83 ?_; clear hf hh a; intro B8 a w hf hh
     refine ops_end ?_
     refine then_n ⟨⟨fun _ _ => (AtE.of hh (by intro z hz; simp only [List.mem_cons, List.not_mem_nil, or_false] at hz ⊢; rcases hz with h | h <;> simp [h])), trivial⟩, ?_⟩
     refine mc_e rfl fun Q1 => ?_
     refine o_call hf Tryz.en_34 rfl rfl rfl (c_still p sa cp y y t hp hO Bv _ (hh.get (Bv, .cells (viA p sa cp y) viT) (by simp))) ?_; clear hf a; intro v a w hR hf
     obtain ⟨rfl, hx⟩ := hR; replace hh := hh.more hx; clear hx
     refine ops_end ?_
     refine then_n ⟨⟨fun _ _ => (AtE.of hh (by intro z hz; simp only [List.mem_cons, List.not_mem_nil, or_false] at hz ⊢; rcases hz with h | h <;> simp [h])), trivial⟩, ?_⟩
     refine mc_p rfl   hf (yv_move rfl) (.inl rfl) rfl rfl ?_; clear hf a; intro a hf
     refine mc_p rfl   hf (yv_extract rfl rfl) (.inl rfl) rfl rfl ?_; clear hf a; intro a hf
     refine mc_p rfl   hf (yv_extract rfl rfl) (.inl rfl) rfl rfl ?_; clear hf a; intro a hf
     refine mc_e rfl fun Q1 => ?_
     refine o_store hf hh Tryz.sz_83 fun w hh => ?_
     refine ops_end ?_
     refine then_n ⟨⟨fun _ _ => (AtE.of hh (by intro z hz; simp only [List.mem_cons, List.not_mem_nil, or_false] at hz ⊢; rcases hz with h | h <;> simp [h])), trivial⟩, ?_⟩
     refine mc_p rfl   hf (yv_assign rfl) (.inl rfl) rfl rfl ?_; clear hf a; intro a hf
     refine mc_end ?_
     refine then_n ?_
     exact ⟨(), (by first | exact hh.less (.cons _ (.refl _))), hf.head ⟨rfl, True.intro⟩ (Keep.cons rfl (Keep.cons rfl (Keep.cons rfl (Keep.cons rfl (Keep.cons rfl (Keep.cons rfl (Keep.cons rfl (Keep.cons rfl (Keep.cons rfl (Keep.cons rfl (Keep.cons rfl (Keep.cons rfl (Keep.base)))))))))))))⟩
   ·rintro q a w hh hf
    refine sy_sq ?_
    refine o_v hf hh (yv_move rfl) ?_; clear hf a; intro a hf
    refine o_callX hf Tryz.en_30 rfl rfl rfl (c_need (stB p t y) 11 _) ?_ ?_
    ·clear hf a; intro v a w hR hf
     obtain ⟨hst, hx⟩ := hR; replace hh := hh.more hx; clear hx
     refine o_end ?_
     refine sy_seq ?_
     refine sy_sq ?_
     refine o_v hf hh (yv_fieldAddr Tryz.fo_46_2 rfl) ?_; clear hf a; intro a hf
     refine o_v hf hh (y_ld Tryz.sc_3 rfl) ?_; clear hf a; intro a hf
     refine o_v hf hh (yv_bin rfl rfl rfl) ?_; clear hf a; intro a hf
     refine o_end ?_
     refine sy_cond hf rfl (fun hg11 => ?_) (fun hg11 => ?_)
     ·have hG11 := hg11; try simp only [gS] at hG11
      refine sy_sq ?_
      refine o_v hf hh (yv_fieldAddr Tryz.fo_46_2 rfl) ?_; clear hf a; intro a hf
      refine o_v hf hh (y_ld Tryz.sc_3 rfl) ?_; clear hf a; intro a hf
      refine o_v hf hh (yv_fieldAddr Tryz.fo_46_2 rfl) ?_; clear hf a; intro a hf
      refine o_v hf hh (y_ld Tryz.sc_3 rfl) ?_; clear hf a; intro a hf
      refine o_v hf hh (yv_buildS Tryz.bs_35 rfl rfl) ?_; clear hf a; intro a hf
      refine o_store hf hh Tryz.sz_35 fun w hh => ?_
      refine o_store hf hh Tryz.sz_28 fun w hh => ?_
      refine o_end ?_
      refine sy_ret ?_
      refine then_r ?_
      obtain ⟨e1, e2⟩ := dis_yes hy hst
      rw [e1, e2, dst_far (by assumption)]
      exact ret_da (Ds := []) hf hh Tryz.en_28 (fun w' => c_caughtR B5 w') fun w' hh => ⟨[spV (t.far, t.far), .int .i64 0], ⟨⟨B4, 0, _, _, _, rfl, hh.at (i := 3) rfl, .inr ⟨2, _, Tryz.ag_35, rfl, rfl⟩⟩, ⟨B5, 0, _, _, _, rfl, hh.at (i := 2) rfl, .inl ⟨Tryz.sc_28, rfl⟩⟩, True.intro⟩, ⟨rfl, hh.ext⟩⟩
     ·have hG11 := hg11; try simp only [gS] at hG11
      refine sy_skip ?_
      refine then_n ?_
      refine sy_sq ?_
      refine o_v hf hh (y_lds Tryz.ag_46 rfl) ?_; clear hf a; intro a hf
      refine o_call hf Tryz.en_41 rfl rfl rfl (c_shown p t hO _) ?_; clear hf a; intro v a w hR hf
      obtain ⟨rfl, hx⟩ := hR; replace hh := hh.more hx; clear hx
      refine o_v hf hh (yv_move rfl) ?_; clear hf a; intro a hf
      refine o_v hf hh (yv_extract rfl rfl) ?_; clear hf a; intro a hf
      refine o_v hf hh (yv_extract rfl rfl) ?_; clear hf a; intro a hf
      refine o_alloc hf hh Tryz.ze_83 ?_; clear hf hh a; intro B10 a w hf hh
      refine o_store hf hh Tryz.sz_83 fun w hh => ?_
      refine o_v hf hh (yv_assign rfl) ?_; clear hf a; intro a hf
      refine o_end ?_
      refine sy_seq ?_
      replace hh : Hp u [] [(B10, .cells #[.int .i64 (shn t).1, .int .i64 (shn t).2] 83), (B7, .cells (thA t) 46), (Bv, .cells (viA p sa cp y) viT), (B5, .cells #[.int .i64 0] 28), (B4, .cells #[.int .i64 0, .int .i64 0] 35)] w := hh
      have hok : okT p t = true := by unfold stB at hst; rw [Bool.and_eq_true] at hst; exact hst.1
      obtain ⟨s1, s2, s3⟩ := shn_bd (okT_ne hok)
      refine sy_ops ?_
      refine o_v hf hh (yv_move rfl) ?_; clear hf a; intro a hf
      refine o_v hf hh (yv_nilCheck rfl) ?_; clear hf a; intro a hf
      refine o_v hf hh (yv_fieldAddr Tryz.fo_85_0 rfl) ?_; clear hf a; intro a hf
      refine o_v hf hh (yv_fieldAddr Tryz.fo_38_4 rfl) ?_; clear hf a; intro a hf
      refine o_v hf hh (y_ld Tryz.sc_3 rfl) ?_; clear hf a; intro a hf
      refine o_v hf hh (yv_assign rfl) ?_; clear hf a; intro a hf
      refine o_end ?_
      refine sy_cut (σ := Int) [12, 57, 58, 59, 60, 61, 62, 63, 64, 65, 66, 67] (fun m => [(12, .int .i64 m)]) (fun m => fun w' => m = (if 0 < (shn t).1 then y.2 / (shn t).1 else p.far) ∧ Hp u [] [(B10, .cells #[.int .i64 (shn t).1, .int .i64 (shn t).2] 83), (B7, .cells (thA t) 46), (Bv, .cells (viA p sa cp y) viT), (B5, .cells #[.int .i64 0] 28), (B4, .cells #[.int .i64 0, .int .i64 0] 35)] w') hf ?_ ?_
      ·refine sy_sq ?_
       refine o_v hf hh (y_ia Tryz.ae_83 rfl rfl) ?_; clear hf a; intro a hf
       refine o_v hf hh (y_ld Tryz.sc_3 rfl) ?_; clear hf a; intro a hf
       refine o_v hf hh (yv_bin rfl rfl rfl) ?_; clear hf a; intro a hf
       refine o_end ?_
       refine sy_cond hf rfl (fun hg16 => ?_) (fun hg16 => ?_)
       ·have hG16 := hg16; try simp only [gS] at hG16
        refine sy_quiet (C := Hp _ _ _) Tryz.follows (by kernel_rfl) (hh.drawn _) ?_
        refine oq_v hf (yv_move rfl) ?_; clear hf a; intro a hf
        refine oq_v hf (yv_nilCheck rfl) ?_; clear hf a; intro a hf
        refine oq_v hf (yv_fieldAddr Tryz.fo_85_1 rfl) ?_; clear hf a; intro a hf
        refine oq_v hf (y_ia Tryz.ae_83 rfl rfl) ?_; clear hf a; intro a hf
        refine oq_v hf (y_ld Tryz.sc_3 rfl) ?_; clear hf a; intro a hf
        refine oq_v hf (y_ia Tryz.ae_83 rfl rfl) ?_; clear hf a; intro a hf
        refine oq_v hf (y_ld Tryz.sc_3 rfl) ?_; clear hf a; intro a hf
        refine oq_v hf (yv_quo rfl rfl (by omega) (by omega) (by omega)) ?_; clear hf a; intro a hf
        refine oq_v hf (yv_assign rfl) ?_; clear hf a; intro a hf
        refine q_end fun w hh => ?_
        refine then_n ?_
        first
          | exact ⟨_, ⟨(if_pos (by assumption)).symm, hh⟩, hf.head ⟨rfl, True.intro⟩ (Keep.cons rfl (Keep.cons rfl (Keep.cons rfl (Keep.cons rfl (Keep.cons rfl (Keep.cons rfl (Keep.cons rfl (Keep.cons rfl (Keep.cons rfl (Keep.cons rfl (Keep.cons rfl (Keep.cons rfl (Keep.base)))))))))))))⟩
          | exact ⟨_, ⟨(if_neg (by omega)).symm, hh⟩, hf.head ⟨rfl, True.intro⟩ (Keep.cons rfl (Keep.cons rfl (Keep.cons rfl (Keep.cons rfl (Keep.cons rfl (Keep.cons rfl (Keep.cons rfl (Keep.cons rfl (Keep.cons rfl (Keep.cons rfl (Keep.cons rfl (Keep.cons rfl (Keep.base)))))))))))))⟩
       ·have hG16 := hg16; try simp only [gS] at hG16
        refine sy_skip ?_
        refine then_n ?_
        first
          | exact ⟨_, ⟨(if_pos (by assumption)).symm, hh⟩, hf.head ⟨rfl, True.intro⟩ (Keep.cons rfl (Keep.cons rfl (Keep.cons rfl (Keep.base))))⟩
          | exact ⟨_, ⟨(if_neg (by omega)).symm, hh⟩, hf.head ⟨rfl, True.intro⟩ (Keep.cons rfl (Keep.cons rfl (Keep.cons rfl (Keep.base))))⟩
      ·rintro m a w ⟨hm, hh⟩ hf
       refine sy_cut (σ := Nat) [13, 14, 68, 69, 70, 71, 72, 73, 74, 75, 76, 77, 78, 79, 80, 81, 82, 83, 84, 85, 86, 87, 88, 89, 90, 91, 92, 93, 94, 95] (fun B13 => [(13, ptr B13 0)]) (fun B13 => fun w' => Hp u [] [(B13, .cells #[.int .i64 (nar (p.near, p.far) (y.1 / ((shn t).2 + 1) + 1, m)).1, .int .i64 (nar (p.near, p.far) (y.1 / ((shn t).2 + 1) + 1, m)).2] 83), (B5, .cells #[.int .i64 0] 28), (B4, .cells #[.int .i64 0, .int .i64 0] 35)] w') hf ?_ ?_
       ·have hq0 : 0 ≤ y.1 / ((shn t).2 + 1) := Int.ediv_nonneg (by omega) (by omega)
        have hq1 : y.1 / ((shn t).2 + 1) ≤ y.1 := Int.ediv_le_self _ (by omega)
        refine sy_treeC (.p 0 (.p 1 (.p 2 (.p 3 (.q 0 4 (.p 5 (.p 6 (.p 7 (.p 8 (.q 0 9 (.p 10 (.p 11 (.p 12 (.p 13 (.p 14 (.q 0 15 (.p 16 (.q 0 17 (.p 18 (.p 19 (.p 20 (.p 21 (.p 22 (.e2 23 (.e2 24 (.p 25 (.p 26 (.p 27 (.e1 28 (.e1 29 (.p 30 (.fin))))))) 28 (.e1 24 (.p 25 (.p 26 (.p 27 (.e1 29 (.p 30 (.fin)))))))) 28 (.e1 23 (.e1 24 (.p 25 (.p 26 (.p 27 (.e1 29 (.p 30 (.fin)))))))))))))))))))))))))))))))) [[]] [(AtE u [] [(B10, .cells #[.int .i64 (shn t).1, .int .i64 (shn t).2] 83), (Bv, .cells (viA p sa cp y) viT)], [])] Tryz.follows (by kernel_rfl) rfl hh (fun w hh => ?_)
        refine mc_p rfl   hf (yv_move rfl) (.inl rfl) rfl rfl ?_; clear hf a; intro a hf
        refine mc_p rfl   hf (yv_nilCheck rfl) (.inl rfl) rfl rfl ?_; clear hf a; intro a hf
        refine mc_p rfl   hf (yv_fieldAddr Tryz.fo_85_0 rfl) (.inl rfl) rfl rfl ?_; clear hf a; intro a hf
        refine mc_p rfl   hf (yv_fieldAddr Tryz.fo_38_3 rfl) (.inl rfl) rfl rfl ?_; clear hf a; intro a hf
        refine mc_q rfl rfl (AtE.of hh (by intro z hz; simp only [List.mem_cons, List.not_mem_nil, or_false] at hz ⊢; rcases hz with h | h <;> simp [h])) hf (y_ld Tryz.sc_3 rfl) (.inl rfl) rfl rfl ?_; clear hf a; intro a hf
        refine mc_p rfl   hf (yv_move rfl) (.inl rfl) rfl rfl ?_; clear hf a; intro a hf
        refine mc_p rfl   hf (yv_nilCheck rfl) (.inl rfl) rfl rfl ?_; clear hf a; intro a hf
        refine mc_p rfl   hf (yv_fieldAddr Tryz.fo_85_0 rfl) (.inl rfl) rfl rfl ?_; clear hf a; intro a hf
        refine mc_p rfl   hf (yv_fieldAddr Tryz.fo_38_4 rfl) (.inl rfl) rfl rfl ?_; clear hf a; intro a hf
        refine mc_q rfl rfl (AtE.of hh (by intro z hz; simp only [List.mem_cons, List.not_mem_nil, or_false] at hz ⊢; rcases hz with h | h <;> simp [h])) hf (y_ld Tryz.sc_3 rfl) (.inl rfl) rfl rfl ?_; clear hf a; intro a hf
        refine mc_p rfl   hf (yv_buildA Tryz.ba_83 rfl rfl) (.inl rfl) rfl rfl ?_; clear hf a; intro a hf
        refine mc_p rfl   hf (yv_move rfl) (.inl rfl) rfl rfl ?_; clear hf a; intro a hf
        refine mc_p rfl   hf (yv_nilCheck rfl) (.inl rfl) rfl rfl ?_; clear hf a; intro a hf
        refine mc_p rfl   hf (yv_fieldAddr Tryz.fo_85_1 rfl) (.inl rfl) rfl rfl ?_; clear hf a; intro a hf
        refine mc_p rfl   hf (y_ia Tryz.ae_83 rfl rfl) (.inl rfl) rfl rfl ?_; clear hf a; intro a hf
        refine mc_q rfl rfl (AtE.of hh (by intro z hz; simp only [List.mem_cons, List.not_mem_nil, or_false] at hz ⊢; rcases hz with h | h <;> simp [h])) hf (y_ld Tryz.sc_3 rfl) (.inl rfl) rfl rfl ?_; clear hf a; intro a hf
        refine mc_p rfl   hf (y_ia Tryz.ae_83 rfl rfl) (.inl rfl) rfl rfl ?_; clear hf a; intro a hf
        refine mc_q rfl rfl (AtE.of hh (by intro z hz; simp only [List.mem_cons, List.not_mem_nil, or_false] at hz ⊢; rcases hz with h | h <;> simp [h])) hf (y_ld Tryz.sc_3 rfl) (.inl rfl) rfl rfl ?_; clear hf a; intro a hf
        refine mc_p rfl   hf (y_add rfl rfl) (.inl rfl) rfl rfl ?_; clear hf a; intro a hf
        refine mc_p rfl   hf (yv_quo rfl rfl (by omega) (by omega) (by omega)) (.inl rfl) rfl rfl ?_; clear hf a; intro a hf
        refine mc_p rfl   hf (y_add rfl rfl) (.inl rfl) rfl rfl ?_; clear hf a; intro a hf
        refine mc_p rfl   hf (yv_move rfl) (.inl rfl) rfl rfl ?_; clear hf a; intro a hf
        refine mc_p rfl   hf (yv_buildA Tryz.ba_83 rfl rfl) (.inl rfl) rfl rfl ?_; clear hf a; intro a hf
        refine ⟨?_, ?_⟩
        ·refine mc_e rfl fun Q1 => ?_
         refine ops_buildSl hf hh Tryz.bl_142_1 rfl rfl (.inl rfl) rfl ?_; clear hf hh a; intro B92 a w hf hh
         replace hh : Hp u [] ((B92, .cells #[.int .i64 (y.1 / ((shn t).2 + 1) + 1, m).1, .int .i64 (y.1 / ((shn t).2 + 1) + 1, m).2] 83) :: _) w := hh
         refine ops_end ?_
         refine then_n ⟨⟨fun _ _ => (AtE.of hh (by intro z hz; simp only [List.mem_cons, List.not_mem_nil, or_false] at hz ⊢; rcases hz with h | h <;> simp [h])), trivial⟩, ?_⟩
         refine ⟨?_, ?_⟩
         ·refine mc_e rfl fun Q1 => ?_
          refine o_call hf Tryz.en_42 rfl rfl rfl (c_nar (p.near, p.far) (y.1 / ((shn t).2 + 1) + 1, m) B92 _ _ _ (hh.get (B92, .cells #[.int .i64 (y.1 / ((shn t).2 + 1) + 1, m).1, .int .i64 (y.1 / ((shn t).2 + 1) + 1, m).2] 83) (by simp))) ?_; clear hf a; intro v a w hR hf
          obtain ⟨rfl, hx⟩ := hR; replace hh := hh.more hx; clear hx
          refine ops_end ?_
          refine then_n ⟨⟨fun _ _ => (AtE.of hh (by intro z hz; simp only [List.mem_cons, List.not_mem_nil, or_false] at hz ⊢; rcases hz with h | h <;> simp [h])), trivial⟩, ?_⟩
          refine mc_p rfl   hf (yv_move rfl) (.inl rfl) rfl rfl ?_; clear hf a; intro a hf
          refine mc_p rfl   hf (yv_extract rfl rfl) (.inl rfl) rfl rfl ?_; clear hf a; intro a hf
          refine mc_p rfl   hf (yv_extract rfl rfl) (.inl rfl) rfl rfl ?_; clear hf a; intro a hf
          refine mc_e rfl fun Q1 => ?_
          refine o_alloc hf hh Tryz.ze_83 ?_; clear hf hh a; intro B13 a w hf hh
          refine ops_end ?_
          refine then_n ⟨⟨fun _ _ => (AtE.of hh (by intro z hz; simp only [List.mem_cons, List.not_mem_nil, or_false] at hz ⊢; rcases hz with h | h <;> simp [h])), trivial⟩, ?_⟩
          refine mc_e rfl fun Q1 => ?_
          refine o_store hf hh Tryz.sz_83 fun w hh => ?_
          refine ops_end ?_
          refine then_n ⟨⟨fun _ _ => (AtE.of hh (by intro z hz; simp only [List.mem_cons, List.not_mem_nil, or_false] at hz ⊢; rcases hz with h | h <;> simp [h])), trivial⟩, ?_⟩
          refine mc_p rfl   hf (yv_assign rfl) (.inl rfl) rfl rfl ?_; clear hf a; intro a hf
          refine mc_end ?_
          refine then_n ?_
          first
            | exact ⟨B13, hh.pick [0, 5, 6], hf.head ⟨rfl, True.intro⟩ (Keep.cons rfl (Keep.cons rfl (Keep.cons rfl (Keep.cons rfl (Keep.cons rfl (Keep.cons rfl (Keep.cons rfl (Keep.cons rfl (Keep.cons rfl (Keep.cons rfl (Keep.cons rfl (Keep.cons rfl (Keep.cons rfl (Keep.cons rfl (Keep.cons rfl (Keep.cons rfl (Keep.cons rfl (Keep.cons rfl (Keep.cons rfl (Keep.cons rfl (Keep.cons rfl (Keep.cons rfl (Keep.cons rfl (Keep.cons rfl (Keep.cons rfl (Keep.cons rfl (Keep.cons rfl (Keep.cons rfl (Keep.cons rfl (Keep.cons rfl (Keep.base)))))))))))))))))))))))))))))))⟩
            | exact ⟨B13, hh.pick [1, 5, 6], hf.head ⟨rfl, True.intro⟩ (Keep.cons rfl (Keep.cons rfl (Keep.cons rfl (Keep.cons rfl (Keep.cons rfl (Keep.cons rfl (Keep.cons rfl (Keep.cons rfl (Keep.cons rfl (Keep.cons rfl (Keep.cons rfl (Keep.cons rfl (Keep.cons rfl (Keep.cons rfl (Keep.cons rfl (Keep.cons rfl (Keep.cons rfl (Keep.cons rfl (Keep.cons rfl (Keep.cons rfl (Keep.cons rfl (Keep.cons rfl (Keep.cons rfl (Keep.cons rfl (Keep.cons rfl (Keep.cons rfl (Keep.cons rfl (Keep.cons rfl (Keep.cons rfl (Keep.cons rfl (Keep.base)))))))))))))))))))))))))))))))⟩
         ·refine mc_e rfl fun Q1 => ?_
          refine o_alloc hf hh Tryz.ze_83 ?_; clear hf hh a; intro B13 a w hf hh
          refine ops_end ?_
          refine then_n ⟨⟨fun _ _ => (AtE.of hh (by intro z hz; simp only [List.mem_cons, List.not_mem_nil, or_false] at hz ⊢; rcases hz with h | h <;> simp [h])), trivial⟩, ?_⟩
          refine mc_e rfl fun Q1 => ?_
          refine o_call hf Tryz.en_42 rfl rfl rfl (c_nar (p.near, p.far) (y.1 / ((shn t).2 + 1) + 1, m) B92 _ _ _ (hh.get (B92, .cells #[.int .i64 (y.1 / ((shn t).2 + 1) + 1, m).1, .int .i64 (y.1 / ((shn t).2 + 1) + 1, m).2] 83) (by simp))) ?_; clear hf a; intro v a w hR hf
          obtain ⟨rfl, hx⟩ := hR; replace hh := hh.more hx; clear hx
          refine ops_end ?_
          refine then_n ⟨⟨fun _ _ => (AtE.of hh (by intro z hz; simp only [List.mem_cons, List.not_mem_nil, or_false] at hz ⊢; rcases hz with h | h <;> simp [h])), trivial⟩, ?_⟩
          refine mc_p rfl   hf (yv_move rfl) (.inl rfl) rfl rfl ?_; clear hf a; intro a hf
          refine mc_p rfl   hf (yv_extract rfl rfl) (.inl rfl) rfl rfl ?_; clear hf a; intro a hf
          refine mc_p rfl   hf (yv_extract rfl rfl) (.inl rfl) rfl rfl ?_; clear hf a; intro a hf
          refine mc_e rfl fun Q1 => ?_
          refine o_store hf hh Tryz.sz_83 fun w hh => ?_
          refine ops_end ?_
          refine then_n ⟨⟨fun _ _ => (AtE.of hh (by intro z hz; simp only [List.mem_cons, List.not_mem_nil, or_false] at hz ⊢; rcases hz with h | h <;> simp [h])), trivial⟩, ?_⟩
          refine mc_p rfl   hf (yv_assign rfl) (.inl rfl) rfl rfl ?_; clear hf a; intro a hf
          refine mc_end ?_
          refine then_n ?_
          first
            | exact ⟨B13, hh.pick [0, 5, 6], hf.head ⟨rfl, True.intro⟩ (Keep.cons rfl (Keep.cons rfl (Keep.cons rfl (Keep.cons rfl (Keep.cons rfl (Keep.cons rfl (Keep.cons rfl (Keep.cons rfl (Keep.cons rfl (Keep.cons rfl (Keep.cons rfl (Keep.cons rfl (Keep.cons rfl (Keep.cons rfl (Keep.cons rfl (Keep.cons rfl (Keep.cons rfl (Keep.cons rfl (Keep.cons rfl (Keep.cons rfl (Keep.cons rfl (Keep.cons rfl (Keep.cons rfl (Keep.cons rfl (Keep.cons rfl (Keep.cons rfl (Keep.cons rfl (Keep.cons rfl (Keep.cons rfl (Keep.cons rfl (Keep.base)))))))))))))))))))))))))))))))⟩
            | exact ⟨B13, hh.pick [1, 5, 6], hf.head ⟨rfl, True.intro⟩ (Keep.cons rfl (Keep.cons rfl (Keep.cons rfl (Keep.cons rfl (Keep.cons rfl (Keep.cons rfl (Keep.cons rfl (Keep.cons rfl (Keep.cons rfl (Keep.cons rfl (Keep.cons rfl (Keep.cons rfl (Keep.cons rfl (Keep.cons rfl (Keep.cons rfl (Keep.cons rfl (Keep.cons rfl (Keep.cons rfl (Keep.cons rfl (Keep.cons rfl (Keep.cons rfl (Keep.cons rfl (Keep.cons rfl (Keep.cons rfl (Keep.cons rfl (Keep.cons rfl (Keep.cons rfl (Keep.cons rfl (Keep.cons rfl (Keep.cons rfl (Keep.base)))))))))))))))))))))))))))))))⟩
        ·refine mc_e rfl fun Q1 => ?_
         refine o_alloc hf hh Tryz.ze_83 ?_; clear hf hh a; intro B13 a w hf hh
         refine ops_end ?_
         refine then_n ⟨⟨fun _ _ => (AtE.of hh (by intro z hz; simp only [List.mem_cons, List.not_mem_nil, or_false] at hz ⊢; rcases hz with h | h <;> simp [h])), trivial⟩, ?_⟩
         refine mc_e rfl fun Q1 => ?_
         refine ops_buildSl hf hh Tryz.bl_142_1 rfl rfl (.inl rfl) rfl ?_; clear hf hh a; intro B92 a w hf hh
         replace hh : Hp u [] ((B92, .cells #[.int .i64 (y.1 / ((shn t).2 + 1) + 1, m).1, .int .i64 (y.1 / ((shn t).2 + 1) + 1, m).2] 83) :: _) w := hh
         refine ops_end ?_
         refine then_n ⟨⟨fun _ _ => (AtE.of hh (by intro z hz; simp only [List.mem_cons, List.not_mem_nil, or_false] at hz ⊢; rcases hz with h | h <;> simp [h])), trivial⟩, ?_⟩
         refine mc_e rfl fun Q1 => ?_
         refine o_call hf Tryz.en_42 rfl rfl rfl (c_nar (p.near, p.far) (y.1 / ((shn t).2 + 1) + 1, m) B92 _ _ _ (hh.get (B92, .cells #[.int .i64 (y.1 / ((shn t).2 + 1) + 1, m).1, .int .i64 (y.1 / ((shn t).2 + 1) + 1, m).2] 83) (by simp))) ?_; clear hf a; intro v a w hR hf
         obtain ⟨rfl, hx⟩ := hR; replace hh := hh.more hx; clear hx
         refine ops_end ?_
         refine then_n ⟨⟨fun _ _ => (AtE.of hh (by intro z hz; simp only [List.mem_cons, List.not_mem_nil, or_false] at hz ⊢; rcases hz with h | h <;> simp [h])), trivial⟩, ?_⟩
         refine mc_p rfl   hf (yv_move rfl) (.inl rfl) rfl rfl ?_; clear hf a; intro a hf
         refine mc_p rfl   hf (yv_extract rfl rfl) (.inl rfl) rfl rfl ?_; clear hf a; intro a hf
         refine mc_p rfl   hf (yv_extract rfl rfl) (.inl rfl) rfl rfl ?_; clear hf a; intro a hf
         refine mc_e rfl fun Q1 => ?_
         refine o_store hf hh Tryz.sz_83 fun w hh => ?_
         refine ops_end ?_
         refine then_n ⟨⟨fun _ _ => (AtE.of hh (by intro z hz; simp only [List.mem_cons, List.not_mem_nil, or_false] at hz ⊢; rcases hz with h | h <;> simp [h])), trivial⟩, ?_⟩
         refine mc_p rfl   hf (yv_assign rfl) (.inl rfl) rfl rfl ?_; clear hf a; intro a hf
         refine mc_end ?_
         refine then_n ?_
         first
           | exact ⟨B13, hh.pick [0, 5, 6], hf.head ⟨rfl, True.intro⟩ (Keep.cons rfl (Keep.cons rfl (Keep.cons rfl (Keep.cons rfl (Keep.cons rfl (Keep.cons rfl (Keep.cons rfl (Keep.cons rfl (Keep.cons rfl (Keep.cons rfl (Keep.cons rfl (Keep.cons rfl (Keep.cons rfl (Keep.cons rfl (Keep.cons rfl (Keep.cons rfl (Keep.cons rfl (Keep.cons rfl (Keep.cons rfl (Keep.cons rfl (Keep.cons rfl (Keep.cons rfl (Keep.cons rfl (Keep.cons rfl (Keep.cons rfl (Keep.cons rfl (Keep.cons rfl (Keep.cons rfl (Keep.cons rfl (Keep.cons rfl (Keep.base)))))))))))))))))))))))))))))))⟩
           | exact ⟨B13, hh.pick [1, 5, 6], hf.head ⟨rfl, True.intro⟩ (Keep.cons rfl (Keep.cons rfl (Keep.cons rfl (Keep.cons rfl (Keep.cons rfl (Keep.cons rfl (Keep.cons rfl (Keep.cons rfl (Keep.cons rfl (Keep.cons rfl (Keep.cons rfl (Keep.cons rfl (Keep.cons rfl (Keep.cons rfl (Keep.cons rfl (Keep.cons rfl (Keep.cons rfl (Keep.cons rfl (Keep.cons rfl (Keep.cons rfl (Keep.cons rfl (Keep.cons rfl (Keep.cons rfl (Keep.cons rfl (Keep.cons rfl (Keep.cons rfl (Keep.cons rfl (Keep.cons rfl (Keep.cons rfl (Keep.cons rfl (Keep.base)))))))))))))))))))))))))))))))⟩
       ·rintro B13 a w hh hf
        refine sy_sq ?_
        refine o_v hf hh (y_lds Tryz.ag_83 rfl) ?_; clear hf a; intro a hf
        refine o_call hf Tryz.en_43 rfl rfl rfl (c_spanOf (nar (p.near, p.far) (y.1 / ((shn t).2 + 1) + 1, m)) _) ?_; clear hf a; intro v a w hR hf
        obtain ⟨rfl, hx⟩ := hR; replace hh := hh.more hx; clear hx
        refine o_store hf hh Tryz.sz_35 fun w hh => ?_
        refine o_store hf hh Tryz.sz_28 fun w hh => ?_
        refine o_end ?_
        refine sy_ret ?_
        obtain ⟨e1, e2⟩ := dis_yes hy hst
        rw [e1, e2, dst_non (by omega), ← hm]
        exact ret_da (Ds := []) hf hh Tryz.en_28 (fun w' => c_caughtR B5 w') fun w' hh => ⟨[spV (nar (p.near, p.far) (y.1 / ((shn t).2 + 1) + 1, m)), .int .i64 0], ⟨⟨B4, 0, _, _, _, rfl, hh.at (i := 2) rfl, .inr ⟨2, _, Tryz.ag_35, rfl, rfl⟩⟩, ⟨B5, 0, _, _, _, rfl, hh.at (i := 1) rfl, .inl ⟨Tryz.sc_28, rfl⟩⟩, True.intro⟩, ⟨rfl, hh.ext⟩⟩
    ·intro ch w hX hf
     obtain ⟨hst, rfl, hx⟩ := hX; replace hh := hh.more hx; clear hx
     refine then_p ?_
     obtain ⟨e1, e2⟩ := dis_no hy hst
     rw [e1, e2]
     exact pan_da (Ds := []) hf hh Tryz.en_28 (fun w' hh => c_caughtP B5 11 0 w' (hh.at (i := 2) rfl)) fun w' w'' hh h2 => by
       replace hh := hh.turn (i := 2) rfl h2.ext (h2.at (i := 0) rfl)
       exact ⟨[spV (0, 0), .int .i64 11], ⟨⟨B4, 0, _, _, _, rfl, hh.at (i := 3) rfl, .inr ⟨2, _, Tryz.ag_35, rfl, rfl⟩⟩, ⟨B5, 0, _, _, _, rfl, hh.at (i := 2) rfl, .inl ⟨Tryz.sc_28, rfl⟩⟩, True.intro⟩, ⟨rfl, hh.ext⟩⟩
  ·intro ch w hX hf
   obtain ⟨htr, rfl, hx⟩ := hX; replace hh := hh.more hx; clear hx
   refine then_p ?_
   rw [trE_pow (opE_ok hp hk)] at htr ⊢
   have hno := pow_none htr
   obtain ⟨e1, e2⟩ := dis_none (t := t) hno
   rw [e1, e2, show powEr p = 4 by unfold powEr; rw [hno]]
   exact pan_da (Ds := []) hf hh Tryz.en_28 (fun w' hh => c_caughtP B5 4 0 w' (hh.at (i := 1) rfl)) fun w' w'' hh h2 => by
     replace hh := hh.turn (i := 1) rfl h2.ext (h2.at (i := 0) rfl)
     exact ⟨[spV (0, 0), .int .i64 4], ⟨⟨B4, 0, _, _, _, rfl, hh.at (i := 2) rfl, .inr ⟨2, _, Tryz.ag_35, rfl, rfl⟩⟩, ⟨B5, 0, _, _, _, rfl, hh.at (i := 1) rfl, .inl ⟨Tryz.sc_28, rfl⟩⟩, True.intro⟩, ⟨rfl, hh.ext⟩⟩
end Go.Proofs.YtccpgpnekoncoaaGreatDoor

namespace Go.Proofs.YtccpgpnekoncoaaGreatDoor
open Go Go.Sy Go.PaiM
theorem c_rows (p : PrD) (sa : Option Addr) (cp : Nat) (y : Int × Int) (t : ThD) (hp : PrOk p) (hO : ThOk p t) (Bv : Nat) (u : World) (hv : u.heap[Bv]? = some (.cells (viA p sa cp y) viT (0, 0))) : Calls Tryz.prog 35 #[ptr Bv 0, .agg (thA t)] u (Ret fun v w' => (∃ b, v = .bool b) ∧ Ext [] u w') := by
  refine calls_of Tryz.func35 rfl rfl (fun a hf => ?_)
  have hh := Hp.init u []
  refine sy_sq ?_
  refine o_box hf hh ?_; clear hf hh a; intro B3 a w hf hh
  refine o_v hf hh (yv_assign rfl) ?_; clear hf a; intro a hf
  refine o_end ?_
  refine sy_sq ?_
  refine o_v hf hh (yv_move rfl) ?_; clear hf a; intro a hf
  refine o_v hf hh (y_lds Tryz.ag_46 rfl) ?_; clear hf a; intro a hf
  refine o_call hf Tryz.en_65 rfl rfl rfl (c_level p sa cp y t hp hO Bv _ (hh.old hv)) ?_; clear hf a; intro v a w hR hf
  obtain ⟨rfl, hx⟩ := hR; replace hh := hh.more hx; clear hx
  refine o_v hf hh (yv_not rfl) ?_; clear hf a; intro a hf
  refine o_v hf hh (yv_assign rfl) ?_; clear hf a; intro a hf
  refine o_end ?_
  refine sy_ret ?_
  refine ret_r hf rfl rfl ?_
  exact ⟨⟨_, rfl⟩, hh.ext⟩
theorem c_behind (p : PrD) (sa : Option Addr) (cp : Nat) (y : Int × Int) (t : ThD) (hp : PrOk p) (hO : ThOk p t) (Bv : Nat) (u : World) (hv : u.heap[Bv]? = some (.cells (viA p sa cp y) viT (0, 0))) : Calls Tryz.prog 36 #[ptr Bv 0, .agg (thA t)] u (Ret fun v w' => (∃ b, v = .bool b) ∧ Ext [] u w') := by
  refine calls_of Tryz.func36 rfl rfl (fun a hf => ?_)
  have hh := Hp.init u []
  obtain ⟨⟨a1, a2, a3⟩, ⟨b1, b2, b3⟩, ⟨c1, c2, c3⟩, ⟨d1, d2, d3⟩, -⟩ := hO
  refine sy_sq ?_
  refine o_box hf hh ?_; clear hf hh a; intro B3 a w hf hh
  refine o_v hf hh (yv_assign rfl) ?_; clear hf a; intro a hf
  refine o_end ?_
  refine sy_sq ?_
  refine o_v hf hh (y_lds Tryz.ag_46 rfl) ?_; clear hf a; intro a hf
  refine o_call hf Tryz.en_67 rfl rfl rfl (c_shift t _ ⟨by omega, by omega⟩ ⟨by omega, by omega⟩ ⟨by omega, by omega⟩ ⟨by omega, by omega⟩) ?_; clear hf a; intro v a w hR hf
  obtain ⟨rfl, hx⟩ := hR; replace hh := hh.more hx; clear hx
  refine o_v hf hh (yv_fieldS Tryz.fs_35_1 rfl rfl) ?_; clear hf a; intro a hf
  refine o_v hf hh (yv_bin rfl rfl rfl) ?_; clear hf a; intro a hf
  refine o_v hf hh (yv_assign rfl) ?_; clear hf a; intro a hf
  refine o_end ?_
  refine sy_ret ?_
  refine ret_r hf rfl rfl ?_
  exact ⟨⟨_, rfl⟩, hh.ext⟩
theorem c_close (p : PrD) (sa : Option Addr) (cp : Nat) (y : Int × Int) (t : ThD) (hp : PrOk p) (hO : ThOk p t) (Bv : Nat) (u : World) (hv : u.heap[Bv]? = some (.cells (viA p sa cp y) viT (0, 0))) : Calls Tryz.prog 37 #[ptr Bv 0, .agg (thA t)] u (Ret fun v w' => (∃ b, v = .bool b) ∧ Ext [] u w') := by
  refine calls_of Tryz.func37 rfl rfl (fun a hf => ?_)
  have hh := Hp.init u []
  obtain ⟨⟨a1, a2, a3⟩, ⟨b1, b2, b3⟩, ⟨c1, c2, c3⟩, ⟨d1, d2, d3⟩, -⟩ := hO
  have hsf1 : (shf t).1 = t.lx.1 - t.rx.2 := rfl
  have hne := hp.ne
  refine sy_sq ?_
  refine o_box hf hh ?_; clear hf hh a; intro B3 a w hf hh
  refine o_v hf hh (yv_assign rfl) ?_; clear hf a; intro a hf
  refine o_end ?_
  refine sy_sq ?_
  refine o_v hf hh (y_lds Tryz.ag_46 rfl) ?_; clear hf a; intro a hf
  refine o_call hf Tryz.en_67 rfl rfl rfl (c_shift t _ ⟨by omega, by omega⟩ ⟨by omega, by omega⟩ ⟨by omega, by omega⟩ ⟨by omega, by omega⟩) ?_; clear hf a; intro v a w hR hf
  obtain ⟨rfl, hx⟩ := hR; replace hh := hh.more hx; clear hx
  refine o_v hf hh (yv_fieldS Tryz.fs_35_0 rfl rfl) ?_; clear hf a; intro a hf
  refine o_v hf hh (yv_assign rfl) ?_; clear hf a; intro a hf
  refine o_end ?_
  refine sy_seq ?_
  refine sy_quiet (C := Hp _ _ _) Tryz.follows (by kernel_rfl) (hh.drawn _) ?_
  refine oq_v hf (yv_move rfl) ?_; clear hf a; intro a hf
  refine oq_v hf (yv_bin rfl rfl rfl) ?_; clear hf a; intro a hf
  refine oq_v hf (yv_move rfl) ?_; clear hf a; intro a hf
  refine guard_splitq hf (t := 11) rfl (fun hg3 => ?_) (fun hg3 => ?_)
  ·have hG3 := hg3; try simp only [gS] at hG3
   refine oq_off hf ?_; clear hf a; intro a hf
   refine oq_off hf ?_; clear hf a; intro a hf
   refine oq_off hf ?_; clear hf a; intro a hf
   refine oq_off hf ?_; clear hf a; intro a hf
   refine oq_off hf ?_; clear hf a; intro a hf
   refine oq_off hf ?_; clear hf a; intro a hf
   refine oq_off hf ?_; clear hf a; intro a hf
   refine oq_off hf ?_; clear hf a; intro a hf
   refine oq_off hf ?_; clear hf a; intro a hf
   refine oq_off hf ?_; clear hf a; intro a hf
   refine oq_off hf ?_; clear hf a; intro a hf
   refine oq_off hf ?_; clear hf a; intro a hf
   refine oq_off hf ?_; clear hf a; intro a hf
   refine oq_v hf (y_pt rfl rfl) ?_; clear hf a; intro a hf
   refine oq_v hf (yv_assign rfl) ?_; clear hf a; intro a hf
   refine q_end fun w hh => ?_
   refine then_n ?_
   refine sy_ret ?_
   refine ret_r hf rfl rfl ?_
   exact ⟨⟨_, rfl⟩, hh.ext⟩
  ·have hG3 := hg3; try simp only [gS] at hG3
   refine oq_v hf (yv_move rfl) ?_; clear hf a; intro a hf
   refine oq_v hf (yv_move rfl) ?_; clear hf a; intro a hf
   refine oq_v hf (yv_nilCheck rfl) ?_; clear hf a; intro a hf
   refine oq_v hf (yv_fieldAddr Tryz.fo_85_0 rfl) ?_; clear hf a; intro a hf
   refine oq_v hf (yv_fieldAddr Tryz.fo_38_3 rfl) ?_; clear hf a; intro a hf
   refine oq_v hf (y_ld Tryz.sc_3 rfl) ?_; clear hf a; intro a hf
   refine oq_v hf (yv_bin rfl rfl rfl) ?_; clear hf a; intro a hf
   refine oq_v hf (yv_move rfl) ?_; clear hf a; intro a hf
   refine oq_v hf (yv_nilCheck rfl) ?_; clear hf a; intro a hf
   refine oq_v hf (yv_fieldAddr Tryz.fo_85_1 rfl) ?_; clear hf a; intro a hf
   refine oq_v hf (y_ia Tryz.ae_83 rfl rfl) ?_; clear hf a; intro a hf
   refine oq_v hf (y_ld Tryz.sc_3 rfl) ?_; clear hf a; intro a hf
   refine oq_v hf (yv_bin rfl rfl rfl) ?_; clear hf a; intro a hf
   refine oq_v hf (y_pf rfl rfl) ?_; clear hf a; intro a hf
   refine oq_v hf (yv_assign rfl) ?_; clear hf a; intro a hf
   refine q_end fun w hh => ?_
   refine then_n ?_
   refine sy_ret ?_
   refine ret_r hf rfl rfl ?_
   exact ⟨⟨_, rfl⟩, hh.ext⟩
theorem c_away (p : PrD) (sa : Option Addr) (cp : Nat) (y : Int × Int) (t : ThD) (hp : PrOk p) (hO : ThOk p t) (Bv : Nat) (u : World) (hv : u.heap[Bv]? = some (.cells (viA p sa cp y) viT (0, 0))) : Calls Tryz.prog 38 #[ptr Bv 0, .agg (thA t)] u (Ret fun v w' => v = .bool true ∧ Ext [] u w') := by
  refine calls_of Tryz.func38 rfl rfl (fun a hf => ?_)
  have hh := Hp.init u []
  refine sy_sq ?_
  refine o_box hf hh ?_; clear hf hh a; intro B3 a w hf hh
  refine o_v hf hh (yv_assign rfl) ?_; clear hf a; intro a hf
  refine o_end ?_
  refine sy_sq ?_
  refine o_v hf hh (yv_assign rfl) ?_; clear hf a; intro a hf
  refine o_end ?_
  refine sy_ret ?_
  refine ret_r hf rfl rfl ?_
  exact ⟨rfl, hh.ext⟩
theorem c_why1 (p : PrD) (sa : Option Addr) (cp : Nat) (y : Int × Int) (t : ThD) (hp : PrOk p) (hO : ThOk p t) (Bv : Nat) (B6 B7 : Nat) (u : World) (hv : u.heap[Bv]? = some (.cells (viA p sa cp y) viT (0, 0))) (h6 : u.heap[B6]? = some (.cells #[ptr Bv 0] 80 (0, 0))) (h7 : u.heap[B7]? = some (.cells (thA t) 46 (0, 0))) (f : FuncId) (R : Value → World → Prop) (hE : Enters Tryz.prog f) (hc : ∀ w1, Ext [] u w1 → Calls Tryz.prog f #[ptr Bv 0, .agg (thA t)] w1 (Ret fun v w' => R v w' ∧ Ext [] w1 w')) : Calls Tryz.prog 40 #[.func (.func f) #[] #[], ptr B6 0, ptr B7 0] u (Ret fun v w' => (∃ w1, R v w1) ∧ Ext [] u w') := by
  refine calls_of Tryz.func40 rfl rfl (fun a hf => ?_)
  have hh := Hp.init u []
  refine sy_sq ?_
  refine o_v hf hh (yv_assign rfl) ?_; clear hf a; intro a hf
  refine o_end ?_
  refine sy_sq ?_
  refine o_v hf hh (yv_move rfl) ?_; clear hf a; intro a hf
  refine o_v hf hh (y_ld Tryz.sc_80 rfl) ?_; clear hf a; intro a hf
  refine o_v hf hh (y_lds Tryz.ag_46 rfl) ?_; clear hf a; intro a hf
  refine o_call hf hE rfl rfl rfl (hc _ hh.ext) ?_; clear hf a; intro v a w hR hf
  obtain ⟨hr, hx⟩ := hR; replace hh := hh.more hx; clear hx
  refine o_v hf hh (yv_assign rfl) ?_; clear hf a; intro a hf
  refine o_end ?_
  refine sy_ret ?_
  refine ret_r hf rfl rfl ?_
  exact ⟨⟨_, hr⟩, hh.ext⟩
theorem why_at (p : PrD) (sa : Option Addr) (cp : Nat) (y : Int × Int) (t : ThD) (hp : PrOk p) (hO : ThOk p t) (Bv : Nat) (B6 B7 : Nat) (u : World) (hv : u.heap[Bv]? = some (.cells (viA p sa cp y) viT (0, 0))) (h6 : u.heap[B6]? = some (.cells #[ptr Bv 0] 80 (0, 0))) (h7 : u.heap[B7]? = some (.cells (thA t) 46 (0, 0))) (i : Nat) (hi : i < 4) (w : World) (he : Ext [] u w) : ∃ f : FuncId, #[.func (.func 35) #[] #[], .func (.func 36) #[] #[], .func (.func 37) #[] #[], .func (.func 38) #[] #[]][i]? = some (Value.func (.func f) #[] #[]) ∧ Calls Tryz.prog 40 #[.func (.func f) #[] #[], ptr B6 0, ptr B7 0] w (Ret fun v w' => (∃ b, v = .bool b ∧ (i = 3 → b = true)) ∧ Ext [] w w') := by
  have key : ∀ (f : FuncId) (j : Nat), j = i → Enters Tryz.prog f → (∀ w1, Ext [] w w1 → Calls Tryz.prog f #[ptr Bv 0, .agg (thA t)] w1 (Ret fun v w' => (∃ b, v = .bool b ∧ (j = 3 → b = true)) ∧ Ext [] w1 w')) → Calls Tryz.prog 40 #[.func (.func f) #[] #[], ptr B6 0, ptr B7 0] w (Ret fun v w' => (∃ b, v = .bool b ∧ (i = 3 → b = true)) ∧ Ext [] w w') := by
    rintro f j rfl hE hc
    exact Calls.ret_mono (c_why1 p sa cp y t hp hO Bv B6 B7 w (he.get hv) (he.get h6) (he.get h7) f (fun v _ => ∃ b, v = .bool b ∧ (j = 3 → b = true)) hE hc) fun v w' h => (by obtain ⟨⟨w1, h1⟩, h2⟩ := h; exact ⟨h1, h2⟩)
  have any : ∀ {f : FuncId} {w1 : World} {j : Nat}, j ≠ 3 → Calls Tryz.prog f #[ptr Bv 0, .agg (thA t)] w1 (Ret fun v w' => (∃ b, v = .bool b) ∧ Ext [] w1 w') → Calls Tryz.prog f #[ptr Bv 0, .agg (thA t)] w1 (Ret fun v w' => (∃ b, v = .bool b ∧ (j = 3 → b = true)) ∧ Ext [] w1 w') := fun hj h => Calls.ret_mono h fun v w' ⟨⟨b, e⟩, hx⟩ => ⟨⟨b, e, fun h3 => absurd h3 hj⟩, hx⟩
  match i, hi with
  | 0, _ => exact ⟨35, rfl, key 35 0 rfl Tryz.en_35 fun w1 e => any (by decide) (c_rows p sa cp y t hp hO Bv w1 (e.get (he.get hv)))⟩
  | 1, _ => exact ⟨36, rfl, key 36 1 rfl Tryz.en_36 fun w1 e => any (by decide) (c_behind p sa cp y t hp hO Bv w1 (e.get (he.get hv)))⟩
  | 2, _ => exact ⟨37, rfl, key 37 2 rfl Tryz.en_37 fun w1 e => any (by decide) (c_close p sa cp y t hp hO Bv w1 (e.get (he.get hv)))⟩
  | 3, _ => exact ⟨38, rfl, key 38 3 rfl Tryz.en_38 fun w1 e => Calls.ret_mono (c_away p sa cp y t hp hO Bv w1 (e.get (he.get hv))) fun v w' h => ⟨⟨true, h.1, fun _ => rfl⟩, h.2⟩⟩
  | n + 4, h => exact absurd h (by omega)
theorem c_ixf (p : PrD) (sa : Option Addr) (cp : Nat) (y : Int × Int) (t : ThD) (hp : PrOk p) (hO : ThOk p t) (Bv : Nat) (B6 B7 : Nat) (u : World) (hv : u.heap[Bv]? = some (.cells (viA p sa cp y) viT (0, 0))) (h6 : u.heap[B6]? = some (.cells #[ptr Bv 0] 80 (0, 0))) (h7 : u.heap[B7]? = some (.cells (thA t) 46 (0, 0))) (Bs : Nat) (hs : u.heap[Bs]? = some (.cells #[.func (.func 35) #[] #[], .func (.func 36) #[] #[], .func (.func 37) #[] #[], .func (.func 38) #[] #[]] 92 (0, 0))) : Calls Tryz.prog 39 #[.slice (some ⟨Bs, 0, none⟩) 4 4, .func (.func 40) #[] #[ptr B6 0, ptr B7 0]] u (Ret fun v w' => (∃ n : Nat, v = .int .i64 (n : Nat) ∧ n ≤ 3) ∧ Ext [] u w') := by
  refine calls_of Tryz.func39 rfl rfl (fun a hf => ?_)
  have hh := Hp.init u []
  refine sy_sq ?_
  refine o_v hf hh (yv_assign rfl) ?_; clear hf a; intro a hf
  refine o_end ?_
  refine sy_seq ?_
  refine sy_sq ?_
  refine o_v hf hh (yv_move rfl) ?_; clear hf a; intro a hf
  refine o_v hf hh (yv_len Tryz.se_90 rfl) ?_; clear hf a; intro a hf
  refine o_v hf hh (yv_move rfl) ?_; clear hf a; intro a hf
  refine o_end ?_
  refine sy_block ?_
  refine sy_loopH (σ := Nat) [4, 5, 8, 9, 10, 11, 12, 13, 14, 15, 16, 17, 18] (fun i => [(8, .int .i64 (i : Nat))]) (fun i => fun w' => i ≤ 3 ∧ Hp u [] [] w') (fun i => 4 - i) (0) hf ?_ ?_ ?_
  · repeat' (first | exact True.intro | refine And.intro rfl ?_)
  · exact ⟨Nat.zero_le _, hh⟩
  ·rintro i a w ⟨hi, hh⟩ hf
   refine sy_sq ?_
   refine o_v hf hh (yv_bin rfl rfl rfl) ?_; clear hf a; intro a hf
   refine o_end ?_
   refine sy_seq ?_
   refine sy_cond hf rfl (fun hg2 => ?_) (fun hg2 => ?_)
   ·have hG2 := hg2; try simp only [gS] at hG2
    refine sy_skip ?_
    refine then_n ?_
    refine sy_seq ?_
    refine sy_block ?_
    refine sy_sq ?_
    refine o_v hf hh (yv_move rfl) ?_; clear hf a; intro a hf
    refine o_v hf hh (yv_assign rfl) ?_; clear hf a; intro a hf
    refine o_end ?_
    refine sy_seq ?_
    obtain ⟨f, hfi, hcall⟩ := why_at p sa cp y t hp hO Bv B6 B7 u hv h6 h7 i (by omega) w hh.ext
    refine sy_ops ?_
    refine o_v hf hh (yv_move rfl) ?_; clear hf a; intro a hf
    refine o_v hf hh (yv_move rfl) ?_; clear hf a; intro a hf
    refine o_v hf hh (yv_move rfl) ?_; clear hf a; intro a hf
    refine o_v hf hh (y_ix Tryz.se_90 rfl rfl) ?_; clear hf a; intro a hf
    refine o_v hf hh (yv_load Tryz.sc_92 rfl (fun w h => h.old hs) (by simp only [Nat.zero_add, Int.toNat_natCast, Nat.mul_one]; exact hfi)) ?_; clear hf a; intro a hf
    refine o_call hf Tryz.en_40 rfl rfl rfl hcall ?_; clear hf a; intro v a w hR hf
    obtain ⟨⟨b, rfl, hb⟩, hx⟩ := hR; replace hh := hh.more hx; clear hx
    refine o_end ?_
    refine sy_cond hf rfl (fun hg5 => ?_) (fun hg5 => ?_)
    ·have hG5 := hg5; try simp only [gS] at hG5
     refine sy_seq ?_
     have hb1 : b = true := by simp_all
     refine sy_ops ?_
     refine o_v hf hh (yv_move rfl) ?_; clear hf a; intro a hf
     refine o_v hf hh (yv_assign rfl) ?_; clear hf a; intro a hf
     refine o_end ?_
     refine sy_ret ?_
     refine blk_r ?_
     refine then_r ?_
     refine then_r ?_
     refine blk_r ?_
     refine then_r ?_
     refine ret_r hf rfl rfl ?_
     first
       | exact ⟨⟨i, rfl, by omega⟩, hh.ext⟩
       | (exfalso; omega)
    ·have hG5 := hg5; try simp only [gS] at hG5
     refine sy_skip ?_
     refine blk_n ?_
     refine then_n ?_
     have hb1 : b = false := by simp_all
     have hi3 : i ≠ 3 := fun h => by rw [hb h] at hb1; cases hb1
     refine sy_ops ?_
     refine o_v hf hh (y_add rfl rfl) ?_; clear hf a; intro a hf
     refine o_v hf hh (yv_move rfl) ?_; clear hf a; intro a hf
     refine ops_end ?_
     refine then_n ?_
     exact ⟨i + 1, ⟨⟨by omega, hh⟩, (hf.head (by repeat' (first | exact True.intro | refine And.intro rfl ?_)) (Keep.cons rfl (Keep.cons rfl (Keep.cons rfl (Keep.cons rfl (Keep.cons rfl (Keep.cons rfl (Keep.cons rfl (Keep.cons rfl (Keep.cons rfl (Keep.cons rfl (Keep.cons rfl (Keep.app rfl (Keep.rm rfl Keep.base))))))))))))))⟩, by omega⟩
   ·have hG2 := hg2; try simp only [gS] at hG2
    refine sy_exit ?_
    refine then_e ?_
    refine then_e ?_
    refine blk_e ?_
    refine then_n ?_
    refine sy_sq ?_
    refine o_v hf hh (yv_assign rfl) ?_; clear hf a; intro a hf
    refine o_end ?_
    refine sy_ret ?_
    refine ret_r hf rfl rfl ?_
    first
      | exact ⟨⟨i, rfl, by omega⟩, hh.ext⟩
      | (exfalso; omega)
set_option maxRecDepth 100000 in
set_option maxHeartbeats 4000000 in
theorem c_Why (p : PrD) (sa : Option Addr) (cp : Nat) (t : ThD) (k : Nat) (hp : PrOk p) (hk : p.th[k]? = some t) (u : World) (hA : ThAt u sa p.th) (y : Int × Int) (hy : powO p = some y) : Calls Tryz.prog 11 #[.agg (prA p sa cp), .int .i64 (k : Nat)] u (Ret fun v w' => (∃ n : Nat, v = .tuple #[.int .i64 (n : Nat), .int .i64 0] ∧ decide (n = 0) = stB p t y) ∧ Ext [] u w') := by
  refine calls_ofM Tryz.func11 rfl rfl (fun a hf => ?_)
  have hh := Hp.init u []
  have hl := hp.nt
  have hkl := (List.getElem?_eq_some_iff.1 hk).1
  obtain ⟨blk, off, cc, TT, fr, esa, hb2, hc⟩ := hA k t hk
  have hO := hp.th t (List.mem_of_getElem? hk)
  refine sy_sq ?_
  refine o_box hf hh ?_; clear hf hh a; intro B2 a w hf hh
  refine o_v hf hh (yv_assign rfl) ?_; clear hf a; intro a hf
  refine o_alloc hf hh Tryz.ze_28 ?_; clear hf hh a; intro B5 a w hf hh
  refine o_end ?_
  refine sy_sq ?_
  refine o_defer hf ?_; clear hf a; intro a hf
  refine o_end ?_
  refine sy_sq ?_
  refine o_v hf hh (y_lds Tryz.ag_38 rfl) ?_; clear hf a; intro a hf
  refine o_v hf hh (yv_move rfl) ?_; clear hf a; intro a hf
  refine ops_buildSl hf hh Tryz.bl_108_1 rfl rfl (.inl rfl) rfl ?_; clear hf hh; clear a; intro B13 a w hf hh
  refine o_call hf Tryz.en_33 rfl rfl rfl (noX (c_truths p sa cp [((k : Nat) : Int)] (some ⟨B13, 0, none⟩) 1 w (hA.ext hh.ext) (by omega) (ix_one (hh.at (i := 0) rfl)) (by simp)) (fun ch w9 hx => hx.1 (trE_some (opE_ok hp hk) hy))) ?_; clear hf a; intro v a w hR hf
  obtain ⟨htr, y9, Bv, hy9, rfl, hx⟩ := hR; replace hh := hh.join hx; clear hx
  obtain rfl : y = y9 := by rw [hy] at hy9; exact Option.some.inj hy9
  clear hy9
  refine o_alloc hf hh Tryz.ze_80 ?_; clear hf hh a; intro B6 a w hf hh
  refine o_store hf hh Tryz.sz_80 fun w hh => ?_
  refine o_end ?_
  refine sy_sq ?_
  refine o_v hf hh (y_ld Tryz.sc_80 rfl) ?_; clear hf a; intro a hf
  refine o_v hf hh (yv_nilCheck rfl) ?_; clear hf a; intro a hf
  refine o_v hf hh (yv_fieldAddr Tryz.fo_85_0 rfl) ?_; clear hf a; intro a hf
  refine o_v hf hh (yv_fieldAddr Tryz.fo_38_5 rfl) ?_; clear hf a; intro a hf
  refine o_v hf hh (y_ld Tryz.sc_36 rfl) ?_; clear hf a; intro a hf
  refine o_v hf hh (yv_move rfl) ?_; clear hf a; intro a hf
  refine o_v hf hh (y_ix Tryz.se_36 (congrArg (fun z => some (Value.slice z p.th.length cp)) esa) rfl) ?_; clear hf a; intro a hf
  refine o_v hf hh (y_lds Tryz.ag_46 rfl) ?_; clear hf a; intro a hf
  refine o_alloc hf hh Tryz.ze_46 ?_; clear hf hh a; intro B7 a w hf hh
  refine o_store hf hh Tryz.sz_46 fun w hh => ?_
  refine o_end ?_
  refine sy_seq ?_
  refine sy_cut (σ := Unit) [8, 9, 23, 24, 25, 26, 27, 28, 29, 30, 31, 32] (fun q => [(9, .bool (stB p t y))]) (fun q => fun w' => Hp u [] [(B7, .cells (thA t) 46), (B6, .cells #[ptr Bv 0] 80), (Bv, .cells (viA p sa cp y) viT), (B5, .cells #[.int .i64 0] 28)] w') hf ?_ ?_
  ·replace hh := hh.pick [0, 1, 2, 4]
   replace hh : Hp u [] [(B7, .cells (thA t) 46), (B6, .cells #[ptr Bv 0] 80), (Bv, .cells (viA p sa cp y) viT), (B5, .cells #[.int .i64 0] 28)] w := hh
   refine sy_treeC (.q 0 0 (.q 0 1 (.q 0 2 (.p 3 (.p 4 (.q 0 5 (.e2 6 (.p 7 (.p 8 (.p 9 (.e1 10 (.e1 11 (.p 12 (.fin))))))) 10 (.e1 6 (.p 7 (.p 8 (.p 9 (.e1 11 (.p 12 (.fin)))))))))))))) [[]] [(AtE u [] [(B7, .cells (thA t) 46), (B6, .cells #[ptr Bv 0] 80), (Bv, .cells (viA p sa cp y) viT)], [])] Tryz.follows (by kernel_rfl) rfl hh (fun w hh => ?_)
   refine mc_q rfl rfl (AtE.of hh (by intro z hz; simp only [List.mem_cons, List.not_mem_nil, or_false] at hz ⊢; rcases hz with h | h | h <;> simp [h])) hf (y_ld Tryz.sc_80 rfl) (.inl rfl) rfl rfl ?_; clear hf a; intro a hf
   refine mc_q rfl rfl (AtE.of hh (by intro z hz; simp only [List.mem_cons, List.not_mem_nil, or_false] at hz ⊢; rcases hz with h | h | h <;> simp [h])) hf (y_lds Tryz.ag_46 rfl) (.inl rfl) rfl rfl ?_; clear hf a; intro a hf
   refine mc_q rfl rfl (AtE.of hh (by intro z hz; simp only [List.mem_cons, List.not_mem_nil, or_false] at hz ⊢; rcases hz with h | h | h <;> simp [h])) hf (y_ld Tryz.sc_80 rfl) (.inl rfl) rfl rfl ?_; clear hf a; intro a hf
   refine mc_p rfl   hf (yv_nilCheck rfl) (.inl rfl) rfl rfl ?_; clear hf a; intro a hf
   refine mc_p rfl   hf (yv_fieldAddr Tryz.fo_85_1 rfl) (.inl rfl) rfl rfl ?_; clear hf a; intro a hf
   refine mc_q rfl rfl (AtE.of hh (by intro z hz; simp only [List.mem_cons, List.not_mem_nil, or_false] at hz ⊢; rcases hz with h | h | h <;> simp [h])) hf (y_lds Tryz.ag_83 rfl) (.inl rfl) rfl rfl ?_; clear hf a; intro a hf
   refine ⟨?_, ?_⟩
   ·refine mc_e rfl fun Q1 => ?_
    refine o_call hf Tryz.en_34 rfl rfl rfl (c_still p sa cp y y t hp hO Bv _ (hh.get (Bv, .cells (viA p sa cp y) viT) (by simp))) ?_; clear hf a; intro v a w hR hf
    obtain ⟨rfl, hx⟩ := hR; replace hh := hh.more hx; clear hx
    refine ops_end ?_
    refine then_n ⟨⟨fun _ _ => (AtE.of hh (by intro z hz; simp only [List.mem_cons, List.not_mem_nil, or_false] at hz ⊢; rcases hz with h | h | h <;> simp [h])), trivial⟩, ?_⟩
    refine mc_p rfl   hf (yv_move rfl) (.inl rfl) rfl rfl ?_; clear hf a; intro a hf
    refine mc_p rfl   hf (yv_extract rfl rfl) (.inl rfl) rfl rfl ?_; clear hf a; intro a hf
    refine mc_p rfl   hf (yv_extract rfl rfl) (.inl rfl) rfl rfl ?_; clear hf a; intro a hf
    refine mc_e rfl fun Q1 => ?_
    refine o_alloc hf hh Tryz.ze_83 ?_; clear hf hh a; intro B8 a w hf hh
    refine ops_end ?_
    refine then_n ⟨⟨fun _ _ => (AtE.of hh (by intro z hz; simp only [List.mem_cons, List.not_mem_nil, or_false] at hz ⊢; rcases hz with h | h | h <;> simp [h])), trivial⟩, ?_⟩
    refine mc_e rfl fun Q1 => ?_
    refine o_store hf hh Tryz.sz_83 fun w hh => ?_
    refine ops_end ?_
    refine then_n ⟨⟨fun _ _ => (AtE.of hh (by intro z hz; simp only [List.mem_cons, List.not_mem_nil, or_false] at hz ⊢; rcases hz with h | h | h <;> simp [h])), trivial⟩, ?_⟩
    refine mc_p rfl   hf (yv_assign rfl) (.inl rfl) rfl rfl ?_; clear hf a; intro a hf
    refine mc_end ?_
    refine then_n ?_
    exact ⟨(), hh.less (.cons _ (.refl _)), hf.head ⟨rfl, True.intro⟩ (Keep.cons rfl (Keep.cons rfl (Keep.cons rfl (Keep.cons rfl (Keep.cons rfl (Keep.cons rfl (Keep.cons rfl (Keep.cons rfl (Keep.cons rfl (Keep.cons rfl (Keep.cons rfl (Keep.cons rfl (Keep.base)))))))))))))⟩
   ·refine mc_e rfl fun Q1 => ?_
    refine o_alloc hf hh Tryz.ze_83 ?_; clear hf hh a; intro B8 a w hf hh
    refine ops_end ?_
    refine then_n ⟨⟨fun _ _ => (AtE.of hh (by intro z hz; simp only [List.mem_cons, List.not_mem_nil, or_false] at hz ⊢; rcases hz with h | h | h <;> simp [h])), trivial⟩, ?_⟩
    refine mc_e rfl fun Q1 => ?_
    refine o_call hf Tryz.en_34 rfl rfl rfl (c_still p sa cp y y t hp hO Bv _ (hh.get (Bv, .cells (viA p sa cp y) viT) (by simp))) ?_; clear hf a; intro v a w hR hf
    obtain ⟨rfl, hx⟩ := hR; replace hh := hh.more hx; clear hx
    refine ops_end ?_
    refine then_n ⟨⟨fun _ _ => (AtE.of hh (by intro z hz; simp only [List.mem_cons, List.not_mem_nil, or_false] at hz ⊢; rcases hz with h | h | h <;> simp [h])), trivial⟩, ?_⟩
    refine mc_p rfl   hf (yv_move rfl) (.inl rfl) rfl rfl ?_; clear hf a; intro a hf
    refine mc_p rfl   hf (yv_extract rfl rfl) (.inl rfl) rfl rfl ?_; clear hf a; intro a hf
    refine mc_p rfl   hf (yv_extract rfl rfl) (.inl rfl) rfl rfl ?_; clear hf a; intro a hf
    refine mc_e rfl fun Q1 => ?_
    refine o_store hf hh Tryz.sz_83 fun w hh => ?_
    refine ops_end ?_
    refine then_n ⟨⟨fun _ _ => (AtE.of hh (by intro z hz; simp only [List.mem_cons, List.not_mem_nil, or_false] at hz ⊢; rcases hz with h | h | h <;> simp [h])), trivial⟩, ?_⟩
    refine mc_p rfl   hf (yv_assign rfl) (.inl rfl) rfl rfl ?_; clear hf a; intro a hf
    refine mc_end ?_
    refine then_n ?_
    exact ⟨(), hh.less (.cons _ (.refl _)), hf.head ⟨rfl, True.intro⟩ (Keep.cons rfl (Keep.cons rfl (Keep.cons rfl (Keep.cons rfl (Keep.cons rfl (Keep.cons rfl (Keep.cons rfl (Keep.cons rfl (Keep.cons rfl (Keep.cons rfl (Keep.cons rfl (Keep.cons rfl (Keep.base)))))))))))))⟩
  ·rintro q a w hh hf
   refine sy_sq ?_
   refine o_v hf hh (yv_move rfl) ?_; clear hf a; intro a hf
   refine o_end ?_
   refine sy_cond hf rfl (fun hg10 => ?_) (fun hg10 => ?_)
   ·have hG10 := hg10; try simp only [gS] at hG10
    refine sy_sq ?_
    refine o_v hf hh (yv_assign rfl) ?_; clear hf a; intro a hf
    refine o_store hf hh Tryz.sz_28 fun w hh => ?_
    refine o_end ?_
    refine sy_ret ?_
    refine then_r ?_
    have hst : stB p t y = true := by simp_all
    exact ret_da (Ds := []) hf hh Tryz.en_28 (fun w' => c_caughtR B5 w') fun w' hh => ⟨[.int .i64 0, .int .i64 0], ⟨rfl, ⟨B5, 0, _, _, _, rfl, hh.at (i := 3) rfl, .inl ⟨Tryz.sc_28, rfl⟩⟩, True.intro⟩, ⟨⟨0, rfl, by rw [hst]; rfl⟩, hh.ext⟩⟩
   ·have hG10 := hg10; try simp only [gS] at hG10
    refine sy_skip ?_
    refine then_n ?_
    refine sy_sq ?_
    refine ops_buildSl hf hh Tryz.bl_90_4 rfl rfl (.inl rfl) rfl ?_; clear hf hh; clear a; intro B34 a w hf hh
    refine o_v hf hh (yv_assign rfl) ?_; clear hf a; intro a hf
    refine o_end ?_
    refine sy_sq ?_
    refine o_v hf hh (yv_move rfl) ?_; clear hf a; intro a hf
    refine o_v hf hh (yv_makeFunc rfl rfl) ?_; clear hf a; intro a hf
    refine o_call hf Tryz.en_39 rfl rfl rfl (c_ixf p sa cp y t hp hO Bv B6 B7 w (hh.at (i := 3) rfl) (hh.at (i := 2) rfl) (hh.at (i := 1) rfl) B34 (hh.at (i := 0) rfl)) ?_; clear hf a; intro v a w hR hf
    obtain ⟨⟨n, rfl, hn⟩, hx⟩ := hR; replace hh := hh.more hx; clear hx
    refine o_v hf hh (y_add rfl rfl) ?_; clear hf a; intro a hf
    refine o_v hf hh (yv_assign rfl) ?_; clear hf a; intro a hf
    refine o_store hf hh Tryz.sz_28 fun w hh => ?_
    refine o_end ?_
    refine sy_ret ?_
    have hst : stB p t y = false := by simp_all
    exact ret_da (Ds := []) hf hh Tryz.en_28 (fun w' => c_caughtR B5 w') fun w' hh => ⟨[.int .i64 (1 + (n : Nat)), .int .i64 0], ⟨rfl, ⟨B5, 0, _, _, _, rfl, hh.at (i := 4) rfl, .inl ⟨Tryz.sc_28, rfl⟩⟩, True.intro⟩, ⟨⟨1 + n, by rw [Int.natCast_add]; rfl, by rw [hst]; exact decide_eq_false (by omega)⟩, hh.ext⟩⟩
end Go.Proofs.YtccpgpnekoncoaaGreatDoor

namespace Go.PaiM
open Go Go.Sy
abbrev caA (c : CaD) (sa : Option Addr) (cp : Nat) : Array Value := #[.int .i64 c.pr.fo.1, .int .i64 c.pr.fo.2, .int .i64 c.pr.ba.1, .int .i64 c.pr.ba.2, .int .i64 c.pr.tilt, .int .i64 c.pr.near, .int .i64 c.pr.far, .slice sa c.pr.th.length cp, .int .i64 c.half, .int .i64 c.step, .int .i64 c.cuts, .int .i64 c.eyes.1, .int .i64 c.eyes.2, .int .i64 c.prism, .int .i64 c.squeeze, .int .i64 c.front, .int .i64 c.deep]
abbrev kaA (c : CaD) (sa : Option Addr) (cp bm : Nat) : Array Value := #[.int .i64 c.pr.fo.1, .int .i64 c.pr.fo.2, .int .i64 c.pr.ba.1, .int .i64 c.pr.ba.2, .int .i64 c.pr.tilt, .int .i64 c.pr.near, .int .i64 c.pr.far, .slice sa c.pr.th.length cp, .int .i64 c.half, .int .i64 c.step, .int .i64 c.cuts, .int .i64 c.eyes.1, .int .i64 c.eyes.2, .int .i64 c.prism, .int .i64 c.squeeze, .int .i64 c.front, .int .i64 c.deep, .map (some bm)]
abbrev edC (e : Edg) : List Value := [.int .i64 e.1, .int .i64 e.2.1, .int .i64 e.2.2.1, .int .i64 e.2.2.2]
abbrev edA (e : Edg) : Array Value := #[.int .i64 e.1, .int .i64 e.2.1, .int .i64 e.2.2.1, .int .i64 e.2.2.2]
/-- A card that is looked at, with a trimming. -/
abbrev moA (Bc : Nat) (e : Edg) : Array Value := #[ptr Bc 0, .int .i64 e.1, .int .i64 e.2.1, .int .i64 e.2.2.1, .int .i64 e.2.2.2]
def EdAt (w : World) (sa : Option Addr) (l : List Edg) : Prop :=
  ∀ i t, l[i]? = some t → ∃ blk off c T fr, sa = some ⟨blk, off, none⟩ ∧ w.heap[blk]? = some (.cells c T fr) ∧ cellsAt c (off + ((i : Nat) : Int).toNat * 4) 4 = some (edC t)
theorem EdAt.ext {w w' : World} {sa : Option Addr} {l : List Edg} (h : EdAt w sa l) (e : Ext [] w w') : EdAt w' sa l := fun i s hi =>
  let ⟨blk, off, c, T, fr, h1, h2, h3⟩ := h i s hi
  ⟨blk, off, c, T, fr, h1, e.get h2, h3⟩
theorem ed_nil (w : World) (sa : Option Addr) : EdAt w sa [] := fun i x h => by simp at h
theorem ed_one {w : World} {B : Nat} {T : TypeId} {fr : Nat × Nat} {e : Edg} (h : w.heap[B]? = some (.cells (edA e) T fr)) : EdAt w (some ⟨B, 0, none⟩) [e] := fun i s hi2 => by
  match i, hi2 with
  | 0, hi2 => cases hi2; exact ⟨B, 0, _, T, _, rfl, h, rfl⟩
  | i + 1, hi2 => simp at hi2
/-- The shifts of the things that are seen. -/
def shiF (c : CaD) (n : Int) : Value := match c.pr.th[n.toNat]? with
  | some t => spV (shf t)
  | none => spV (0, 0)
theorem shi_at {c : CaD} {i : Nat} {t : ThD} (h : c.pr.th[i]? = some t) : shiF c ((i : Nat) : Int) = spV (shf t) := by
  unfold shiF
  rw [Int.toNat_natCast, h]
def seeTo (c : CaD) (y : Int × Int) (i : Nat) : List Int := ((List.range i).filter (seeB c y)).map fun i => ((i : Nat) : Int)
def seeI (c : CaD) (y : Int × Int) : List Int := seeTo c y c.pr.th.length
theorem see_yes {c : CaD} {y : Int × Int} {i : Nat} (h : seeB c y i = true) : seeTo c y (i + 1) = seeTo c y i ++ [((i : Nat) : Int)] := by
  unfold seeTo
  rw [List.range_succ, List.filter_append, List.map_append, List.filter_cons, if_pos h]; rfl
theorem see_no {c : CaD} {y : Int × Int} {i : Nat} (h : seeB c y i = false) : seeTo c y (i + 1) = seeTo c y i := by
  unfold seeTo
  rw [List.range_succ, List.filter_append, List.map_append, List.filter_cons, if_neg (by rw [h]; decide)]
  exact List.append_nil _
theorem see_notin {c : CaD} {y : Int × Int} {i : Nat} : ((i : Nat) : Int) ∉ seeTo c y i := fun h => by
  unfold seeTo at h
  obtain ⟨j, h1, h2⟩ := List.mem_map.1 h
  rw [List.mem_filter, List.mem_range] at h1
  omega
theorem see_mem {c : CaD} {y : Int × Int} {i : Nat} : ((i : Nat) : Int) ∈ seeI c y ↔ i ∈ seeL c y := by
  unfold seeI seeTo seeL
  rw [List.mem_map]
  exact ⟨fun ⟨j, h1, h2⟩ => by rw [← Int.ofNat.inj h2]; exact h1, fun h => ⟨i, h, rfl⟩⟩
theorem see_bit {c : CaD} {y : Int × Int} {i : Nat} (hi : i < c.pr.th.length) : i ∈ seeL c y ↔ seeB c y i = true := by
  unfold seeL
  rw [List.mem_filter, List.mem_range]
  exact ⟨fun h => h.2, fun h => ⟨hi, h⟩⟩
theorem see_at {c : CaD} {y : Int × Int} {i : Nat} {t : ThD} (h : c.pr.th[i]? = some t) : seeB c y i = stB c.pr t y := by unfold seeB; rw [h]
theorem see_lt {c : CaD} {y : Int × Int} {i : Nat} (h : i ∈ seeL c y) : i < c.pr.th.length := by
  unfold seeL at h
  rw [List.mem_filter, List.mem_range] at h; exact h.1
theorem see_len (c : CaD) (y : Int × Int) : (seeL c y).length ≤ c.pr.th.length := by
  unfold seeL
  exact Nat.le_trans (List.length_filter_le _ _) (by rw [List.length_range]; exact Nat.le_refl _)
end Go.PaiM

namespace Go.Proofs.YtccpgpnekoncoaaGreatDoor
open Go Go.Sy Go.PaiM
theorem c_wthm (n l h : Int) (w : World) : Calls Tryz.prog 74 #[.int .i64 n, .int .i64 l, .int .i64 h] w (Ret fun v w' => v = .bool (inP n l h) ∧ Ext [] w w') := by
  refine calls_of Tryz.func74 rfl rfl (fun a hf => ?_)
  have hh := Hp.init w []
  unfold inP
  refine sy_sq ?_
  refine o_v hf hh (yv_assign rfl) ?_; clear hf a; intro a hf
  refine o_end ?_
  refine sy_sq ?_
  refine o_v hf hh (yv_move rfl) ?_; clear hf a; intro a hf
  refine o_v hf hh (yv_move rfl) ?_; clear hf a; intro a hf
  refine o_v hf hh (yv_bin rfl rfl rfl) ?_; clear hf a; intro a hf
  refine o_v hf hh (yv_move rfl) ?_; clear hf a; intro a hf
  refine guard_split hf (t := 10) rfl (fun hg2 => ?_) (fun hg2 => ?_)
  ·have hG2 := hg2; try simp only [gS] at hG2
   refine o_v hf hh (yv_move rfl) ?_; clear hf a; intro a hf
   refine o_v hf hh (yv_move rfl) ?_; clear hf a; intro a hf
   refine o_v hf hh (yv_bin rfl rfl rfl) ?_; clear hf a; intro a hf
   refine o_v hf hh (y_pt rfl rfl) ?_; clear hf a; intro a hf
   refine o_v hf hh (yv_assign rfl) ?_; clear hf a; intro a hf
   refine o_end ?_
   refine sy_ret ?_
   refine ret_r hf rfl rfl ?_
   exact ⟨by simp [tup, *], hh.ext⟩
  ·have hG2 := hg2; try simp only [gS] at hG2
   refine o_off hf ?_; clear hf a; intro a hf
   refine o_off hf ?_; clear hf a; intro a hf
   refine o_off hf ?_; clear hf a; intro a hf
   refine o_v hf hh (y_pf rfl rfl) ?_; clear hf a; intro a hf
   refine o_v hf hh (yv_assign rfl) ?_; clear hf a; intro a hf
   refine o_end ?_
   refine sy_ret ?_
   refine ret_r hf rfl rfl ?_
   exact ⟨by simp [tup, *], hh.ext⟩
theorem anyI_take {f : Int → Bool} {l : List Int} (h : ∀ t ∈ l, f t = false) : l.any f = false := by
  rw [List.any_eq_false]; intro t ht; rw [h t ht]; simp
theorem anyI_hit {f : Int → Bool} {l : List Int} {i : Nat} {t : Int} (h : l[i]? = some t) (hf : f t = true) : l.any f = true := List.any_eq_true.2 ⟨t, List.mem_of_getElem? h, hf⟩
theorem c_indexI (f : Int → Bool) (l : List Int) (sa : Option Addr) (cp F : Nat) (cs : Array Value) (u : World) (hA : IxAt u sa l) (hl : l.length ≤ 9223372036854775807) (hE : Enters Tryz.prog F) (hc : ∀ t ∈ l, ∀ w1 : World, Ext [] u w1 → Calls Tryz.prog F (#[.int .i64 t] ++ cs) w1 (Ret fun v w2 => v = .bool (f t) ∧ Ext [] w1 w2)) : Calls Tryz.prog 106 #[.slice sa l.length cp, .func (.func F) #[] cs] u (Ret fun v w' => ∃ n : Int, v = .int .i64 n ∧ decide (0 ≤ n) = l.any f ∧ Ext [] u w') := by
  refine calls_of Tryz.func106 rfl rfl (fun a hf => ?_)
  have hh := Hp.init u []
  refine sy_sq ?_
  refine o_v hf hh (yv_assign rfl) ?_; clear hf a; intro a hf
  refine o_end ?_
  refine sy_seq ?_
  refine sy_sq ?_
  refine o_v hf hh (yv_move rfl) ?_; clear hf a; intro a hf
  refine o_v hf hh (yv_len Tryz.se_108 rfl) ?_; clear hf a; intro a hf
  refine o_v hf hh (yv_move rfl) ?_; clear hf a; intro a hf
  refine o_end ?_
  refine sy_block ?_
  refine sy_loopH (σ := Nat) [4, 5, 8, 9, 10, 11, 12, 13, 14, 15, 16, 17, 18] (fun i => [(8, .int .i64 (i : Nat))]) (fun i => fun w' => i ≤ l.length ∧ (∀ t ∈ l.take i, (!f t) = true) ∧ Hp u [] [] w') (fun i => l.length - i) (0) hf ?_ ?_ ?_
  · repeat' (first | exact True.intro | refine And.intro rfl ?_)
  · exact ⟨Nat.zero_le _, (fun x hx => by simp at hx), hh⟩
  ·rintro i a w ⟨hi, hq, hh⟩ hf
   refine sy_sq ?_
   refine o_v hf hh (yv_bin rfl rfl rfl) ?_; clear hf a; intro a hf
   refine o_end ?_
   refine sy_seq ?_
   refine sy_cond hf rfl (fun hg2 => ?_) (fun hg2 => ?_)
   ·have hG2 := hg2; try simp only [gS] at hG2
    refine sy_skip ?_
    refine then_n ?_
    refine sy_seq ?_
    refine sy_block ?_
    refine sy_sq ?_
    refine o_v hf hh (yv_move rfl) ?_; clear hf a; intro a hf
    refine o_v hf hh (yv_assign rfl) ?_; clear hf a; intro a hf
    refine o_end ?_
    refine sy_seq ?_
    obtain ⟨t, ht⟩ := ex_ofP (l := l) (i := i) (by omega)
    obtain ⟨blk, off, cc, TT, fr, esa, hb2, hcc⟩ := hA i t ht
    refine sy_ops ?_
    refine o_v hf hh (yv_move rfl) ?_; clear hf a; intro a hf
    refine o_v hf hh (yv_move rfl) ?_; clear hf a; intro a hf
    refine o_v hf hh (yv_move rfl) ?_; clear hf a; intro a hf
    refine o_v hf hh (y_ix Tryz.se_108 (congrArg (fun z => some (Value.slice z l.length cp)) esa) rfl) ?_; clear hf a; intro a hf
    refine o_v hf hh (y_ld Tryz.sc_3 rfl) ?_; clear hf a; intro a hf
    refine o_call hf hE rfl rfl rfl (hc t (List.mem_of_getElem? ht) w hh.ext) ?_; clear hf a; intro v a w hR hf
    obtain ⟨rfl, hx⟩ := hR; replace hh := hh.more hx; clear hx
    refine o_end ?_
    refine sy_cond hf rfl (fun hg5 => ?_) (fun hg5 => ?_)
    ·have hG5 := hg5; try simp only [gS] at hG5
     refine sy_sq ?_
     refine o_v hf hh (yv_move rfl) ?_; clear hf a; intro a hf
     refine o_v hf hh (yv_assign rfl) ?_; clear hf a; intro a hf
     refine o_end ?_
     refine sy_ret ?_
     refine blk_r ?_
     refine then_r ?_
     refine then_r ?_
     refine blk_r ?_
     refine then_r ?_
     refine ret_r hf rfl rfl ?_
     first
       | exact ⟨_, rfl, by rw [anyI_hit ht (by assumption)]; exact decide_eq_true (by omega), hh.ext⟩
       | exact ⟨-1, rfl, by rw [anyI_take (fun s hs => by have := hq s (by rw [List.take_of_length_le (by omega)]; exact hs); simpa using this)]; rfl, hh.ext⟩
    ·have hG5 := hg5; try simp only [gS] at hG5
     refine sy_skip ?_
     refine blk_n ?_
     refine then_n ?_
     refine sy_ops ?_
     refine o_v hf hh (y_add rfl rfl) ?_; clear hf a; intro a hf
     refine o_v hf hh (yv_move rfl) ?_; clear hf a; intro a hf
     refine ops_end ?_
     refine then_n ?_
     exact ⟨i + 1, ⟨⟨by omega, take_allP hq ht (by simp_all), hh⟩, (hf.head (by repeat' (first | exact True.intro | refine And.intro rfl ?_)) (Keep.cons rfl (Keep.cons rfl (Keep.cons rfl (Keep.cons rfl (Keep.cons rfl (Keep.cons rfl (Keep.cons rfl (Keep.cons rfl (Keep.cons rfl (Keep.cons rfl (Keep.cons rfl (Keep.app rfl (Keep.rm rfl Keep.base))))))))))))))⟩, by omega⟩
   ·have hG2 := hg2; try simp only [gS] at hG2
    refine sy_exit ?_
    refine then_e ?_
    refine then_e ?_
    refine blk_e ?_
    refine then_n ?_
    refine sy_sq ?_
    refine o_v hf hh (yv_assign rfl) ?_; clear hf a; intro a hf
    refine o_end ?_
    refine sy_ret ?_
    refine ret_r hf rfl rfl ?_
    first
      | exact ⟨_, rfl, by rw [anyI_hit ht (by assumption)]; exact decide_eq_true (by omega), hh.ext⟩
      | exact ⟨-1, rfl, by rw [anyI_take (fun s hs => by have := hq s (by rw [List.take_of_length_le (by omega)]; exact hs); simpa using this)]; rfl, hh.ext⟩
theorem c_containsI (f : Int → Bool) (l : List Int) (sa : Option Addr) (cp F : Nat) (cs : Array Value) (u : World) (hA : IxAt u sa l) (hl : l.length ≤ 9223372036854775807) (hE : Enters Tryz.prog F) (hc : ∀ t ∈ l, ∀ w1 : World, Ext [] u w1 → Calls Tryz.prog F (#[.int .i64 t] ++ cs) w1 (Ret fun v w2 => v = .bool (f t) ∧ Ext [] w1 w2)) : Calls Tryz.prog 75 #[.slice sa l.length cp, .func (.func F) #[] cs] u (Ret fun v w' => v = .bool (l.any f) ∧ Ext [] u w') := by
  refine calls_of Tryz.func75 rfl rfl (fun a hf => ?_)
  have hh := Hp.init u []
  refine sy_sq ?_
  refine o_v hf hh (yv_assign rfl) ?_; clear hf a; intro a hf
  refine o_end ?_
  refine sy_sq ?_
  refine o_v hf hh (yv_move rfl) ?_; clear hf a; intro a hf
  refine o_v hf hh (yv_move rfl) ?_; clear hf a; intro a hf
  refine o_call hf Tryz.en_106 rfl rfl rfl (c_indexI f l sa cp F cs u hA hl hE hc) ?_; clear hf a; intro v a w hR hf
  obtain ⟨n, rfl, hn, hx⟩ := hR; replace hh := hh.more hx; clear hx
  refine o_v hf hh (yv_bin rfl rfl rfl) ?_; clear hf a; intro a hf
  refine o_v hf hh (yv_assign rfl) ?_; clear hf a; intro a hf
  refine o_end ?_
  refine sy_ret ?_
  refine ret_r hf rfl rfl ?_
  exact ⟨congrArg Value.bool (by rw [← hn]), hh.ext⟩
theorem c_isc1 (n : Int) (w : World) : Calls Tryz.prog 105 #[.int .i64 n] w (Ret fun v w' => v = .bool (!inP n 0 10000) ∧ Ext [] w w') := by
  refine calls_of Tryz.func105 rfl rfl (fun a hf => ?_)
  have hh := Hp.init w []
  refine sy_sq ?_
  refine o_v hf hh (yv_assign rfl) ?_; clear hf a; intro a hf
  refine o_end ?_
  refine sy_sq ?_
  refine o_v hf hh (yv_move rfl) ?_; clear hf a; intro a hf
  refine o_call hf Tryz.en_74 rfl rfl rfl (c_wthm n 0 10000 _) ?_; clear hf a; intro v a w hR hf
  obtain ⟨rfl, hx⟩ := hR; replace hh := hh.more hx; clear hx
  refine o_v hf hh (yv_not rfl) ?_; clear hf a; intro a hf
  refine o_v hf hh (yv_assign rfl) ?_; clear hf a; intro a hf
  refine o_end ?_
  refine sy_ret ?_
  refine ret_r hf rfl rfl ?_
  exact ⟨rfl, hh.ext⟩
theorem c_PowerS (p : PrD) (sa : Option Addr) (cp : Nat) (hp : PrOk p) (y : Int × Int) (hy : powO p = some y) (u : World) (hA : ThAt u sa p.th) : Calls Tryz.prog 104 #[.agg (prA p sa cp)] u (Ret fun v w' => v = .tuple #[spV y, .int .i64 0] ∧ Ext [] u w') := by
  have h := c_Power p sa cp hp u hA
  rw [powV_some hy, powEr_some hy] at h
  exact h
theorem ix_four {w : World} {B : Nat} {T : TypeId} {fr : Nat × Nat} {a b c d : Int} (h : w.heap[B]? = some (.cells #[.int .i64 a, .int .i64 b, .int .i64 c, .int .i64 d] T fr)) : IxAt w (some ⟨B, 0, none⟩) [a, b, c, d] := fun i s hi2 => by
  match i, hi2 with
  | 0, hi2 => cases hi2; exact ⟨B, 0, _, T, _, rfl, h, rfl⟩
  | 1, hi2 => cases hi2; exact ⟨B, 0, _, T, _, rfl, h, rfl⟩
  | 2, hi2 => cases hi2; exact ⟨B, 0, _, T, _, rfl, h, rfl⟩
  | 3, hi2 => cases hi2; exact ⟨B, 0, _, T, _, rfl, h, rfl⟩
  | i + 4, hi2 => simp at hi2
set_option maxRecDepth 100000 in
theorem c_isCard (c : CaD) (sa : Option Addr) (cp : Nat) (y : Int × Int) (hc : CaOk c) (hy : powO c.pr = some y) (u : World) (hA : ThAt u sa c.pr.th) : Calls Tryz.prog 71 #[.agg (caA c sa cp)] u (Ret fun v w' => v = .tuple #[.bool true, .int .i64 0] ∧ Ext [] u w') := by
  refine calls_of Tryz.func71 rfl rfl (fun a hf => ?_)
  have hh := Hp.init u []
  have g1 : inP c.half 1 4000 = true := inP_iff.2 hc.ha
  have g2 : inP c.step 1 100 = true := inP_iff.2 hc.st
  have g3 : inP c.cuts 0 40 = true := inP_iff.2 hc.cu
  obtain ⟨e1, e2, e3⟩ := hc.ey
  have g4 : ([c.prism, c.squeeze, c.front, c.deep].any fun n => !inP n 0 10000) = false := by
    rw [List.any_eq_false]
    intro n hn
    simp only [List.mem_cons, List.not_mem_nil, or_false] at hn
    rw [Bool.not_eq_true, Bool.not_eq_false']
    rcases hn with rfl | rfl | rfl | rfl
    · exact inP_iff.2 hc.pm
    · exact inP_iff.2 hc.sq
    · exact inP_iff.2 hc.fr
    · exact inP_iff.2 hc.de
  refine sy_sq ?_
  refine o_box hf hh ?_; clear hf hh a; intro B1 a w hf hh
  refine o_v hf hh (yv_assign rfl) ?_; clear hf a; intro a hf
  refine o_v hf hh (yv_assign rfl) ?_; clear hf a; intro a hf
  refine o_end ?_
  refine sy_sq ?_
  refine o_v hf hh (yv_fieldAddr Tryz.fo_51_0 rfl) ?_; clear hf a; intro a hf
  refine o_v hf hh (y_lds Tryz.ag_38 rfl) ?_; clear hf a; intro a hf
  refine o_call hf Tryz.en_104 rfl rfl rfl (c_PowerS c.pr sa cp hc.pr y hy _ (hA.ext hh.ext)) ?_; clear hf a; intro v a w hR hf
  obtain ⟨rfl, hx⟩ := hR; replace hh := hh.more hx; clear hx
  refine o_v hf hh (yv_move rfl) ?_; clear hf a; intro a hf
  refine o_v hf hh (yv_extract rfl rfl) ?_; clear hf a; intro a hf
  refine o_v hf hh (yv_extract rfl rfl) ?_; clear hf a; intro a hf
  refine o_alloc hf hh Tryz.ze_35 ?_; clear hf hh a; intro B4 a w hf hh
  refine o_store hf hh Tryz.sz_35 fun w hh => ?_
  refine o_v hf hh (yv_assign rfl) ?_; clear hf a; intro a hf
  refine o_end ?_
  refine sy_sq ?_
  refine o_v hf hh (yv_fieldAddr Tryz.fo_51_1 rfl) ?_; clear hf a; intro a hf
  refine o_v hf hh (y_ld Tryz.sc_3 rfl) ?_; clear hf a; intro a hf
  refine o_call hf Tryz.en_74 rfl rfl rfl (c_wthm c.half 1 4000 _) ?_; clear hf a; intro v a w hR hf
  obtain ⟨rfl, hx⟩ := hR; replace hh := hh.more hx; clear hx
  refine o_v hf hh (yv_move rfl) ?_; clear hf a; intro a hf
  refine o_v hf hh (yv_fieldAddr Tryz.fo_51_2 rfl) ?_; clear hf a; intro a hf
  refine o_v hf hh (y_ld Tryz.sc_3 rfl) ?_; clear hf a; intro a hf
  refine o_call hf Tryz.en_74 rfl rfl rfl (c_wthm c.step 1 100 _) ?_; clear hf a; intro v a w hR hf
  obtain ⟨rfl, hx⟩ := hR; replace hh := hh.more hx; clear hx
  refine o_v hf hh (y_pt rfl rfl) ?_; clear hf a; intro a hf
  refine o_v hf hh (yv_move rfl) ?_; clear hf a; intro a hf
  refine o_v hf hh (yv_fieldAddr Tryz.fo_51_3 rfl) ?_; clear hf a; intro a hf
  refine o_v hf hh (y_ld Tryz.sc_3 rfl) ?_; clear hf a; intro a hf
  refine o_call hf Tryz.en_74 rfl rfl rfl (c_wthm c.cuts 0 40 _) ?_; clear hf a; intro v a w hR hf
  obtain ⟨rfl, hx⟩ := hR; replace hh := hh.more hx; clear hx
  refine o_v hf hh (y_pt rfl rfl) ?_; clear hf a; intro a hf
  refine o_v hf hh (yv_assign rfl) ?_; clear hf a; intro a hf
  refine o_end ?_
  refine sy_sq ?_
  refine o_v hf hh (yv_fieldAddr Tryz.fo_51_4 rfl) ?_; clear hf a; intro a hf
  refine o_v hf hh (yv_fieldAddr Tryz.fo_35_0 rfl) ?_; clear hf a; intro a hf
  refine o_v hf hh (y_ld Tryz.sc_3 rfl) ?_; clear hf a; intro a hf
  refine o_v hf hh (yv_bin rfl rfl rfl) ?_; clear hf a; intro a hf
  refine o_v hf hh (yv_move rfl) ?_; clear hf a; intro a hf
  refine o_v hf hh (yv_fieldAddr Tryz.fo_51_4 rfl) ?_; clear hf a; intro a hf
  refine o_v hf hh (yv_fieldAddr Tryz.fo_35_0 rfl) ?_; clear hf a; intro a hf
  refine o_v hf hh (y_ld Tryz.sc_3 rfl) ?_; clear hf a; intro a hf
  refine o_v hf hh (yv_fieldAddr Tryz.fo_51_4 rfl) ?_; clear hf a; intro a hf
  refine o_v hf hh (yv_fieldAddr Tryz.fo_35_1 rfl) ?_; clear hf a; intro a hf
  refine o_v hf hh (y_ld Tryz.sc_3 rfl) ?_; clear hf a; intro a hf
  refine o_v hf hh (yv_bin rfl rfl rfl) ?_; clear hf a; intro a hf
  refine o_v hf hh (y_pt rfl rfl) ?_; clear hf a; intro a hf
  refine o_v hf hh (yv_move rfl) ?_; clear hf a; intro a hf
  refine o_v hf hh (yv_fieldAddr Tryz.fo_51_4 rfl) ?_; clear hf a; intro a hf
  refine o_v hf hh (yv_fieldAddr Tryz.fo_35_1 rfl) ?_; clear hf a; intro a hf
  refine o_v hf hh (y_ld Tryz.sc_3 rfl) ?_; clear hf a; intro a hf
  refine o_v hf hh (yv_bin rfl rfl rfl) ?_; clear hf a; intro a hf
  refine o_v hf hh (y_pt rfl rfl) ?_; clear hf a; intro a hf
  refine o_v hf hh (yv_assign rfl) ?_; clear hf a; intro a hf
  refine o_end ?_
  refine sy_sq ?_
  refine o_v hf hh (yv_assign rfl) ?_; clear hf a; intro a hf
  refine o_end ?_
  refine sy_sq ?_
  refine o_v hf hh (yv_move rfl) ?_; clear hf a; intro a hf
  refine o_v hf hh (yv_bin rfl rfl rfl) ?_; clear hf a; intro a hf
  refine o_v hf hh (yv_move rfl) ?_; clear hf a; intro a hf
  refine o_v hf hh (yv_move rfl) ?_; clear hf a; intro a hf
  refine o_v hf hh (y_pt rfl rfl) ?_; clear hf a; intro a hf
  refine o_v hf hh (yv_move rfl) ?_; clear hf a; intro a hf
  refine o_v hf hh (yv_move rfl) ?_; clear hf a; intro a hf
  refine o_v hf hh (y_pt rfl rfl) ?_; clear hf a; intro a hf
  refine o_v hf hh (yv_move rfl) ?_; clear hf a; intro a hf
  refine o_v hf hh (yv_fieldAddr Tryz.fo_51_5 rfl) ?_; clear hf a; intro a hf
  refine o_v hf hh (y_ld Tryz.sc_3 rfl) ?_; clear hf a; intro a hf
  refine o_v hf hh (yv_fieldAddr Tryz.fo_51_6 rfl) ?_; clear hf a; intro a hf
  refine o_v hf hh (y_ld Tryz.sc_3 rfl) ?_; clear hf a; intro a hf
  refine o_v hf hh (yv_fieldAddr Tryz.fo_51_7 rfl) ?_; clear hf a; intro a hf
  refine o_v hf hh (y_ld Tryz.sc_3 rfl) ?_; clear hf a; intro a hf
  refine o_v hf hh (yv_fieldAddr Tryz.fo_51_8 rfl) ?_; clear hf a; intro a hf
  refine o_v hf hh (y_ld Tryz.sc_3 rfl) ?_; clear hf a; intro a hf
  refine ops_buildSl hf hh Tryz.bl_108_4 rfl rfl (gon rfl rfl rfl (by first | assumption | rfl | (simp; done) | (simp; omega))) rfl ?_; clear hf hh; clear a; intro B64 a w hf hh
  refine o_v hf hh (yv_move rfl) ?_; clear hf a; intro a hf
  refine o_call hf Tryz.en_75 rfl rfl rfl (c_containsI (fun n => !inP n 0 10000) [c.prism, c.squeeze, c.front, c.deep] (some ⟨B64, 0, none⟩) 4 105 #[] _ (ix_four (hh.at (i := 0) rfl)) (by simp) Tryz.en_105 (fun t _ w1 _ => c_isc1 t w1)) ?_; clear hf a; intro v a w hR hf
  obtain ⟨rfl, hx⟩ := hR; replace hh := hh.more hx; clear hx
  refine o_v hf hh (yv_not rfl) ?_; clear hf a; intro a hf
  refine o_v hf hh (y_pt rfl rfl) ?_; clear hf a; intro a hf
  refine o_v hf hh (yv_move rfl) ?_; clear hf a; intro a hf
  refine o_v hf hh (yv_assign rfl) ?_; clear hf a; intro a hf
  refine o_v hf hh (yv_assign rfl) ?_; clear hf a; intro a hf
  refine o_end ?_
  refine sy_ret ?_
  refine ret_r hf rfl rfl ?_
  refine ⟨?_, hh.ext⟩
  show Value.tuple #[.bool _, .int .i64 0] = _
  first
    | rw [g4]; rfl
    | simp_all
end Go.Proofs.YtccpgpnekoncoaaGreatDoor

namespace Go.Proofs.YtccpgpnekoncoaaGreatDoor
open Go Go.Sy Go.PaiM
/-- A card that is looked at lies in memory. -/
structure CarAt (w : World) (c : CaD) (y : Int × Int) (sa : Option Addr) (cp Bc : Nat) : Prop where
  ok : CaOk c
  pw : powO c.pr = some y
  th : ThAt w sa c.pr.th
  ex : ∃ bm es cm, w.heap[Bc]? = some (.cells (kaA c sa cp bm) 103 (0, 0)) ∧ w.heap[bm]? = some (.map es cm) ∧ SetN (shiF c) (seeI c y) es cm
theorem CarAt.ext {w w' : World} {c : CaD} {y : Int × Int} {sa : Option Addr} {cp Bc : Nat} (h : CarAt w c y sa cp Bc) (e : Ext [] w w') : CarAt w' c y sa cp Bc :=
  ⟨h.ok, h.pw, h.th.ext e, let ⟨bm, es, cm, h1, h2, h3⟩ := h.ex; ⟨bm, es, cm, e.get h1, e.get h2, h3⟩⟩
def seV (c : CaD) (y : Int × Int) (i : Nat) : Int × Int := if seeB c y i then (match c.pr.th[i]? with | some t => shf t | none => (0, 0)) else (0, 0)
theorem get_see {c : CaD} {y : Int × Int} {i : Nat} (hi : i < c.pr.th.length) : (if ((i : Nat) : Int) ∈ seeI c y then some (shiF c ((i : Nat) : Int)) else none : Option Value).getD (.agg #[.int .i64 0, .int .i64 0]) = spV (seV c y i) ∧ (if ((i : Nat) : Int) ∈ seeI c y then some (shiF c ((i : Nat) : Int)) else none : Option Value).isSome = seeB c y i := by
  have h1 : ((i : Nat) : Int) ∈ seeI c y ↔ seeB c y i = true := see_mem.trans (see_bit hi)
  unfold seV
  cases h : seeB c y i
  · rw [if_neg (by rw [h1, h]; decide), if_neg (by decide)]; exact ⟨rfl, rfl⟩
  · rw [if_pos (h1.2 h), if_pos rfl, List.getElem?_eq_getElem hi]
    exact ⟨shi_at (List.getElem?_eq_getElem hi), rfl⟩
theorem own_ixP {v : Value} {m : Nat} {l : List Int} {X : List (Nat × Obj)} {w : World} (h : OwnSl 3 1 v m (l.map encI) X) (hX : ∀ q ∈ X, w.heap[q.1]? = some q.2) : ∃ oa cap, v = .slice oa m cap ∧ m = l.length ∧ IxAt w oa l := by
  have hm : m = l.length := by have := h.1; rw [List.length_map, Nat.mul_one] at this; exact this.symm
  rcases h.2 with ⟨h1, h2, _⟩ | ⟨B, cap, cur, h1, h2, _, _, h5, h6⟩
  · refine ⟨none, 0, by rw [h1, h2], hm, fun i x hi => ?_⟩
    have := (List.getElem?_eq_some_iff.1 hi).1
    omega
  · refine ⟨_, _, h1, hm, fun i x hi => ⟨B, 0, cur, 3, (0, 0), rfl, hX (B, .cells cur 3 (0, 0)) (by rw [h2]; exact .head _), ?_⟩⟩
    have hl := (List.getElem?_eq_some_iff.1 hi).1
    have h7 : (l.map encI)[i]? = some (.int .i64 x) := by rw [List.getElem?_map, hi]; rfl
    rw [← h6, Nat.mul_one, List.getElem?_take, if_pos (by omega)] at h7
    rw [Int.toNat_natCast, Nat.zero_add, Nat.mul_one, ← Array.getElem?_toList]
    exact h7
theorem c_opm1 (c : CaD) (sa : Option Addr) (cp : Nat) (n : Int) (B2 : Nat) (u : World) (hb : u.heap[B2]? = some (.cells (caA c sa cp) 51 (0, 0))) : Calls Tryz.prog 73 #[.int .i64 n, ptr B2 0] u (Ret fun v w' => v = .bool (!inP n 0 c.cuts) ∧ Ext [] u w') := by
  refine calls_of Tryz.func73 rfl rfl (fun a hf => ?_)
  have hh := Hp.init u []
  refine sy_sq ?_
  refine o_v hf hh (yv_assign rfl) ?_; clear hf a; intro a hf
  refine o_end ?_
  refine sy_sq ?_
  refine o_v hf hh (yv_move rfl) ?_; clear hf a; intro a hf
  refine o_v hf hh (yv_fieldAddr Tryz.fo_51_3 rfl) ?_; clear hf a; intro a hf
  refine o_v hf hh (y_ld Tryz.sc_3 rfl) ?_; clear hf a; intro a hf
  refine o_call hf Tryz.en_74 rfl rfl rfl (c_wthm n 0 c.cuts _) ?_; clear hf a; intro v a w hR hf
  obtain ⟨rfl, hx⟩ := hR; replace hh := hh.more hx; clear hx
  refine o_v hf hh (yv_not rfl) ?_; clear hf a; intro a hf
  refine o_v hf hh (yv_assign rfl) ?_; clear hf a; intro a hf
  refine o_end ?_
  refine sy_ret ?_
  refine ret_r hf rfl rfl ?_
  exact ⟨rfl, hh.ext⟩
theorem c_edges (e : Edg) (u : World) : Calls Tryz.prog 72 #[.agg (edA e)] u (Ret fun v w' => v = .agg (edA e) ∧ Ext [] u w') := by
  refine calls_of Tryz.func72 rfl rfl (fun a hf => ?_)
  have hh := Hp.init u []
  refine sy_sq ?_
  refine o_box hf hh ?_; clear hf hh a; intro B1 a w hf hh
  refine o_alloc hf hh Tryz.ze_105 ?_; clear hf hh a; intro B2 a w hf hh
  refine o_end ?_
  refine sy_sq ?_
  refine o_v hf hh (yv_fieldAddr Tryz.fo_120_0 rfl) ?_; clear hf a; intro a hf
  refine o_v hf hh (y_ld Tryz.sc_3 rfl) ?_; clear hf a; intro a hf
  refine o_v hf hh (yv_fieldAddr Tryz.fo_120_1 rfl) ?_; clear hf a; intro a hf
  refine o_v hf hh (y_ld Tryz.sc_3 rfl) ?_; clear hf a; intro a hf
  refine o_v hf hh (yv_fieldAddr Tryz.fo_120_2 rfl) ?_; clear hf a; intro a hf
  refine o_v hf hh (y_ld Tryz.sc_3 rfl) ?_; clear hf a; intro a hf
  refine o_v hf hh (yv_fieldAddr Tryz.fo_120_3 rfl) ?_; clear hf a; intro a hf
  refine o_v hf hh (y_ld Tryz.sc_3 rfl) ?_; clear hf a; intro a hf
  refine o_v hf hh (yv_buildA Tryz.ba_105 rfl rfl) ?_; clear hf a; intro a hf
  refine o_store hf hh Tryz.sz_105 fun w hh => ?_
  refine o_end ?_
  refine sy_ret ?_
  refine ret_c (vs := [.agg (edA e)]) hf ?_ ?_
  · exact ⟨⟨B2, 0, _, _, _, rfl, hh.at (i := 0) rfl, .inr ⟨4, _, Tryz.ag_105, rfl, rfl⟩⟩, True.intro⟩
  · exact ⟨rfl, hh.ext⟩
set_option maxRecDepth 100000 in
set_option maxHeartbeats 4000000 in
theorem c_openH (c : CaD) (sa : Option Addr) (cp : Nat) (y : Int × Int) (hc : CaOk c) (hy : powO c.pr = some y) (l : List Edg) (sl : Option Addr) (cl : Nat) (hl : ∀ e ∈ l, TrmOk c.cuts e) (hll : l.length ≤ 9223372036854775807) (u : World) (hA : ThAt u sa c.pr.th) (hL : EdAt u sl l) : Calls Tryz.prog 46 #[.agg (caA c sa cp), .slice sl l.length cl] u (Ret fun v w' => ∃ Bc bm es cm, v = .tuple #[ptr Bc 0, .int .i64 0] ∧ SetN (shiF c) (seeI c y) es cm ∧ Hp u [] [(Bc, .cells (kaA c sa cp bm) 103), (bm, .map es cm)] w') := by
  refine calls_of Tryz.func46 rfl rfl (fun a hf => ?_)
  have hh := Hp.init u []
  have hnt := hc.pr.nt
  obtain ⟨k1, k2⟩ := hc.cu
  refine sy_sq ?_
  refine o_box hf hh ?_; clear hf hh a; intro B2 a w hf hh
  refine o_v hf hh (yv_assign rfl) ?_; clear hf a; intro a hf
  refine o_v hf hh (yv_assign rfl) ?_; clear hf a; intro a hf
  refine o_end ?_
  refine sy_sq ?_
  refine o_v hf hh (y_lds Tryz.ag_51 rfl) ?_; clear hf a; intro a hf
  refine o_call hf Tryz.en_71 rfl rfl rfl (c_isCard c sa cp y hc hy _ (hA.ext hh.ext)) ?_; clear hf a; intro v a w hR hf
  obtain ⟨rfl, hx⟩ := hR; replace hh := hh.more hx; clear hx
  refine o_v hf hh (yv_move rfl) ?_; clear hf a; intro a hf
  refine o_v hf hh (yv_extract rfl rfl) ?_; clear hf a; intro a hf
  refine o_v hf hh (yv_extract rfl rfl) ?_; clear hf a; intro a hf
  refine o_v hf hh (yv_assign rfl) ?_; clear hf a; intro a hf
  refine o_v hf hh (yv_assign rfl) ?_; clear hf a; intro a hf
  refine o_end ?_
  refine sy_seq ?_
  refine sy_sq ?_
  refine o_v hf hh (yv_move rfl) ?_; clear hf a; intro a hf
  refine o_v hf hh (yv_not rfl) ?_; clear hf a; intro a hf
  refine o_end ?_
  refine c_f hf ?_
  refine sy_skip ?_
  refine then_n ?_
  refine sy_seq ?_
  refine sy_sq ?_
  refine o_v hf hh (yv_move rfl) ?_; clear hf a; intro a hf
  refine o_v hf hh (yv_len Tryz.se_145 rfl) ?_; clear hf a; intro a hf
  refine o_v hf hh (yv_move rfl) ?_; clear hf a; intro a hf
  refine o_end ?_
  refine sy_block ?_
  refine sy_loopH (σ := Nat) [4, 5, 9, 10, 11, 27, 28, 29, 30, 31, 32, 33, 34, 35, 36, 37, 38, 39, 40, 41, 42, 43, 44, 45, 46, 47, 48, 49, 50] (fun i => [(27, .int .i64 (i : Nat))]) (fun i => fun w' => i ≤ l.length ∧ Hp u [] [(B2, .cells (caA c sa cp) 51)] w') (fun i => l.length - i) (0) hf ?_ ?_ ?_
  · repeat' (first | exact True.intro | refine And.intro rfl ?_)
  · exact ⟨Nat.zero_le _, hh⟩
  ·rintro i a w ⟨hi, hh⟩ hf
   refine sy_sq ?_
   refine o_v hf hh (yv_bin rfl rfl rfl) ?_; clear hf a; intro a hf
   refine o_end ?_
   refine sy_seq ?_
   refine sy_cond hf rfl (fun hg5 => ?_) (fun hg5 => ?_)
   ·have hG5 := hg5; try simp only [gS] at hG5
    refine sy_skip ?_
    refine then_n ?_
    refine sy_seq ?_
    refine sy_block ?_
    refine sy_seq ?_
    obtain ⟨e, he⟩ := ex_ofP (l := l) (i := i) (by omega)
    obtain ⟨blk, off, cc, TT, fr, esl, hb2, hcc⟩ := hL i e he
    obtain ⟨t1, t2, t3, t4, t5⟩ := hl e (List.mem_of_getElem? he)
    have hany : ((edgL e).any fun n => !inP n 0 c.cuts) = false := by
      rw [List.any_eq_false]
      intro n hn
      unfold edgL at hn
      simp only [List.mem_cons, List.not_mem_nil, or_false] at hn
      rw [Bool.not_eq_true, Bool.not_eq_false']
      rcases hn with rfl | rfl | rfl | rfl
      · exact inP_iff.2 t1
      · exact inP_iff.2 t2
      · exact inP_iff.2 t3
      · exact inP_iff.2 t4
    refine sy_ops ?_
    refine o_v hf hh (y_ix Tryz.se_145 (congrArg (fun z => some (Value.slice z l.length cl)) esl) rfl) ?_; clear hf a; intro a hf
    refine o_v hf hh (y_lds Tryz.ag_120 rfl) ?_; clear hf a; intro a hf
    refine o_alloc hf hh Tryz.ze_120 ?_; clear hf hh a; intro B9 a w hf hh
    refine o_store hf hh Tryz.sz_120 fun w hh => ?_
    refine o_end ?_
    refine sy_sq ?_
    refine o_v hf hh (y_lds Tryz.ag_120 rfl) ?_; clear hf a; intro a hf
    refine o_call hf Tryz.en_72 rfl rfl rfl (c_edges e _) ?_; clear hf a; intro v a w hR hf
    obtain ⟨rfl, hx⟩ := hR; replace hh := hh.more hx; clear hx
    refine o_alloc hf hh Tryz.ze_105 ?_; clear hf hh a; intro B10 a w hf hh
    refine o_store hf hh Tryz.sz_105 fun w hh => ?_
    refine o_end ?_
    refine sy_sq ?_
    refine o_v hf hh (yv_makeFunc rfl rfl) ?_; clear hf a; intro a hf
    refine o_v hf hh (yv_assign rfl) ?_; clear hf a; intro a hf
    refine o_end ?_
    refine sy_sq ?_
    refine o_v hf hh (yv_sliceArr Tryz.ae_105 rfl) ?_; clear hf a; intro a hf
    refine o_v hf hh (yv_move rfl) ?_; clear hf a; intro a hf
    refine o_call hf Tryz.en_75 rfl rfl rfl (c_containsI (fun n => !inP n 0 c.cuts) (edgL e) (some ⟨B10, 0, none⟩) 4 73 #[ptr B2 0] _ (ix_four (hh.at (i := 0) rfl)) (by simp [edgL]) Tryz.en_73 (fun t _ w1 e => c_opm1 c sa cp t B2 w1 (e.get (hh.at (i := 2) rfl)))) ?_; clear hf a; intro v a w hR hf
    obtain ⟨rfl, hx⟩ := hR; replace hh := hh.more hx; clear hx
    refine o_v hf hh (yv_move rfl) ?_; clear hf a; intro a hf
    refine o_v hf hh (y_ia Tryz.ae_105 rfl rfl) ?_; clear hf a; intro a hf
    refine o_v hf hh (y_ld Tryz.sc_3 rfl) ?_; clear hf a; intro a hf
    refine o_v hf hh (y_ia Tryz.ae_105 rfl rfl) ?_; clear hf a; intro a hf
    refine o_v hf hh (y_ld Tryz.sc_3 rfl) ?_; clear hf a; intro a hf
    refine o_v hf hh (y_add rfl rfl) ?_; clear hf a; intro a hf
    refine o_v hf hh (y_ia Tryz.ae_105 rfl rfl) ?_; clear hf a; intro a hf
    refine o_v hf hh (y_ld Tryz.sc_3 rfl) ?_; clear hf a; intro a hf
    refine o_v hf hh (y_ia Tryz.ae_105 rfl rfl) ?_; clear hf a; intro a hf
    refine o_v hf hh (y_ld Tryz.sc_3 rfl) ?_; clear hf a; intro a hf
    refine o_v hf hh (y_add rfl rfl) ?_; clear hf a; intro a hf
    refine o_v hf hh (yv_bin rfl rfl rfl) ?_; clear hf a; intro a hf
    refine o_v hf hh (y_pf rfl rfl) ?_; clear hf a; intro a hf
    refine o_end ?_
    refine c_f hf ?_
    refine sy_skip ?_
    refine blk_n ?_
    refine then_n ?_
    refine sy_ops ?_
    refine o_v hf hh (y_add rfl rfl) ?_; clear hf a; intro a hf
    refine o_v hf hh (yv_move rfl) ?_; clear hf a; intro a hf
    refine ops_end ?_
    refine then_n ?_
    exact ⟨i + 1, ⟨⟨by omega, hh.less (.cons _ (.cons _ (.refl _)))⟩, (hf.head (by repeat' (first | exact True.intro | refine And.intro rfl ?_)) (Keep.cons rfl (Keep.cons rfl (Keep.cons rfl (Keep.cons rfl (Keep.cons rfl (Keep.cons rfl (Keep.cons rfl (Keep.cons rfl (Keep.cons rfl (Keep.cons rfl (Keep.cons rfl (Keep.cons rfl (Keep.cons rfl (Keep.cons rfl (Keep.cons rfl (Keep.cons rfl (Keep.cons rfl (Keep.cons rfl (Keep.cons rfl (Keep.cons rfl (Keep.cons rfl (Keep.cons rfl (Keep.cons rfl (Keep.cons rfl (Keep.cons rfl (Keep.cons rfl (Keep.cons rfl (Keep.app rfl (Keep.rm rfl Keep.base))))))))))))))))))))))))))))))⟩, by omega⟩
   ·have hG5 := hg5; try simp only [gS] at hG5
    refine sy_exit ?_
    refine then_e ?_
    refine then_e ?_
    refine blk_e ?_
    refine then_n ?_
    refine sy_seq ?_
    refine sy_sq ?_
    refine o_v hf hh (yv_move rfl) ?_; clear hf a; intro a hf
    refine o_v hf hh (yv_bin rfl rfl rfl) ?_; clear hf a; intro a hf
    refine o_end ?_
    refine c_f hf ?_
    refine sy_skip ?_
    refine then_n ?_
    refine sy_sq ?_
    refine o_v hf hh (y_lds Tryz.ag_51 rfl) ?_; clear hf a; intro a hf
    refine ops_makeMap hf hh (.inl rfl) rfl ?_; clear hf hh; clear a; intro B55 a w hf hh
    refine o_v hf hh (yv_buildS Tryz.bs_103 rfl rfl) ?_; clear hf a; intro a hf
    refine o_box hf hh ?_; clear hf hh a; intro B57 a w hf hh
    refine o_v hf hh (yv_assign rfl) ?_; clear hf a; intro a hf
    refine o_end ?_
    refine sy_seq ?_
    refine sy_sq ?_
    refine o_v hf hh (yv_fieldAddr Tryz.fo_51_0 rfl) ?_; clear hf a; intro a hf
    refine o_v hf hh (yv_fieldAddr Tryz.fo_38_5 rfl) ?_; clear hf a; intro a hf
    refine o_v hf hh (y_ld Tryz.sc_36 rfl) ?_; clear hf a; intro a hf
    refine o_v hf hh (yv_len Tryz.se_36 rfl) ?_; clear hf a; intro a hf
    refine o_v hf hh (yv_move rfl) ?_; clear hf a; intro a hf
    refine o_end ?_
    refine sy_block ?_
    refine sy_loopH (σ := Nat × Array MapEntry × Nat) [13, 14, 15, 16, 17, 62, 63, 64, 65, 66, 67, 68, 69, 70, 71, 72, 73, 74, 75, 76, 77, 78, 79, 80, 81, 82, 83, 84, 85, 86, 87, 88, 89, 90, 91] (fun s => [(62, .int .i64 (s.1 : Nat))]) (fun s => fun w' => s.1 ≤ c.pr.th.length ∧ SetN (shiF c) (seeTo c y s.1) s.2.1 s.2.2 ∧ Hp u [] [(B57, .cells (kaA c sa cp B55) 103), (B55, .map s.2.1 s.2.2), (B2, .cells (caA c sa cp) 51)] w') (fun s => c.pr.th.length - s.1) ((0, #[], 0)) hf ?_ ?_ ?_
    · repeat' (first | exact True.intro | refine And.intro rfl ?_)
    · exact ⟨Nat.zero_le _, SetN.nil _, hh⟩
    ·rintro s a w ⟨hi, hS, hh⟩ hf
     obtain ⟨i, es, cm⟩ := s; simp only at hi hS hh hf ⊢
     refine sy_seq ?_
     replace hh : Hp u [] [(B57, .cells (kaA c sa cp B55) 103), (B55, .map es cm), (B2, .cells (caA c sa cp) 51)] w := hh
     refine sy_ops ?_
     refine o_v hf hh (yv_bin rfl rfl rfl) ?_; clear hf a; intro a hf
     refine o_end ?_
     refine sy_seq ?_
     refine sy_cond hf rfl (fun hg13 => ?_) (fun hg13 => ?_)
     ·have hG13 := hg13; try simp only [gS] at hG13
      refine sy_skip ?_
      refine then_n ?_
      refine sy_seq ?_
      refine sy_block ?_
      refine sy_seq ?_
      obtain ⟨t, ht⟩ := ex_ofP (l := c.pr.th) (i := i) (by omega)
      refine sy_ops ?_
      refine o_v hf hh (yv_move rfl) ?_; clear hf a; intro a hf
      refine o_v hf hh (yv_assign rfl) ?_; clear hf a; intro a hf
      refine o_end ?_
      refine sy_sq ?_
      refine o_v hf hh (yv_fieldAddr Tryz.fo_51_0 rfl) ?_; clear hf a; intro a hf
      refine o_v hf hh (y_lds Tryz.ag_38 rfl) ?_; clear hf a; intro a hf
      refine o_v hf hh (yv_move rfl) ?_; clear hf a; intro a hf
      refine o_call hf Tryz.en_11 rfl rfl rfl (c_Why c.pr sa cp t i hc.pr ht w (hA.ext hh.ext) y hy) ?_; clear hf a; intro v a w hR hf
      obtain ⟨⟨n, rfl, hn⟩, hx⟩ := hR; replace hh := hh.more hx; clear hx
      refine o_v hf hh (yv_move rfl) ?_; clear hf a; intro a hf
      refine o_v hf hh (yv_extract rfl rfl) ?_; clear hf a; intro a hf
      refine o_v hf hh (yv_extract rfl rfl) ?_; clear hf a; intro a hf
      refine o_v hf hh (yv_assign rfl) ?_; clear hf a; intro a hf
      refine o_v hf hh (yv_assign rfl) ?_; clear hf a; intro a hf
      refine o_end ?_
      refine sy_sq ?_
      refine o_v hf hh (yv_move rfl) ?_; clear hf a; intro a hf
      refine o_v hf hh (yv_bin rfl rfl rfl) ?_; clear hf a; intro a hf
      refine o_end ?_
      refine sy_cond hf rfl (fun hg18 => ?_) (fun hg18 => ?_)
      ·have hG18 := hg18; try simp only [gS] at hG18
       refine sy_seq ?_
       have hse : seeB c y i = true := by rw [see_at ht, ← hn]; exact decide_eq_true (by omega)
       refine sy_ops ?_
       refine o_v hf hh (yv_fieldAddr Tryz.fo_51_0 rfl) ?_; clear hf a; intro a hf
       refine o_v hf hh (y_lds Tryz.ag_38 rfl) ?_; clear hf a; intro a hf
       refine o_v hf hh (yv_move rfl) ?_; clear hf a; intro a hf
       refine o_call hf Tryz.en_76 rfl rfl rfl (c_Shift c.pr sa cp t i hc.pr ht _ (hA.ext hh.ext)) ?_; clear hf a; intro v a w hR hf
       obtain ⟨rfl, hx⟩ := hR; replace hh := hh.more hx; clear hx
       refine o_v hf hh (yv_move rfl) ?_; clear hf a; intro a hf
       refine o_v hf hh (yv_extract rfl rfl) ?_; clear hf a; intro a hf
       refine o_v hf hh (yv_extract rfl rfl) ?_; clear hf a; intro a hf
       refine o_alloc hf hh Tryz.ze_35 ?_; clear hf hh a; intro B16 a w hf hh
       refine o_store hf hh Tryz.sz_35 fun w hh => ?_
       refine o_v hf hh (yv_assign rfl) ?_; clear hf a; intro a hf
       refine o_end ?_
       refine sy_tail (C := Hp _ _ _) 10 Tryz.follows (by kernel_rfl) rfl rfl (hh.drawn _) ?_
       refine oq_v hf (yv_move rfl) ?_; clear hf a; intro a hf
       refine oq_v hf (yv_nilCheck rfl) ?_; clear hf a; intro a hf
       refine oq_v hf (yv_fieldAddr Tryz.fo_103_1 rfl) ?_; clear hf a; intro a hf
       refine oq_v hf (y_ld Tryz.sc_101 rfl) ?_; clear hf a; intro a hf
       refine oq_v hf (yv_move rfl) ?_; clear hf a; intro a hf
       refine oq_v hf (yv_fieldAddr Tryz.fo_35_0 rfl) ?_; clear hf a; intro a hf
       refine oq_v hf (y_ld Tryz.sc_3 rfl) ?_; clear hf a; intro a hf
       refine oq_v hf (yv_fieldAddr Tryz.fo_35_1 rfl) ?_; clear hf a; intro a hf
       refine oq_v hf (y_ld Tryz.sc_3 rfl) ?_; clear hf a; intro a hf
       refine oq_v hf (yv_buildS Tryz.bs_151 rfl rfl) ?_; clear hf a; intro a hf
       refine q_end fun w hh => ?_
       refine ops_putN (F := shiF c) (i := 2) hf hh Tryz.mt_101 rfl rfl (congrArg some (shi_at ht).symm) rfl hS see_notin (.inl rfl) fun es' cm' w hS' hh => ?_
       rw [← see_yes hse] at hS'
       replace hh : Hp u [] [(B16, _), (B57, .cells (kaA c sa cp B55) 103), (B55, .map es' cm'), (B2, .cells (caA c sa cp) 51)] w := hh
       refine ops_end ?_
       refine blk_n ?_
       refine then_n ?_
       obtain ⟨es', cm', hS', hh⟩ : ∃ es' cm', SetN (shiF c) (seeTo c y (i + 1)) es' cm' ∧ Hp u [] [(B57, .cells (kaA c sa cp B55) 103), (B55, .map es' cm'), (B2, .cells (caA c sa cp) 51)] w := by
         first
         | exact ⟨es', cm', hS', hh.less (.cons _ (.refl _))⟩
         | (have hse : seeB c y i = false := by rw [see_at ht, ← hn]; exact decide_eq_false (by omega)
            exact ⟨es, cm, by rw [see_no hse]; exact hS, hh⟩)
       refine sy_ops ?_
       refine o_v hf hh (y_add rfl rfl) ?_; clear hf a; intro a hf
       refine o_v hf hh (yv_move rfl) ?_; clear hf a; intro a hf
       refine ops_end ?_
       refine then_n ?_
       exact ⟨(i + 1, es', cm'), ⟨⟨by show i + 1 ≤ _; omega, hS', hh⟩, (hf.head (by repeat' (first | exact True.intro | refine And.intro rfl ?_)) (Keep.cons rfl (Keep.cons rfl (Keep.cons rfl (Keep.cons rfl (Keep.cons rfl (Keep.cons rfl (Keep.cons rfl (Keep.cons rfl (Keep.cons rfl (Keep.cons rfl (Keep.cons rfl (Keep.cons rfl (Keep.cons rfl (Keep.cons rfl (Keep.cons rfl (Keep.cons rfl (Keep.cons rfl (Keep.cons rfl (Keep.cons rfl (Keep.cons rfl (Keep.cons rfl (Keep.cons rfl (Keep.cons rfl (Keep.cons rfl (Keep.cons rfl (Keep.cons rfl (Keep.cons rfl (Keep.cons rfl (Keep.cons rfl (Keep.cons rfl (Keep.cons rfl (Keep.cons rfl (Keep.cons rfl (Keep.cons rfl (Keep.cons rfl (Keep.app rfl (Keep.rm rfl Keep.base))))))))))))))))))))))))))))))))))))))⟩, by show _ - (i + 1) < _; omega⟩
      ·have hG18 := hg18; try simp only [gS] at hG18
       refine sy_skip ?_
       refine blk_n ?_
       refine then_n ?_
       obtain ⟨es', cm', hS', hh⟩ : ∃ es' cm', SetN (shiF c) (seeTo c y (i + 1)) es' cm' ∧ Hp u [] [(B57, .cells (kaA c sa cp B55) 103), (B55, .map es' cm'), (B2, .cells (caA c sa cp) 51)] w := by
         first
         | exact ⟨es', cm', hS', hh.less (.cons _ (.refl _))⟩
         | (have hse : seeB c y i = false := by rw [see_at ht, ← hn]; exact decide_eq_false (by omega)
            exact ⟨es, cm, by rw [see_no hse]; exact hS, hh⟩)
       refine sy_ops ?_
       refine o_v hf hh (y_add rfl rfl) ?_; clear hf a; intro a hf
       refine o_v hf hh (yv_move rfl) ?_; clear hf a; intro a hf
       refine ops_end ?_
       refine then_n ?_
       exact ⟨(i + 1, es', cm'), ⟨⟨by show i + 1 ≤ _; omega, hS', hh⟩, (hf.head (by repeat' (first | exact True.intro | refine And.intro rfl ?_)) (Keep.cons rfl (Keep.cons rfl (Keep.cons rfl (Keep.cons rfl (Keep.cons rfl (Keep.cons rfl (Keep.cons rfl (Keep.cons rfl (Keep.cons rfl (Keep.cons rfl (Keep.cons rfl (Keep.cons rfl (Keep.cons rfl (Keep.cons rfl (Keep.cons rfl (Keep.cons rfl (Keep.app rfl (Keep.rm rfl Keep.base)))))))))))))))))))⟩, by show _ - (i + 1) < _; omega⟩
     ·have hG13 := hg13; try simp only [gS] at hG13
      refine sy_exit ?_
      refine then_e ?_
      refine then_e ?_
      refine blk_e ?_
      refine then_n ?_
      refine sy_sq ?_
      refine o_v hf hh (yv_move rfl) ?_; clear hf a; intro a hf
      refine o_v hf hh (yv_assign rfl) ?_; clear hf a; intro a hf
      refine o_v hf hh (yv_assign rfl) ?_; clear hf a; intro a hf
      refine o_end ?_
      refine sy_ret ?_
      refine ret_r hf rfl rfl ?_
      obtain rfl : i = c.pr.th.length := by omega
      exact ⟨B57, B55, es, cm, rfl, hS, hh.less (.cons_cons _ (.cons_cons _ (.cons _ (.refl _))))⟩
theorem c_openM (c : CaD) (sa : Option Addr) (cp : Nat) (y : Int × Int) (hc : CaOk c) (hy : powO c.pr = some y) (l : List Edg) (sl : Option Addr) (cl : Nat) (hl : ∀ e ∈ l, TrmOk c.cuts e) (hll : l.length ≤ 9223372036854775807) (u : World) (hA : ThAt u sa c.pr.th) (hL : EdAt u sl l) : Calls Tryz.prog 46 #[.agg (caA c sa cp), .slice sl l.length cl] u (Ret fun v w' => ∃ Bc, v = .tuple #[ptr Bc 0, .int .i64 0] ∧ CarAt w' c y sa cp Bc ∧ Ext [] u w') :=
  Calls.ret_mono (c_openH c sa cp y hc hy l sl cl hl hll u hA hL) fun v w' ⟨Bc, bm, es, cm, e, hS, hh⟩ => ⟨Bc, e, ⟨hc, hy, hA.ext hh.ext, bm, es, cm, hh.at (i := 0) rfl, hh.at (i := 1) rfl, hS⟩, hh.ext⟩
set_option maxRecDepth 100000 in
theorem c_things (c : CaD) (y : Int × Int) (sa : Option Addr) (cp Bc : Nat) (u : World) (hC : CarAt u c y sa cp Bc) : Calls Tryz.prog 80 #[ptr Bc 0] u (Ret fun v w' => ∃ so co, v = .slice so (seeI c y).length co ∧ IxAt w' so (seeI c y) ∧ Ext [] u w') := by
  refine calls_of Tryz.func80 rfl rfl (fun a hf => ?_)
  have hh := Hp.init u []
  obtain ⟨bm, es, cm, hb, hm, hS⟩ := hC.ex
  have hnt := hC.ok.pr.nt
  refine sy_sq ?_
  refine o_v hf hh (yv_assign rfl) ?_; clear hf a; intro a hf
  refine o_end ?_
  refine sy_seq ?_
  refine sy_sq ?_
  refine o_v hf hh (yv_move rfl) ?_; clear hf a; intro a hf
  refine o_v hf hh (yv_nilCheck rfl) ?_; clear hf a; intro a hf
  refine o_v hf hh (yv_fieldAddr Tryz.fo_103_0 rfl) ?_; clear hf a; intro a hf
  refine o_v hf hh (yv_fieldAddr Tryz.fo_51_0 rfl) ?_; clear hf a; intro a hf
  refine o_v hf hh (yv_fieldAddr Tryz.fo_38_5 rfl) ?_; clear hf a; intro a hf
  refine o_v hf hh (y_ld Tryz.sc_36 rfl) ?_; clear hf a; intro a hf
  refine o_v hf hh (yv_len Tryz.se_36 rfl) ?_; clear hf a; intro a hf
  refine o_v hf hh (yv_move rfl) ?_; clear hf a; intro a hf
  refine o_end ?_
  refine sy_block ?_
  refine sy_loopH (σ := Nat × Value × List (Nat × Obj)) [2, 3, 4, 5, 13, 14, 15, 16, 17, 18, 19, 20, 21, 22, 23, 24, 25, 26, 27, 28, 29, 30] (fun s => [(13, .int .i64 (s.1 : Nat)), (2, s.2.1)]) (fun s => fun w' => s.1 ≤ c.pr.th.length ∧ OwnSl 3 1 s.2.1 (seeTo c y s.1).length ((seeTo c y s.1).map encI) s.2.2 ∧ Hp u [] s.2.2 w') (fun s => c.pr.th.length - s.1) ((0, .slice none 0 0, [])) hf ?_ ?_ ?_
  · repeat' (first | exact True.intro | refine And.intro rfl ?_)
  · exact ⟨Nat.zero_le _, OwnSl.nil _ _, hh⟩
  ·rintro s a w ⟨hi, hOw, hh⟩ hf
   obtain ⟨i, v, X⟩ := s; simp only at hi hOw hh hf ⊢
   refine sy_sq ?_
   refine o_v hf hh (yv_bin rfl rfl rfl) ?_; clear hf a; intro a hf
   refine o_end ?_
   refine sy_seq ?_
   refine sy_cond hf rfl (fun hg2 => ?_) (fun hg2 => ?_)
   ·have hG2 := hg2; try simp only [gS] at hG2
    refine sy_skip ?_
    refine then_n ?_
    refine sy_seq ?_
    refine sy_block ?_
    refine sy_sq ?_
    refine o_v hf hh (yv_move rfl) ?_; clear hf a; intro a hf
    refine o_v hf hh (yv_assign rfl) ?_; clear hf a; intro a hf
    refine o_end ?_
    refine sy_sq ?_
    refine o_v hf hh (yv_move rfl) ?_; clear hf a; intro a hf
    refine o_v hf hh (yv_nilCheck rfl) ?_; clear hf a; intro a hf
    refine o_v hf hh (yv_fieldAddr Tryz.fo_103_1 rfl) ?_; clear hf a; intro a hf
    refine o_v hf hh (y_ld Tryz.sc_101 rfl) ?_; clear hf a; intro a hf
    refine o_v hf hh (yv_move rfl) ?_; clear hf a; intro a hf
    refine o_v hf hh (yv_cast (v' := .tuple #[spV (seV c y i), .bool (seeB c y i)]) (yv_getI2 Tryz.mt_101 Tryz.ze_151 rfl rfl (fun w h => h.old hm) hS.mapI) (by rw [(get_see (by omega)).1, (get_see (by omega)).2])) ?_; clear hf a; intro a hf
    refine o_v hf hh (yv_move rfl) ?_; clear hf a; intro a hf
    refine o_v hf hh (yv_extract rfl rfl) ?_; clear hf a; intro a hf
    refine o_v hf hh (yv_extract rfl rfl) ?_; clear hf a; intro a hf
    refine o_alloc hf hh Tryz.ze_151 ?_; clear hf hh a; intro B4 a w hf hh
    refine o_store hf hh Tryz.sz_151 fun w hh => ?_
    refine o_v hf hh (yv_assign rfl) ?_; clear hf a; intro a hf
    refine o_end ?_
    refine sy_sq ?_
    refine o_v hf hh (yv_move rfl) ?_; clear hf a; intro a hf
    refine o_end ?_
    refine sy_cond hf rfl (fun hg6 => ?_) (fun hg6 => ?_)
    ·have hG6 := hg6; try simp only [gS] at hG6
     have hse : seeB c y i = true := by assumption
     replace hh := hh.less (.cons _ (.refl X))
     have hln : (seeTo c y i).length ≤ i := by unfold seeTo; rw [List.length_map]; exact Nat.le_trans (List.length_filter_le _ _) (by rw [List.length_range]; exact Nat.le_refl _)
     refine sy_ops ?_
     refine o_v hf hh (yv_move rfl) ?_; clear hf a; intro a hf
     refine o_v hf hh (yv_move rfl) ?_; clear hf a; intro a hf
     refine ops_buildSl hf hh Tryz.bl_108_1 rfl rfl (.inl rfl) rfl ?_; clear hf hh; clear a; intro B28 a w hf hh
     have hh2 : Hp u [] ((B28, .cells #[.int .i64 ((i : Nat) : Int)] 3 (0, 0)) :: (X ++ [])) w := by rw [List.append_nil]; exact hh
     refine ops_append (e := 3) (size := 1) (xs := (seeTo c y i).map encI) (news := [encI ((i : Nat) : Int)]) (X := X) (m := (seeTo c y i).length) (q := 1) hf hh2 Tryz.eb_108 rfl rfl hOw rfl rfl rfl (by simp only [maxLen]; omega) (by omega) (.inl rfl) rfl ?_; clear hf hh hh2 a; intro v' X' a w hO' hf hh
     rw [List.append_nil] at hh
     replace hO' : OwnSl 3 1 v' (seeTo c y (i + 1)).length ((seeTo c y (i + 1)).map encI) X' := by rw [see_yes hse, List.length_append, List.map_append]; exact hO'
     refine o_v hf hh (yv_assign rfl) ?_; clear hf a; intro a hf
     refine ops_end ?_
     refine blk_n ?_
     refine then_n ?_
     first
       | (have hO9 := hO'; have hh9 := hh)
       | (have hO9 : OwnSl 3 1 v (seeTo c y (i + 1)).length ((seeTo c y (i + 1)).map encI) X := by rw [see_no (by assumption)]; exact hOw
          have hh9 := hh.less (.cons _ (.refl X)))
     refine sy_ops ?_
     refine o_v hf hh (y_add rfl rfl) ?_; clear hf a; intro a hf
     refine o_v hf hh (yv_move rfl) ?_; clear hf a; intro a hf
     refine ops_end ?_
     refine then_n ?_
     exact ⟨(i + 1, _, _), ⟨⟨by show i + 1 ≤ _; omega, hO9, hh9⟩, (hf.head (by repeat' (first | exact True.intro | refine And.intro rfl ?_)) (Keep.cons rfl (Keep.cons rfl (Keep.cons rfl (Keep.cons rfl (Keep.cons rfl (Keep.cons rfl (Keep.cons rfl (Keep.cons rfl (Keep.cons rfl (Keep.cons rfl (Keep.cons rfl (Keep.cons rfl (Keep.cons rfl (Keep.cons rfl (Keep.cons rfl (Keep.cons rfl (Keep.cons rfl (Keep.cons rfl (Keep.cons rfl (Keep.cons rfl (Keep.cons rfl (Keep.cons rfl (Keep.app rfl (Keep.rm rfl Keep.base)))))))))))))))))))))))))⟩, by show _ - (i + 1) < _; omega⟩
    ·have hG6 := hg6; try simp only [gS] at hG6
     refine sy_skip ?_
     refine blk_n ?_
     refine then_n ?_
     first
       | (have hO9 := hO'; have hh9 := hh)
       | (have hO9 : OwnSl 3 1 v (seeTo c y (i + 1)).length ((seeTo c y (i + 1)).map encI) X := by rw [see_no (by assumption)]; exact hOw
          have hh9 := hh.less (.cons _ (.refl X)))
     refine sy_ops ?_
     refine o_v hf hh (y_add rfl rfl) ?_; clear hf a; intro a hf
     refine o_v hf hh (yv_move rfl) ?_; clear hf a; intro a hf
     refine ops_end ?_
     refine then_n ?_
     exact ⟨(i + 1, _, _), ⟨⟨by show i + 1 ≤ _; omega, hO9, hh9⟩, (hf.head (by repeat' (first | exact True.intro | refine And.intro rfl ?_)) (Keep.cons rfl (Keep.cons rfl (Keep.cons rfl (Keep.cons rfl (Keep.cons rfl (Keep.cons rfl (Keep.cons rfl (Keep.cons rfl (Keep.cons rfl (Keep.cons rfl (Keep.cons rfl (Keep.cons rfl (Keep.cons rfl (Keep.cons rfl (Keep.cons rfl (Keep.cons rfl (Keep.cons rfl (Keep.app rfl (Keep.rm rfl Keep.base))))))))))))))))))))⟩, by show _ - (i + 1) < _; omega⟩
   ·have hG2 := hg2; try simp only [gS] at hG2
    refine sy_exit ?_
    refine then_e ?_
    refine then_e ?_
    refine blk_e ?_
    refine then_n ?_
    refine sy_sq ?_
    refine o_v hf hh (yv_move rfl) ?_; clear hf a; intro a hf
    refine o_v hf hh (yv_assign rfl) ?_; clear hf a; intro a hf
    refine o_end ?_
    refine sy_ret ?_
    refine ret_r hf rfl rfl ?_
    obtain rfl : i = c.pr.th.length := by omega
    obtain ⟨oa, cap, rfl, -, hI⟩ := own_ixP hOw (w := w) hh.get
    exact ⟨oa, cap, rfl, hI, hh.ext⟩
end Go.Proofs.YtccpgpnekoncoaaGreatDoor

