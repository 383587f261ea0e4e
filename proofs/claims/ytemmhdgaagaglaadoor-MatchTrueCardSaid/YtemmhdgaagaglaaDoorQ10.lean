/- Lemmas, in order: Shift, Ask. Shift. Ask.. -/
import Derived.Test.YtemmhdgaagaglaaDoorQ9
namespace Go.Proofs.YtemmhdgaagaglaaDoor
open Go Go.Sy Go.MatM
theorem bit_has (s n : Nat) : decide ((((s >>> n &&& 1 : Nat)) : Int) = 1) = s.testBit n := by
  rw [Nat.testBit, Nat.and_comm]
  have h : s >>> n &&& 1 = s >>> n % 2 := Nat.and_one_is_mod _
  rw [Nat.and_comm] at h
  rw [h]
  rcases Nat.mod_two_eq_zero_or_one (s >>> n) with e | e <;> rw [e] <;> rfl
theorem c55 (s n : Nat) (hs : s < 65536) (hn : n ≤ 60) (w : World) : Calls Tryd.prog 55 #[.int .i64 s, .int .i64 n] w (Ret fun v w' => v = .bool (s.testBit n) ∧ Ext [] w w') := by
  refine calls_of Tryd.func55 rfl rfl (fun a hf => ?_)
  have hh := Hp.init w []
  have hle : s >>> n ≤ s := Nat.shiftRight_le s n
  obtain ⟨z, hz⟩ : ∃ z, z = s >>> n := ⟨_, rfl⟩
  rw [← hz] at hle
  refine sy_sq ?_
  refine o_v hf hh (yv_assign rfl) ?_; clear hf a; intro a hf
  refine o_end ?_
  refine sy_sq ?_
  refine o_v hf hh (yv_move rfl) ?_; clear hf a; intro a hf
  refine o_v hf hh (yv_move rfl) ?_; clear hf a; intro a hf
  refine ops_v hf hh (yv_cast (yv_shrx (.inl rfl) rfl rfl (by omega) (by omega) (by omega)) (intv (b := ((z : Nat) : Int)) (by rw [Int.toNat_natCast, Int.toNat_natCast, hz]))) (.inl rfl) rfl rfl rfl ?_; clear hf a; intro a hf
  refine ops_v hf hh (yv_cast (yv_and (.inl rfl) rfl rfl (by omega) (by simp only [IntKind.top]; omega) (by omega) (by simp only [IntKind.top]; omega)) (intv (b := ((z &&& 1 : Nat) : Int)) (by rw [Int.toNat_natCast]; rfl))) (.inl rfl) rfl rfl rfl ?_; clear hf a; intro a hf
  refine o_v hf hh (yv_bin rfl rfl rfl) ?_; clear hf a; intro a hf
  refine o_v hf hh (yv_assign rfl) ?_; clear hf a; intro a hf
  refine o_end ?_
  refine sy_ret ?_
  refine ret_r hf rfl rfl ?_
  exact ⟨congrArg Value.bool (by rw [hz]; exact bit_has s n), hh.ext⟩
theorem c57n (lo hi : Int) (Be : Nat) (u : World) (hb : u.heap[Be]? = some (.cells (endsC none) 91 (0, 0))) : Calls Tryd.prog 57 #[ptr Be 0, .int .i64 lo, .int .i64 hi] u
    (Ret fun v w' => Hp u [Be] [(Be, .cells (endsC (endsA none (lo, hi))) 91)] w') := by
  refine calls_of Tryd.func57 rfl rfl (fun a hf => ?_)
  have hh := Hp.init1 hb
  refine sy_seq ?_
  refine sy_sq ?_
  refine o_v hf hh (yv_move rfl) ?_; clear hf a; intro a hf
  refine o_v hf hh (yv_nilCheck rfl) ?_; clear hf a; intro a hf
  refine o_v hf hh (yv_fieldAddr Tryd.fo_91_2 rfl) ?_; clear hf a; intro a hf
  refine o_v hf hh (y_ld Tryd.sc_4 rfl) ?_; clear hf a; intro a hf
  refine o_v hf hh (yv_not rfl) ?_; clear hf a; intro a hf
  refine o_end ?_
  refine c_t hf ?_
  refine sy_ops ?_
  refine o_v hf hh (yv_move rfl) ?_; clear hf a; intro a hf
  refine o_v hf hh (yv_move rfl) ?_; clear hf a; intro a hf
  refine o_v hf hh (yv_move rfl) ?_; clear hf a; intro a hf
  refine o_v hf hh (yv_move rfl) ?_; clear hf a; intro a hf
  refine o_v hf hh (yv_move rfl) ?_; clear hf a; intro a hf
  refine o_v hf hh (yv_nilCheck rfl) ?_; clear hf a; intro a hf
  refine o_v hf hh (yv_fieldAddr Tryd.fo_91_0 rfl) ?_; clear hf a; intro a hf
  refine o_store hf hh Tryd.sz_3 fun w hh => ?_
  refine o_v hf hh (yv_nilCheck rfl) ?_; clear hf a; intro a hf
  refine o_v hf hh (yv_fieldAddr Tryd.fo_91_1 rfl) ?_; clear hf a; intro a hf
  refine o_store hf hh Tryd.sz_3 fun w hh => ?_
  refine o_v hf hh (yv_nilCheck rfl) ?_; clear hf a; intro a hf
  refine o_v hf hh (yv_fieldAddr Tryd.fo_91_2 rfl) ?_; clear hf a; intro a hf
  refine o_store hf hh Tryd.sz_4 fun w hh => ?_
  refine o_end ?_
  refine sy_tree1 (.p 0 (.p 1 (.p 2 (.p 3 (.p 4 (.q 0 5 (.p 6 (.p 7 (.p 8 (.p 9 (.p 10 (.q 0 11 (.p 12 (.p 13 (.p 14 (.p 15 (.e1 16 (.p 17 (.p 18 (.e1 19 (.fin))))))))))))))))))))) [16, 19] Tryd.follows (by kernel_rfl) hh (fun w hh => ?_)
  refine mc_p rfl   hf (yv_move rfl) (.inl rfl) rfl rfl ?_; clear hf a; intro a hf
  refine mc_p rfl   hf (yv_move rfl) (.inl rfl) rfl rfl ?_; clear hf a; intro a hf
  refine mc_p rfl   hf (yv_move rfl) (.inl rfl) rfl rfl ?_; clear hf a; intro a hf
  refine mc_p rfl   hf (yv_nilCheck rfl) (.inl rfl) rfl rfl ?_; clear hf a; intro a hf
  refine mc_p rfl   hf (yv_fieldAddr Tryd.fo_91_0 rfl) (.inl rfl) rfl rfl ?_; clear hf a; intro a hf
  refine mc_q rfl rfl hh hf (y_ld Tryd.sc_3 rfl) (.inl rfl) rfl rfl ?_; clear hf a; intro a hf
  refine mc_p rfl   hf (yv_move rfl) (.inl rfl) rfl rfl ?_; clear hf a; intro a hf
  refine mc_p rfl   hf (yv_min rfl rfl) (.inl rfl) rfl rfl ?_; clear hf a; intro a hf
  refine mc_p rfl   hf (yv_move rfl) (.inl rfl) rfl rfl ?_; clear hf a; intro a hf
  refine mc_p rfl   hf (yv_nilCheck rfl) (.inl rfl) rfl rfl ?_; clear hf a; intro a hf
  refine mc_p rfl   hf (yv_fieldAddr Tryd.fo_91_1 rfl) (.inl rfl) rfl rfl ?_; clear hf a; intro a hf
  refine mc_q rfl rfl hh hf (y_ld Tryd.sc_3 rfl) (.inl rfl) rfl rfl ?_; clear hf a; intro a hf
  refine mc_p rfl   hf (yv_move rfl) (.inl rfl) rfl rfl ?_; clear hf a; intro a hf
  refine mc_p rfl   hf (yv_max rfl rfl) (.inl rfl) rfl rfl ?_; clear hf a; intro a hf
  refine mc_p rfl   hf (yv_nilCheck rfl) (.inl rfl) rfl rfl ?_; clear hf a; intro a hf
  refine mc_p rfl   hf (yv_fieldAddr Tryd.fo_91_0 rfl) (.inl rfl) rfl rfl ?_; clear hf a; intro a hf
  refine mc_e rfl fun Q1 => ?_
  refine o_store hf hh Tryd.sz_3 fun w hh => ?_
  refine ops_end ?_
  refine then_n ⟨⟨fun h => Bool.noConfusion (show true = false from h), trivial⟩, ?_⟩
  refine mc_p rfl   hf (yv_nilCheck rfl) (.inl rfl) rfl rfl ?_; clear hf a; intro a hf
  refine mc_p rfl   hf (yv_fieldAddr Tryd.fo_91_1 rfl) (.inl rfl) rfl rfl ?_; clear hf a; intro a hf
  refine mc_e rfl fun Q1 => ?_
  refine o_store hf hh Tryd.sz_3 fun w hh => ?_
  refine ops_end ?_
  refine then_n ⟨⟨fun h => Bool.noConfusion (show true = false from h), trivial⟩, ?_⟩
  refine mc_end ?_
  refine ret_n hf rfl rfl ?_
  rw [show endsA none (lo, hi) = some (lo, hi) from rfl]
  have e1 : min lo lo = lo := by omega
  have e2 : max hi hi = hi := by omega
  rw [e1, e2] at hh
  exact hh
theorem c57s (lo hi x y : Int) (Be : Nat) (u : World) (hb : u.heap[Be]? = some (.cells (endsC (some (x, y))) 91 (0, 0))) : Calls Tryd.prog 57 #[ptr Be 0, .int .i64 lo, .int .i64 hi] u
    (Ret fun v w' => Hp u [Be] [(Be, .cells (endsC (endsA (some (x, y)) (lo, hi))) 91)] w') := by
  refine calls_of Tryd.func57 rfl rfl (fun a hf => ?_)
  have hh := Hp.init1 hb
  refine sy_seq ?_
  refine sy_sq ?_
  refine o_v hf hh (yv_move rfl) ?_; clear hf a; intro a hf
  refine o_v hf hh (yv_nilCheck rfl) ?_; clear hf a; intro a hf
  refine o_v hf hh (yv_fieldAddr Tryd.fo_91_2 rfl) ?_; clear hf a; intro a hf
  refine o_v hf hh (y_ld Tryd.sc_4 rfl) ?_; clear hf a; intro a hf
  refine o_v hf hh (yv_not rfl) ?_; clear hf a; intro a hf
  refine o_end ?_
  refine c_f hf ?_
  refine sy_skip ?_
  refine then_n ?_
  refine sy_tree1 (.p 0 (.p 1 (.p 2 (.p 3 (.p 4 (.q 0 5 (.p 6 (.p 7 (.p 8 (.p 9 (.p 10 (.q 0 11 (.p 12 (.p 13 (.p 14 (.p 15 (.e1 16 (.p 17 (.p 18 (.e1 19 (.fin))))))))))))))))))))) [16, 19] Tryd.follows (by kernel_rfl) hh (fun w hh => ?_)
  refine mc_p rfl   hf (yv_move rfl) (.inl rfl) rfl rfl ?_; clear hf a; intro a hf
  refine mc_p rfl   hf (yv_move rfl) (.inl rfl) rfl rfl ?_; clear hf a; intro a hf
  refine mc_p rfl   hf (yv_move rfl) (.inl rfl) rfl rfl ?_; clear hf a; intro a hf
  refine mc_p rfl   hf (yv_nilCheck rfl) (.inl rfl) rfl rfl ?_; clear hf a; intro a hf
  refine mc_p rfl   hf (yv_fieldAddr Tryd.fo_91_0 rfl) (.inl rfl) rfl rfl ?_; clear hf a; intro a hf
  refine mc_q rfl rfl hh hf (y_ld Tryd.sc_3 rfl) (.inl rfl) rfl rfl ?_; clear hf a; intro a hf
  refine mc_p rfl   hf (yv_move rfl) (.inl rfl) rfl rfl ?_; clear hf a; intro a hf
  refine mc_p rfl   hf (yv_min rfl rfl) (.inl rfl) rfl rfl ?_; clear hf a; intro a hf
  refine mc_p rfl   hf (yv_move rfl) (.inl rfl) rfl rfl ?_; clear hf a; intro a hf
  refine mc_p rfl   hf (yv_nilCheck rfl) (.inl rfl) rfl rfl ?_; clear hf a; intro a hf
  refine mc_p rfl   hf (yv_fieldAddr Tryd.fo_91_1 rfl) (.inl rfl) rfl rfl ?_; clear hf a; intro a hf
  refine mc_q rfl rfl hh hf (y_ld Tryd.sc_3 rfl) (.inl rfl) rfl rfl ?_; clear hf a; intro a hf
  refine mc_p rfl   hf (yv_move rfl) (.inl rfl) rfl rfl ?_; clear hf a; intro a hf
  refine mc_p rfl   hf (yv_max rfl rfl) (.inl rfl) rfl rfl ?_; clear hf a; intro a hf
  refine mc_p rfl   hf (yv_nilCheck rfl) (.inl rfl) rfl rfl ?_; clear hf a; intro a hf
  refine mc_p rfl   hf (yv_fieldAddr Tryd.fo_91_0 rfl) (.inl rfl) rfl rfl ?_; clear hf a; intro a hf
  refine mc_e rfl fun Q1 => ?_
  refine o_store hf hh Tryd.sz_3 fun w hh => ?_
  refine ops_end ?_
  refine then_n ⟨⟨fun h => Bool.noConfusion (show true = false from h), trivial⟩, ?_⟩
  refine mc_p rfl   hf (yv_nilCheck rfl) (.inl rfl) rfl rfl ?_; clear hf a; intro a hf
  refine mc_p rfl   hf (yv_fieldAddr Tryd.fo_91_1 rfl) (.inl rfl) rfl rfl ?_; clear hf a; intro a hf
  refine mc_e rfl fun Q1 => ?_
  refine o_store hf hh Tryd.sz_3 fun w hh => ?_
  refine ops_end ?_
  refine then_n ⟨⟨fun h => Bool.noConfusion (show true = false from h), trivial⟩, ?_⟩
  refine mc_end ?_
  refine ret_n hf rfl rfl ?_
  exact hh
theorem c57 (lo hi : Int) (o : Option (Int × Int)) (Be : Nat) (u : World) (hb : u.heap[Be]? = some (.cells (endsC o) 91 (0, 0))) : Calls Tryd.prog 57 #[ptr Be 0, .int .i64 lo, .int .i64 hi] u
    (Ret fun v w' => Hp u [Be] [(Be, .cells (endsC (endsA o (lo, hi))) 91)] w') := by
  match o, hb with
  | none, hb => exact c57n lo hi Be u hb
  | some (x, y), hb => exact c57s lo hi x y Be u hb
theorem c56 (d : RowsD) (sa sb : Option Addr) (ca cb : Nat) (F : Nat → Nat → Bool) (rb i k : Nat) (u : World) (hO : RowO u rb d sa sb ca cb F) (hA : MkAt u sa d.l) (hB : MkAt u sb d.r) (hV : Valid d) (hi : i < d.l.length) (hk : k < d.r.length) :
    Calls Tryd.prog 56 #[ptr rb 0, .int .i64 i, .int .i64 k] u (Ret fun v w' => v = .agg #[.int .i64 (shiftD d i k).1, .int .i64 (shiftD d i k).2] ∧ Ext [] u w') := by
  refine calls_of Tryd.func56 rfl rfl (fun a hf => ?_)
  have hh := Hp.init u []
  obtain ⟨⟨rs, hb, hcs⟩, hnl, hnr⟩ := hO
  have c0 := hcs.l; have c1 := hcs.r; have c2 := hcs.lo; have c3 := hcs.hi
  obtain ⟨x, hx⟩ := ex_of hi
  obtain ⟨y, hy⟩ := ex_of hk
  obtain ⟨blk, off, cc, Tx, fr, ex, hbx, hcx⟩ := hA i x hx
  obtain ⟨blk2, off2, cc2, Ty, fr2, ey, hby, hcy⟩ := hB k y hy
  have hg := cellsAt_get 4 _ _ hcx; have hg2 := cellsAt_get 4 _ _ hcy
  have hx1 : cellsAt cc (off + ((i : Nat) : Int).toNat * 4 + 0) 2 = some [.int .i64 x.al, .int .i64 x.ah] := by
    have e0 := hg.2 0 _ rfl; have e1 := hg.2 1 _ rfl
    simp only [Int.toNat_natCast, Nat.add_zero] at *
    simp [cellsAt, e0, e1]
  have hy1 : cellsAt cc2 (off2 + ((k : Nat) : Int).toNat * 4 + 0) 2 = some [.int .i64 y.al, .int .i64 y.ah] := by
    have e0 := hg2.2 0 _ rfl; have e1 := hg2.2 1 _ rfl
    simp only [Int.toNat_natCast, Nat.add_zero] at *
    simp [cellsAt, e0, e1]
  have hox := okM_iff.1 (hV.ml x (List.mem_of_getElem? hx))
  have hoy := okM_iff.1 (hV.mr y (List.mem_of_getElem? hy))
  have hc23 : cellsAt rs (0 + 0 + 2) 2 = some [.int .i64 d.lo, .int .i64 d.hi] := by simp [cellsAt, c2, c3]
  rw [shiftD_eq hx hy]
  refine sy_sq ?_
  refine o_alloc hf hh Tryd.ze_24 ?_; clear hf hh a; intro B6 a w hf hh
  refine o_end ?_
  refine sy_seq ?_
  refine sy_tree1 (.p 0 (.p 1 (.p 2 (.p 3 (.q 0 4 (.p 5 (.p 6 (.p 7 (.q 0 8 (.p 9 (.p 10 (.p 11 (.p 12 (.q 0 13 (.p 14 (.p 15 (.p 16 (.q 0 17 (.e2 18 (.e1 19 (.e1 20 (.e1 21 (.fin)))) 19 (.e1 18 (.e1 20 (.e1 21 (.fin))))))))))))))))))))))) [] Tryd.follows (by kernel_rfl) hh (fun w hh => ?_)
  refine mc_p rfl   hf (yv_move rfl) (.inl rfl) rfl rfl ?_; clear hf a; intro a hf
  refine mc_p rfl   hf (yv_nilCheck rfl) (.inl rfl) rfl rfl ?_; clear hf a; intro a hf
  refine mc_p rfl   hf (yv_fieldAddr Tryd.fo_73_0 rfl) (.inl rfl) rfl rfl ?_; clear hf a; intro a hf
  refine mc_p rfl   hf (yv_fieldAddr Tryd.fo_26_0 rfl) (.inl rfl) rfl rfl ?_; clear hf a; intro a hf
  refine mc_q rfl rfl hh hf (y_ld Tryd.sc_22 rfl) (.inl rfl) rfl rfl ?_; clear hf a; intro a hf
  refine mc_p rfl   hf (yv_move rfl) (.inl rfl) rfl rfl ?_; clear hf a; intro a hf
  refine mc_p rfl hf (y_ix (b := blk) (off := off) Tryd.se_22 (congrArg (fun z => some (Value.slice z d.l.length ca)) ex) rfl) (.inl rfl) rfl rfl ?_; clear hf a; intro a hf
  refine mc_p rfl   hf (yv_fieldAddr Tryd.fo_53_0 rfl) (.inl rfl) rfl rfl ?_; clear hf a; intro a hf
  refine mc_q rfl rfl hh hf (y_lds Tryd.ag_24 rfl) (.inl rfl) rfl rfl ?_; clear hf a; intro a hf
  refine mc_p rfl   hf (yv_move rfl) (.inl rfl) rfl rfl ?_; clear hf a; intro a hf
  refine mc_p rfl   hf (yv_nilCheck rfl) (.inl rfl) rfl rfl ?_; clear hf a; intro a hf
  refine mc_p rfl   hf (yv_fieldAddr Tryd.fo_73_0 rfl) (.inl rfl) rfl rfl ?_; clear hf a; intro a hf
  refine mc_p rfl   hf (yv_fieldAddr Tryd.fo_26_1 rfl) (.inl rfl) rfl rfl ?_; clear hf a; intro a hf
  refine mc_q rfl rfl hh hf (y_ld Tryd.sc_22 rfl) (.inl rfl) rfl rfl ?_; clear hf a; intro a hf
  refine mc_p rfl   hf (yv_move rfl) (.inl rfl) rfl rfl ?_; clear hf a; intro a hf
  refine mc_p rfl hf (y_ix (b := blk2) (off := off2) Tryd.se_22 (congrArg (fun z => some (Value.slice z d.r.length cb)) ey) rfl) (.inl rfl) rfl rfl ?_; clear hf a; intro a hf
  refine mc_p rfl   hf (yv_fieldAddr Tryd.fo_53_0 rfl) (.inl rfl) rfl rfl ?_; clear hf a; intro a hf
  refine mc_q rfl rfl hh hf (y_lds Tryd.ag_24 rfl) (.inl rfl) rfl rfl ?_; clear hf a; intro a hf
  refine ⟨?_, ?_⟩
  ·refine mc_e rfl fun Q1 => ?_
   refine o_alloc hf hh Tryd.ze_24 ?_; clear hf hh a; intro B7 a w hf hh
   refine ops_end ?_
   refine then_n ⟨⟨fun _ _ => (hh.less (.cons _ (List.Sublist.refl _))), trivial⟩, ?_⟩
   refine mc_e rfl fun Q1 => ?_
   refine o_alloc hf hh Tryd.ze_24 ?_; clear hf hh a; intro B8 a w hf hh
   refine ops_end ?_
   refine then_n ⟨⟨fun _ _ => (hh.less (.cons _ (.cons _ (List.Sublist.refl _)))), trivial⟩, ?_⟩
   refine mc_e rfl fun Q1 => ?_
   refine o_store hf hh Tryd.sz_24 fun w hh => ?_
   refine ops_end ?_
   refine then_n ⟨⟨fun _ _ => (hh.less (.cons _ (.cons _ (List.Sublist.refl _)))), trivial⟩, ?_⟩
   refine mc_e rfl fun Q1 => ?_
   refine o_store hf hh Tryd.sz_24 fun w hh => ?_
   refine ops_end ?_
   refine then_n ⟨⟨fun _ _ => (hh.less (.cons _ (.cons _ (List.Sublist.refl _)))), trivial⟩, ?_⟩
   refine mc_end ?_
   refine then_n ?_
   refine sy_seq ?_
   refine sy_tree1 (.p 0 (.q 0 1 (.p 2 (.q 0 3 (.p 4 (.p 5 (.q 0 6 (.p 7 (.q 0 8 (.p 9 (.p 10 (.p 11 (.p 12 (.p 13 (.p 14 (.q 0 15 (.e1 16 (.e1 17 (.fin))))))))))))))))))) [17] Tryd.follows (by kernel_rfl) hh (fun w hh => ?_)
   refine mc_p rfl   hf (yv_fieldAddr Tryd.fo_24_0 rfl) (.inl rfl) rfl rfl ?_; clear hf a; intro a hf
   refine mc_q rfl rfl hh hf (y_ld Tryd.sc_3 rfl) (.inl rfl) rfl rfl ?_; clear hf a; intro a hf
   refine mc_p rfl   hf (yv_fieldAddr Tryd.fo_24_1 rfl) (.inl rfl) rfl rfl ?_; clear hf a; intro a hf
   refine mc_q rfl rfl hh hf (y_ld Tryd.sc_3 rfl) (.inl rfl) rfl rfl ?_; clear hf a; intro a hf
   refine mc_p rfl   hf (y_sub rfl rfl) (.inl rfl) rfl rfl ?_; clear hf a; intro a hf
   refine mc_p rfl   hf (yv_fieldAddr Tryd.fo_24_1 rfl) (.inl rfl) rfl rfl ?_; clear hf a; intro a hf
   refine mc_q rfl rfl hh hf (y_ld Tryd.sc_3 rfl) (.inl rfl) rfl rfl ?_; clear hf a; intro a hf
   refine mc_p rfl   hf (yv_fieldAddr Tryd.fo_24_0 rfl) (.inl rfl) rfl rfl ?_; clear hf a; intro a hf
   refine mc_q rfl rfl hh hf (y_ld Tryd.sc_3 rfl) (.inl rfl) rfl rfl ?_; clear hf a; intro a hf
   refine mc_p rfl   hf (y_sub rfl rfl) (.inl rfl) rfl rfl ?_; clear hf a; intro a hf
   refine mc_p rfl   hf (yv_buildS Tryd.bs_24 rfl rfl) (.inl rfl) rfl rfl ?_; clear hf a; intro a hf
   refine mc_p rfl   hf (yv_move rfl) (.inl rfl) rfl rfl ?_; clear hf a; intro a hf
   refine mc_p rfl   hf (yv_nilCheck rfl) (.inl rfl) rfl rfl ?_; clear hf a; intro a hf
   refine mc_p rfl   hf (yv_fieldAddr Tryd.fo_73_0 rfl) (.inl rfl) rfl rfl ?_; clear hf a; intro a hf
   refine mc_p rfl   hf (yv_fieldAddr Tryd.fo_26_2 rfl) (.inl rfl) rfl rfl ?_; clear hf a; intro a hf
   refine mc_q rfl rfl hh hf (y_lds Tryd.ag_24 rfl) (.inl rfl) rfl rfl ?_; clear hf a; intro a hf
   refine mc_e rfl fun Q1 => ?_
   refine o_call hf Tryd.en_85 rfl rfl rfl (c85 _ _ _ _ _) ?_; clear hf a; intro v a w hR hf
   obtain ⟨rfl, hx⟩ := hR; replace hh := hh.more hx; clear hx
   refine ops_end ?_
   refine then_n ⟨⟨fun _ _ => hh, trivial⟩, ?_⟩
   refine mc_e rfl fun Q1 => ?_
   refine o_store hf hh Tryd.sz_24 fun w hh => ?_
   refine ops_end ?_
   refine then_n ⟨⟨fun h => Bool.noConfusion (show true = false from h), trivial⟩, ?_⟩
   refine mc_end ?_
   refine then_n ?_
   refine sy_ret ?_
   refine ret_c (vs := [.agg #[.int .i64 (max (x.al - y.ah) d.lo), .int .i64 (min (x.ah - y.al) d.hi)]]) hf ?_ ?_
   · exact ⟨⟨B6, 0, _, _, _, rfl, hh.at (i := 2) rfl, .inr ⟨2, _, Tryd.ag_24, rfl, rfl⟩⟩, True.intro⟩
   · exact ⟨rfl, hh.ext⟩
  ·refine mc_e rfl fun Q1 => ?_
   refine o_alloc hf hh Tryd.ze_24 ?_; clear hf hh a; intro B8 a w hf hh
   refine ops_end ?_
   refine then_n ⟨⟨fun _ _ => (hh.less (.cons _ (List.Sublist.refl _))), trivial⟩, ?_⟩
   refine mc_e rfl fun Q1 => ?_
   refine o_alloc hf hh Tryd.ze_24 ?_; clear hf hh a; intro B7 a w hf hh
   refine ops_end ?_
   refine then_n ⟨⟨fun _ _ => (hh.less (.cons _ (.cons _ (List.Sublist.refl _)))), trivial⟩, ?_⟩
   refine mc_e rfl fun Q1 => ?_
   refine o_store hf hh Tryd.sz_24 fun w hh => ?_
   refine ops_end ?_
   refine then_n ⟨⟨fun _ _ => (hh.less (.cons _ (.cons _ (List.Sublist.refl _)))), trivial⟩, ?_⟩
   refine mc_e rfl fun Q1 => ?_
   refine o_store hf hh Tryd.sz_24 fun w hh => ?_
   refine ops_end ?_
   refine then_n ⟨⟨fun _ _ => (hh.less (.cons _ (.cons _ (List.Sublist.refl _)))), trivial⟩, ?_⟩
   refine mc_end ?_
   refine then_n ?_
   refine sy_seq ?_
   refine sy_tree1 (.p 0 (.q 0 1 (.p 2 (.q 0 3 (.p 4 (.p 5 (.q 0 6 (.p 7 (.q 0 8 (.p 9 (.p 10 (.p 11 (.p 12 (.p 13 (.p 14 (.q 0 15 (.e1 16 (.e1 17 (.fin))))))))))))))))))) [17] Tryd.follows (by kernel_rfl) hh (fun w hh => ?_)
   refine mc_p rfl   hf (yv_fieldAddr Tryd.fo_24_0 rfl) (.inl rfl) rfl rfl ?_; clear hf a; intro a hf
   refine mc_q rfl rfl hh hf (y_ld Tryd.sc_3 rfl) (.inl rfl) rfl rfl ?_; clear hf a; intro a hf
   refine mc_p rfl   hf (yv_fieldAddr Tryd.fo_24_1 rfl) (.inl rfl) rfl rfl ?_; clear hf a; intro a hf
   refine mc_q rfl rfl hh hf (y_ld Tryd.sc_3 rfl) (.inl rfl) rfl rfl ?_; clear hf a; intro a hf
   refine mc_p rfl   hf (y_sub rfl rfl) (.inl rfl) rfl rfl ?_; clear hf a; intro a hf
   refine mc_p rfl   hf (yv_fieldAddr Tryd.fo_24_1 rfl) (.inl rfl) rfl rfl ?_; clear hf a; intro a hf
   refine mc_q rfl rfl hh hf (y_ld Tryd.sc_3 rfl) (.inl rfl) rfl rfl ?_; clear hf a; intro a hf
   refine mc_p rfl   hf (yv_fieldAddr Tryd.fo_24_0 rfl) (.inl rfl) rfl rfl ?_; clear hf a; intro a hf
   refine mc_q rfl rfl hh hf (y_ld Tryd.sc_3 rfl) (.inl rfl) rfl rfl ?_; clear hf a; intro a hf
   refine mc_p rfl   hf (y_sub rfl rfl) (.inl rfl) rfl rfl ?_; clear hf a; intro a hf
   refine mc_p rfl   hf (yv_buildS Tryd.bs_24 rfl rfl) (.inl rfl) rfl rfl ?_; clear hf a; intro a hf
   refine mc_p rfl   hf (yv_move rfl) (.inl rfl) rfl rfl ?_; clear hf a; intro a hf
   refine mc_p rfl   hf (yv_nilCheck rfl) (.inl rfl) rfl rfl ?_; clear hf a; intro a hf
   refine mc_p rfl   hf (yv_fieldAddr Tryd.fo_73_0 rfl) (.inl rfl) rfl rfl ?_; clear hf a; intro a hf
   refine mc_p rfl   hf (yv_fieldAddr Tryd.fo_26_2 rfl) (.inl rfl) rfl rfl ?_; clear hf a; intro a hf
   refine mc_q rfl rfl hh hf (y_lds Tryd.ag_24 rfl) (.inl rfl) rfl rfl ?_; clear hf a; intro a hf
   refine mc_e rfl fun Q1 => ?_
   refine o_call hf Tryd.en_85 rfl rfl rfl (c85 _ _ _ _ _) ?_; clear hf a; intro v a w hR hf
   obtain ⟨rfl, hx⟩ := hR; replace hh := hh.more hx; clear hx
   refine ops_end ?_
   refine then_n ⟨⟨fun _ _ => hh, trivial⟩, ?_⟩
   refine mc_e rfl fun Q1 => ?_
   refine o_store hf hh Tryd.sz_24 fun w hh => ?_
   refine ops_end ?_
   refine then_n ⟨⟨fun h => Bool.noConfusion (show true = false from h), trivial⟩, ?_⟩
   refine mc_end ?_
   refine then_n ?_
   refine sy_ret ?_
   refine ret_c (vs := [.agg #[.int .i64 (max (x.al - y.ah) d.lo), .int .i64 (min (x.ah - y.al) d.hi)]]) hf ?_ ?_
   · exact ⟨⟨B6, 0, _, _, _, rfl, hh.at (i := 2) rfl, .inr ⟨2, _, Tryd.ag_24, rfl, rfl⟩⟩, True.intro⟩
   · exact ⟨rfl, hh.ext⟩
end Go.Proofs.YtemmhdgaagaglaaDoor
namespace Go.Proofs.YtemmhdgaagaglaaDoor
open Go Go.Sy Go.MatM
theorem endsC_ex (o : Option (Int × Int)) : ∃ lo hi b, endsC o = #[.int .i64 lo, .int .i64 hi, .bool b] ∧ b = o.isSome ∧ (b = true → o = some (lo, hi)) := by
  match o with
  | none => exact ⟨0, 0, false, rfl, rfl, fun h => by cases h⟩
  | some (x, y) => exact ⟨x, y, true, rfl, rfl, fun _ => rfl⟩
theorem c22 (d : RowsD) (sa sb : Option Addr) (ca cb : Nat) (u : World) (hA : MkAt u sa d.l) (hB : MkAt u sb d.r) (hln : d.l.length ≤ 1000000) (l : Int) (hl : -9223372036854775808 ≤ l ∧ l ≤ 9223372036854775807) : Calls Tryd.prog 22 #[rowsV d sa sb ca cb, .int .i64 l] u (Ret fun v w' => v = .tuple #[.agg #[.int .i64 (shiftV d l).1, .int .i64 (shiftV d l).2], .int .i64 (shiftE d l)] ∧ Ext [] u w') := by
  refine calls_of Tryd.func22 rfl rfl (fun a hf => ?_)
  have hh := Hp.init u []
  refine sy_sq ?_
  refine o_box hf hh ?_; clear hf hh a; intro B2 a w hf hh
  refine o_alloc hf hh Tryd.ze_24 ?_; clear hf hh a; intro B4 a w hf hh
  refine o_v hf hh (yv_assign rfl) ?_; clear hf a; intro a hf
  refine o_end ?_
  refine sy_seq ?_
  refine sy_tree1 (.q 0 0 (.p 1 (.p 2 (.q 0 3 (.p 4 (.p 5 (.e1 6 (.e1 7 (.p 8 (.p 9 (.p 10 (.p 11 (.p 12 (.fin)))))))))))))) [7] Tryd.follows (by kernel_rfl) hh (fun w hh => ?_)
  refine mc_q rfl rfl hh hf (y_lds Tryd.ag_26 rfl) (.inl rfl) rfl rfl ?_; clear hf a; intro a hf
  refine mc_p rfl   hf (yv_move rfl) (.inl rfl) rfl rfl ?_; clear hf a; intro a hf
  refine mc_p rfl   hf (yv_fieldAddr Tryd.fo_26_0 rfl) (.inl rfl) rfl rfl ?_; clear hf a; intro a hf
  refine mc_q rfl rfl hh hf (y_ld Tryd.sc_22 rfl) (.inl rfl) rfl rfl ?_; clear hf a; intro a hf
  refine mc_p rfl   hf (yv_len Tryd.se_22 rfl) (.inl rfl) rfl rfl ?_; clear hf a; intro a hf
  refine mc_p rfl   hf (y_sub rfl rfl) (.inl rfl) rfl rfl ?_; clear hf a; intro a hf
  refine mc_e rfl fun Q1 => ?_
  refine o_call hf Tryd.en_43 rfl rfl rfl (c43 _ _ _ _) ?_; clear hf a; intro v a w hR hf
  obtain ⟨rfl, hx⟩ := hR; replace hh := hh.more hx; clear hx
  refine ops_end ?_
  refine then_n ⟨⟨fun _ _ => hh, trivial⟩, ?_⟩
  refine mc_e rfl fun Q1 => ?_
  refine o_call hf Tryd.en_49 rfl rfl rfl (c49e d sa sb ca cb _ (hA.ext hh.ext) (hB.ext hh.ext) (leftOk d l)) ?_; clear hf a; intro v a w hR hf
  obtain ⟨p, Xp, rfl, hp0, hx⟩ := hR; replace hh := hh.join hx; clear hx
  refine ops_end ?_
  refine then_n ⟨⟨fun h => Bool.noConfusion (show true = false from h), trivial⟩, ?_⟩
  refine mc_p rfl   hf (yv_move rfl) (.inl rfl) rfl rfl ?_; clear hf a; intro a hf
  refine mc_p rfl   hf (yv_extract rfl rfl) (.inl rfl) rfl rfl ?_; clear hf a; intro a hf
  refine mc_p rfl   hf (yv_extract rfl rfl) (.inl rfl) rfl rfl ?_; clear hf a; intro a hf
  refine mc_p rfl   hf (yv_assign rfl) (.inl rfl) rfl rfl ?_; clear hf a; intro a hf
  refine mc_p rfl   hf (yv_assign rfl) (.inl rfl) rfl rfl ?_; clear hf a; intro a hf
  refine mc_end ?_
  refine then_n ?_
  refine sy_seq ?_
  refine sy_sq ?_
  refine o_v hf hh (yv_move rfl) ?_; clear hf a; intro a hf
  refine o_v hf hh (yv_bin rfl rfl rfl) ?_; clear hf a; intro a hf
  refine o_end ?_
  refine sy_cond hf rfl (fun hg6 => ?_) (fun hg6 => ?_)
  ·have hG6 := hg6; try simp only [gS] at hG6
   refine sy_seq ?_
   replace hh := hh.less (List.sublist_append_right Xp _)
   refine sy_ops ?_
   refine o_v hf hh (yv_buildS Tryd.bs_24 rfl rfl) ?_; clear hf a; intro a hf
   refine o_v hf hh (yv_move rfl) ?_; clear hf a; intro a hf
   refine o_store hf hh Tryd.sz_24 fun w hh => ?_
   refine o_v hf hh (yv_assign rfl) ?_; clear hf a; intro a hf
   refine o_end ?_
   refine sy_ret ?_
   refine then_r ?_
   refine ret_c (vs := [.agg #[.int .i64 (shiftV d l).1, .int .i64 (shiftV d l).2], .int .i64 (shiftE d l)]) hf ?_ ?_
   · have hne : ¬ opE d (leftOk d l) = 0 := by simp_all
     have eV : shiftV d l = (0, 0) := by unfold shiftV; rw [if_neg hne]
     have eE : shiftE d l = opE d (leftOk d l) := by unfold shiftE; rw [if_neg hne]
     rw [eV, eE]; exact ⟨⟨B4, 0, _, _, _, rfl, hh.at (i := 0) rfl, .inr ⟨2, _, Tryd.ag_24, rfl, rfl⟩⟩, rfl, True.intro⟩
   · exact ⟨rfl, hh.ext⟩
  ·have hG6 := hg6; try simp only [gS] at hG6
   refine sy_skip ?_
   refine then_n ?_
   refine sy_seq ?_
   have hop : opE d (leftOk d l) = 0 := by simp_all
   obtain ⟨Bo, cso, rfl, hRo, rfl⟩ := hp0 hop
   obtain ⟨hok, hlo, his⟩ := opE_zero.1 hop
   have hV := (okRows_iff d).1 hok
   have hnl := hV.nl; have hnr := hV.nr
   clear hp0
   obtain ⟨i, hil, hi⟩ : ∃ i : Nat, l = (i : Int) ∧ i < d.l.length := by
     unfold leftOk inB at hlo
     simp only [Bool.and_eq_true, decide_eq_true_eq] at hlo
     exact ⟨l.toNat, by omega, by omega⟩
   rw [hil] at hf
   have hsl := canS_lt d i
   have hp10 : 2 ^ d.r.length ≤ 2 ^ 10 := Nat.pow_le_pow_right (by omega) (by omega)
   have hE0 : shiftE d l = if (shiftO d i).isSome then 0 else 4 := by unfold shiftE; rw [if_pos hop, hil, Int.toNat_natCast]
   have hV0 : shiftV d l = (shiftO d i).getD (0, 0) := by unfold shiftV; rw [if_pos hop, hil, Int.toNat_natCast]
   refine sy_ops ?_
   refine o_alloc hf hh Tryd.ze_91 ?_; clear hf hh a; intro B8 a w hf hh
   refine o_end ?_
   refine sy_sq ?_
   refine o_v hf hh (yv_move rfl) ?_; clear hf a; intro a hf
   refine o_v hf hh (yv_move rfl) ?_; clear hf a; intro a hf
   refine o_call hf Tryd.en_54 rfl rfl rfl (c54 d sa sb ca cb (fitD d) Bo _ ⟨⟨cso, hh.get (Bo, .cells cso 73) (by simp), hRo⟩, hnl, hnr⟩ hV (fitD_FB d) i hi) ?_; clear hf a; intro v a w hR hf
   replace hR : v = .int .i64 ((canS d i : Nat) : Int) ∧ _ := hR
   obtain ⟨rfl, hx⟩ := hR; replace hh := hh.more hx; clear hx
   refine o_v hf hh (yv_assign rfl) ?_; clear hf a; intro a hf
   refine o_end ?_
   refine sy_seq ?_
   refine sy_sq ?_
   refine o_v hf hh (yv_fieldAddr Tryd.fo_26_1 rfl) ?_; clear hf a; intro a hf
   refine o_v hf hh (y_ld Tryd.sc_22 rfl) ?_; clear hf a; intro a hf
   refine o_v hf hh (yv_len Tryd.se_22 rfl) ?_; clear hf a; intro a hf
   refine o_v hf hh (yv_move rfl) ?_; clear hf a; intro a hf
   refine o_end ?_
   refine sy_block ?_
   refine sy_loopH (σ := Nat) [10, 11, 33, 34, 35, 36, 37, 38, 39, 40, 41, 42, 43, 44, 45, 46, 47, 48] (fun k => [(33, .int .i64 k)]) (fun k => fun w => k ≤ d.r.length ∧ Hp u [] [(B8, .cells (endsC (endsF (fun k => (canS d i).testBit k) (shiftD d i) k)) 91), (Bo, .cells cso 73), (B4, .cells #[.int .i64 0, .int .i64 0] 24), (B2, .cells (rowsV d sa sb ca cb).cells 26)] w) (fun k => d.r.length - k) (0) hf ?_ ?_ ?_
   · repeat' (first | exact True.intro | refine And.intro rfl ?_)
   · exact ⟨Nat.zero_le _, hh⟩
   ·rintro k a w ⟨hk, hh⟩ hf
    refine sy_sq ?_
    refine o_v hf hh (yv_bin rfl rfl rfl) ?_; clear hf a; intro a hf
    refine o_end ?_
    refine sy_seq ?_
    refine sy_cond hf rfl (fun hg9 => ?_) (fun hg9 => ?_)
    ·have hG9 := hg9; try simp only [gS] at hG9
     refine sy_skip ?_
     refine then_n ?_
     refine sy_seq ?_
     refine sy_block ?_
     refine sy_sq ?_
     refine o_v hf hh (yv_move rfl) ?_; clear hf a; intro a hf
     refine o_v hf hh (yv_assign rfl) ?_; clear hf a; intro a hf
     refine o_end ?_
     refine sy_sq ?_
     refine o_v hf hh (yv_move rfl) ?_; clear hf a; intro a hf
     refine o_v hf hh (yv_move rfl) ?_; clear hf a; intro a hf
     refine o_call hf Tryd.en_55 rfl rfl rfl (c55 (canS d i) k (by omega) (by omega) _) ?_; clear hf a; intro v a w hR hf
     obtain ⟨rfl, hx⟩ := hR; replace hh := hh.more hx; clear hx
     refine o_end ?_
     refine sy_cond hf rfl (fun hg11 => ?_) (fun hg11 => ?_)
     ·have hG11 := hg11; try simp only [gS] at hG11
      refine sy_sq ?_
      refine o_v hf hh (yv_move rfl) ?_; clear hf a; intro a hf
      refine o_v hf hh (yv_move rfl) ?_; clear hf a; intro a hf
      refine o_v hf hh (yv_move rfl) ?_; clear hf a; intro a hf
      refine o_call hf Tryd.en_56 rfl rfl rfl (c56 d sa sb ca cb (fitD d) Bo i k _ ⟨⟨cso, hh.get (Bo, .cells cso 73) (by simp), hRo⟩, hnl, hnr⟩ (hA.ext hh.ext) (hB.ext hh.ext) hV hi (by omega)) ?_; clear hf a; intro v a w hR hf
      obtain ⟨rfl, hx⟩ := hR; replace hh := hh.more hx; clear hx
      refine o_alloc hf hh Tryd.ze_24 ?_; clear hf hh a; intro B11 a w hf hh
      refine o_store hf hh Tryd.sz_24 fun w hh => ?_
      refine o_end ?_
      refine sy_ops ?_
      refine o_v hf hh (yv_fieldAddr Tryd.fo_24_0 rfl) ?_; clear hf a; intro a hf
      refine o_v hf hh (y_ld Tryd.sc_3 rfl) ?_; clear hf a; intro a hf
      refine o_v hf hh (yv_fieldAddr Tryd.fo_24_1 rfl) ?_; clear hf a; intro a hf
      refine o_v hf hh (y_ld Tryd.sc_3 rfl) ?_; clear hf a; intro a hf
      refine o_call hf Tryd.en_57 rfl rfl rfl (c57 (shiftD d i k).1 (shiftD d i k).2 (endsF (fun k => (canS d i).testBit k) (shiftD d i) k) B8 _ (hh.at (i := 1) rfl)) ?_; clear hf a; intro v a w hR hf
      replace hh := hh.turn (i := 1) rfl hR.ext (hR.at (i := 0) rfl); clear hR
      refine ops_end ?_
      refine blk_n ?_
      refine then_n ?_
      refine sy_ops ?_
      refine o_v hf hh (y_add rfl rfl) ?_; clear hf a; intro a hf
      refine o_v hf hh (yv_move rfl) ?_; clear hf a; intro a hf
      refine ops_end ?_
      refine then_n ?_
      have hst := endsF_step (p := fun k => (canS d i).testBit k) (f := shiftD d i) (n := k)
      first
        | (rw [if_pos (by assumption)] at hst
           exact ⟨k + 1, ⟨⟨by omega, by rw [hst]; exact hh.less (.cons _ (.refl _))⟩, (hf.head (by repeat' (first | exact True.intro | refine And.intro rfl ?_)) (Keep.cons rfl (Keep.cons rfl (Keep.cons rfl (Keep.cons rfl (Keep.cons rfl (Keep.cons rfl (Keep.cons rfl (Keep.cons rfl (Keep.cons rfl (Keep.cons rfl (Keep.cons rfl (Keep.cons rfl (Keep.cons rfl (Keep.cons rfl (Keep.cons rfl (Keep.cons rfl (Keep.cons rfl (Keep.cons rfl (Keep.app rfl (Keep.rm rfl Keep.base)))))))))))))))))))))⟩, by omega⟩)
        | (rw [if_neg (by simp_all)] at hst
           exact ⟨k + 1, ⟨⟨by omega, by rw [hst]; exact hh⟩, (hf.head (by repeat' (first | exact True.intro | refine And.intro rfl ?_)) (Keep.cons rfl (Keep.cons rfl (Keep.cons rfl (Keep.cons rfl (Keep.cons rfl (Keep.cons rfl (Keep.cons rfl (Keep.cons rfl (Keep.cons rfl (Keep.cons rfl (Keep.cons rfl (Keep.cons rfl (Keep.cons rfl (Keep.cons rfl (Keep.cons rfl (Keep.cons rfl (Keep.cons rfl (Keep.cons rfl (Keep.app rfl (Keep.rm rfl Keep.base)))))))))))))))))))))⟩, by omega⟩)
     ·have hG11 := hg11; try simp only [gS] at hG11
      refine sy_skip ?_
      refine blk_n ?_
      refine then_n ?_
      refine sy_ops ?_
      refine o_v hf hh (y_add rfl rfl) ?_; clear hf a; intro a hf
      refine o_v hf hh (yv_move rfl) ?_; clear hf a; intro a hf
      refine ops_end ?_
      refine then_n ?_
      have hst := endsF_step (p := fun k => (canS d i).testBit k) (f := shiftD d i) (n := k)
      first
        | (rw [if_pos (by assumption)] at hst
           exact ⟨k + 1, ⟨⟨by omega, by rw [hst]; exact hh.less (.cons _ (.refl _))⟩, (hf.head (by repeat' (first | exact True.intro | refine And.intro rfl ?_)) (Keep.cons rfl (Keep.cons rfl (Keep.cons rfl (Keep.cons rfl (Keep.cons rfl (Keep.cons rfl (Keep.cons rfl (Keep.cons rfl (Keep.app rfl (Keep.rm rfl Keep.base)))))))))))⟩, by omega⟩)
        | (rw [if_neg (by simp_all)] at hst
           exact ⟨k + 1, ⟨⟨by omega, by rw [hst]; exact hh⟩, (hf.head (by repeat' (first | exact True.intro | refine And.intro rfl ?_)) (Keep.cons rfl (Keep.cons rfl (Keep.cons rfl (Keep.cons rfl (Keep.cons rfl (Keep.cons rfl (Keep.cons rfl (Keep.cons rfl (Keep.app rfl (Keep.rm rfl Keep.base)))))))))))⟩, by omega⟩)
    ·have hG9 := hg9; try simp only [gS] at hG9
     refine sy_exit ?_
     refine then_e ?_
     refine then_e ?_
     refine blk_e ?_
     refine then_n ?_
     refine sy_seq ?_
     refine sy_seq ?_
     have hke : k = d.r.length := by omega
     subst hke
     replace hh : Hp u [] [(B8, .cells (endsC (shiftO d i)) 91), (Bo, .cells cso 73), (B4, .cells #[.int .i64 0, .int .i64 0] 24), (B2, .cells (rowsV d sa sb ca cb).cells 26)] w := hh
     obtain ⟨lo, hi2, b, e1, e2, e3⟩ := endsC_ex (shiftO d i)
     rw [e1] at hh
     refine sy_ops ?_
     refine o_v hf hh (yv_fieldAddr Tryd.fo_91_2 rfl) ?_; clear hf a; intro a hf
     refine o_v hf hh (y_ld Tryd.sc_4 rfl) ?_; clear hf a; intro a hf
     refine o_v hf hh (yv_not rfl) ?_; clear hf a; intro a hf
     refine o_end ?_
     refine sy_cond hf rfl (fun hg15 => ?_) (fun hg15 => ?_)
     ·have hG15 := hg15; try simp only [gS] at hG15
      refine sy_sq ?_
      refine o_v hf hh (yv_buildS Tryd.bs_24 rfl rfl) ?_; clear hf a; intro a hf
      refine o_store hf hh Tryd.sz_24 fun w hh => ?_
      refine o_v hf hh (yv_assign rfl) ?_; clear hf a; intro a hf
      refine o_end ?_
      refine sy_ret ?_
      refine then_r ?_
      refine ret_c (vs := [.agg #[.int .i64 (shiftV d l).1, .int .i64 (shiftV d l).2], .int .i64 (shiftE d l)]) hf ?_ ?_
      · have hs : (shiftO d i).isSome = false := by simp_all
        have eE : shiftE d l = 4 := by rw [hE0, hs]; rfl
        have eV : shiftV d l = (0, 0) := by rw [hV0]; cases h : shiftO d i <;> simp_all
        rw [eV, eE]; exact ⟨⟨B4, 0, _, _, _, rfl, hh.at (i := 2) rfl, .inr ⟨2, _, Tryd.ag_24, rfl, rfl⟩⟩, rfl, True.intro⟩
      · exact ⟨rfl, hh.ext⟩
     ·have hG15 := hg15; try simp only [gS] at hG15
      refine sy_skip ?_
      refine then_n ?_
      refine sy_sq ?_
      refine o_v hf hh (yv_fieldAddr Tryd.fo_91_0 rfl) ?_; clear hf a; intro a hf
      refine o_v hf hh (y_ld Tryd.sc_3 rfl) ?_; clear hf a; intro a hf
      refine o_v hf hh (yv_fieldAddr Tryd.fo_91_1 rfl) ?_; clear hf a; intro a hf
      refine o_v hf hh (y_ld Tryd.sc_3 rfl) ?_; clear hf a; intro a hf
      refine o_v hf hh (yv_buildS Tryd.bs_24 rfl rfl) ?_; clear hf a; intro a hf
      refine o_store hf hh Tryd.sz_24 fun w hh => ?_
      refine o_v hf hh (yv_assign rfl) ?_; clear hf a; intro a hf
      refine o_end ?_
      refine sy_ret ?_
      refine ret_c (vs := [.agg #[.int .i64 (shiftV d l).1, .int .i64 (shiftV d l).2], .int .i64 (shiftE d l)]) hf ?_ ?_
      · have hbt : b = true := by simp_all
        have e4 := e3 hbt
        have eE : shiftE d l = 0 := by rw [hE0, e4]; rfl
        have eV : shiftV d l = (lo, hi2) := by rw [hV0, e4]; rfl
        rw [eV, eE]; exact ⟨⟨B4, 0, _, _, _, rfl, hh.at (i := 2) rfl, .inr ⟨2, _, Tryd.ag_24, rfl, rfl⟩⟩, rfl, True.intro⟩
      · exact ⟨rfl, hh.ext⟩
end Go.Proofs.YtemmhdgaagaglaaDoor
namespace Go.Proofs.YtemmhdgaagaglaaDoor
open Go Go.Sy Go.MatM
theorem c61 (i p q B7 : Nat) (w : World) (h7 : w.heap[B7]? = some (.cells #[.int .i64 i] 3 (0, 0))) :
    Calls Tryd.prog 61 #[.int .i64 p, .int .i64 q, ptr B7 0] w (Ret fun v w' => v = .bool (decide (p = i)) ∧ Ext [] w w') := by
  refine calls_of Tryd.func61 rfl rfl (fun a hf => ?_)
  have hh := Hp.init w []
  refine sy_sq ?_
  refine o_v hf hh (yv_assign rfl) ?_; clear hf a; intro a hf
  refine o_end ?_
  refine sy_sq ?_
  refine o_v hf hh (yv_move rfl) ?_; clear hf a; intro a hf
  refine o_v hf hh (y_ld Tryd.sc_3 rfl) ?_; clear hf a; intro a hf
  refine o_v hf hh (yv_bin rfl rfl rfl) ?_; clear hf a; intro a hf
  refine o_v hf hh (yv_assign rfl) ?_; clear hf a; intro a hf
  refine o_end ?_
  refine sy_ret ?_
  refine ret_r hf rfl rfl ?_
  exact ⟨congrArg Value.bool (by rw [decide_eq_decide]; omega), hh.ext⟩
theorem c62 (i k p q B7 B10 : Nat) (w : World) (h7 : w.heap[B7]? = some (.cells #[.int .i64 i] 3 (0, 0))) (h10 : w.heap[B10]? = some (.cells #[.int .i64 k] 3 (0, 0))) :
    Calls Tryd.prog 62 #[.int .i64 p, .int .i64 q, ptr B7 0, ptr B10 0] w (Ret fun v w' => v = .bool (decide (p = i) && !decide (q = k)) ∧ Ext [] w w') := by
  refine calls_of Tryd.func62 rfl rfl (fun a hf => ?_)
  have hh := Hp.init w []
  refine sy_sq ?_
  refine o_v hf hh (yv_assign rfl) ?_; clear hf a; intro a hf
  refine o_end ?_
  refine sy_sq ?_
  refine o_v hf hh (yv_move rfl) ?_; clear hf a; intro a hf
  refine o_v hf hh (y_ld Tryd.sc_3 rfl) ?_; clear hf a; intro a hf
  refine o_v hf hh (yv_bin rfl rfl rfl) ?_; clear hf a; intro a hf
  refine o_v hf hh (yv_move rfl) ?_; clear hf a; intro a hf
  refine guard_split hf (t := 10) rfl (fun hg2 => ?_) (fun hg2 => ?_)
  ·have hG2 := hg2; try simp only [gS] at hG2
   refine o_v hf hh (yv_move rfl) ?_; clear hf a; intro a hf
   refine o_v hf hh (y_ld Tryd.sc_3 rfl) ?_; clear hf a; intro a hf
   refine o_v hf hh (yv_bin rfl rfl rfl) ?_; clear hf a; intro a hf
   refine o_v hf hh (y_pt rfl rfl) ?_; clear hf a; intro a hf
   refine o_v hf hh (yv_assign rfl) ?_; clear hf a; intro a hf
   refine o_end ?_
   refine sy_ret ?_
   refine ret_r hf rfl rfl ?_
   have hX := hh.ext
   refine ⟨congrArg Value.bool ?_, hX⟩
   clear hX hh hf
   have d3 : decide ((p : Int) = i) = decide (p = i) := by rw [decide_eq_decide]; omega
   have d4 : decide ((q : Int) = k) = decide (q = k) := by rw [decide_eq_decide]; omega
   simp only [d3, d4] at *
   clear d3 d4
   generalize decide (p = i) = x3 at *
   generalize decide (q = k) = x4 at *
   cases x3 <;> cases x4 <;> simp_all
  ·have hG2 := hg2; try simp only [gS] at hG2
   refine o_off hf ?_; clear hf a; intro a hf
   refine o_off hf ?_; clear hf a; intro a hf
   refine o_off hf ?_; clear hf a; intro a hf
   refine o_v hf hh (y_pf rfl rfl) ?_; clear hf a; intro a hf
   refine o_v hf hh (yv_assign rfl) ?_; clear hf a; intro a hf
   refine o_end ?_
   refine sy_ret ?_
   refine ret_r hf rfl rfl ?_
   have hX := hh.ext
   refine ⟨congrArg Value.bool ?_, hX⟩
   clear hX hh hf
   have d3 : decide ((p : Int) = i) = decide (p = i) := by rw [decide_eq_decide]; omega
   have d4 : decide ((q : Int) = k) = decide (q = k) := by rw [decide_eq_decide]; omega
   simp only [d3, d4] at *
   clear d3 d4
   generalize decide (p = i) = x3 at *
   generalize decide (q = k) = x4 at *
   cases x3 <;> cases x4 <;> simp_all
theorem c24 (d : RowsD) (sa sb : Option Addr) (ca cb : Nat) (u : World) (hA : MkAt u sa d.l) (hB : MkAt u sb d.r) : Calls Tryd.prog 24 #[rowsV d sa sb ca cb] u (Ret fun v w' => v = .tuple #[.int .i64 (askV d).1, .int .i64 (askV d).2, .int .i64 (askE d)] ∧ Ext [] u w') := by
  refine calls_of Tryd.func24 rfl rfl (fun a hf => ?_)
  have hh := Hp.init u []
  refine sy_sq ?_
  refine o_box hf hh ?_; clear hf hh a; intro B1 a w hf hh
  refine o_v hf hh (yv_assign rfl) ?_; clear hf a; intro a hf
  refine o_v hf hh (yv_assign rfl) ?_; clear hf a; intro a hf
  refine o_v hf hh (yv_assign rfl) ?_; clear hf a; intro a hf
  refine o_end ?_
  refine sy_sq ?_
  refine o_v hf hh (y_lds Tryd.ag_26 rfl) ?_; clear hf a; intro a hf
  refine o_call hf Tryd.en_49 rfl rfl rfl (c49e d sa sb ca cb _ (hA.ext hh.ext) (hB.ext hh.ext) true) ?_; clear hf a; intro v a w hR hf
  obtain ⟨p, Xp, rfl, hp0, hx⟩ := hR; replace hh := hh.join hx; clear hx
  refine o_v hf hh (yv_move rfl) ?_; clear hf a; intro a hf
  refine o_v hf hh (yv_extract rfl rfl) ?_; clear hf a; intro a hf
  refine o_v hf hh (yv_extract rfl rfl) ?_; clear hf a; intro a hf
  refine o_v hf hh (yv_assign rfl) ?_; clear hf a; intro a hf
  refine o_v hf hh (yv_assign rfl) ?_; clear hf a; intro a hf
  refine o_end ?_
  refine sy_seq ?_
  refine sy_sq ?_
  refine o_v hf hh (yv_move rfl) ?_; clear hf a; intro a hf
  refine o_v hf hh (yv_bin rfl rfl rfl) ?_; clear hf a; intro a hf
  refine o_end ?_
  refine sy_cond hf rfl (fun hg5 => ?_) (fun hg5 => ?_)
  ·have hG5 := hg5; try simp only [gS] at hG5
   refine sy_sq ?_
   refine o_v hf hh (yv_move rfl) ?_; clear hf a; intro a hf
   refine o_v hf hh (yv_assign rfl) ?_; clear hf a; intro a hf
   refine o_v hf hh (yv_assign rfl) ?_; clear hf a; intro a hf
   refine o_v hf hh (yv_assign rfl) ?_; clear hf a; intro a hf
   refine o_end ?_
   refine sy_ret ?_
   refine then_r ?_
   refine ret_r hf rfl rfl ?_
   have hne : ¬ opE d true = 0 := by simp_all
   have eE : askE d = opE d true := by unfold askE; rw [if_neg hne]
   have eV : askV d = (0, 0) := by unfold askV; rw [if_neg (by rw [eE]; exact hne)]
   exact ⟨by rw [eE, eV]; rfl, hh.ext⟩
  ·have hG5 := hg5; try simp only [gS] at hG5
   refine sy_skip ?_
   refine then_n ?_
   refine sy_seq ?_
   have hop : opE d true = 0 := by simp_all
   obtain ⟨Bo, cso, rfl, hRo, rfl⟩ := hp0 hop
   obtain ⟨hok, _, his⟩ := opE_zero.1 hop
   have hV := (okRows_iff d).1 hok
   have hnl := hV.nl; have hnr := hV.nr
   clear hp0
   have hE0 : askE d = if cnt (fitD d) d.l.length d.r.length 0 0 (need d) = 1 then 4 else 0 := by unfold askE; rw [if_pos hop]
   have hcl := cnt_le (F := fitD d) (i := 0) (k := 0) (n := need d) hnl hnr
   have hhl : ∀ i, 0 ≤ hidN d i ∧ hidN d i ≤ 1048576 := fun i => by
     have h := cnt_le (F := fun a b => fitD d a b && !decide (a = i)) (i := 0) (k := 0) (n := need d) hnl hnr
     unfold hidN; omega
   have hel : ∀ i k, 0 ≤ eitN d i k ∧ eitN d i k ≤ 1048576 := fun i k => by
     have h := cnt_le (F := fun a b => fitD d a b && !(decide (a = i) && !decide (b = k))) (i := 0) (k := 0) (n := need d) hnl hnr
     unfold eitN; omega
   refine sy_ops ?_
   refine o_v hf hh (yv_move rfl) ?_; clear hf a; intro a hf
   refine o_call hf Tryd.en_47 rfl rfl rfl (c47 d sa sb ca cb (fitD d) Bo _ ⟨⟨cso, hh.get (Bo, .cells cso 73) (by simp), hRo⟩, hnl, hnr⟩ hV) ?_; clear hf a; intro v a w hR hf
   obtain ⟨rfl, hx⟩ := hR; replace hh := hh.more hx; clear hx
   refine o_v hf hh (yv_assign rfl) ?_; clear hf a; intro a hf
   refine o_end ?_
   refine sy_seq ?_
   refine sy_sq ?_
   refine o_v hf hh (yv_move rfl) ?_; clear hf a; intro a hf
   refine o_v hf hh (yv_bin rfl rfl rfl) ?_; clear hf a; intro a hf
   refine o_end ?_
   refine sy_cond hf rfl (fun hg8 => ?_) (fun hg8 => ?_)
   ·have hG8 := hg8; try simp only [gS] at hG8
    refine sy_sq ?_
    refine o_v hf hh (yv_assign rfl) ?_; clear hf a; intro a hf
    refine o_v hf hh (yv_assign rfl) ?_; clear hf a; intro a hf
    refine o_v hf hh (yv_assign rfl) ?_; clear hf a; intro a hf
    refine o_end ?_
    refine sy_ret ?_
    refine then_r ?_
    refine ret_r hf rfl rfl ?_
    have eE : askE d = 4 := by rw [hE0, if_pos (by omega)]
    have eV : askV d = (0, 0) := by unfold askV; rw [if_neg (by rw [eE]; decide)]
    exact ⟨by rw [eE, eV]; rfl, hh.ext⟩
   ·have hG8 := hg8; try simp only [gS] at hG8
    refine sy_skip ?_
    refine then_n ?_
    refine sy_sq ?_
    refine o_v hf hh (yv_move rfl) ?_; clear hf a; intro a hf
    refine o_v hf hh (y_add rfl rfl) ?_; clear hf a; intro a hf
    refine o_v hf hh (yv_assign rfl) ?_; clear hf a; intro a hf
    refine o_end ?_
    refine sy_seq ?_
    refine sy_sq ?_
    refine o_v hf hh (yv_fieldAddr Tryd.fo_26_0 rfl) ?_; clear hf a; intro a hf
    refine o_v hf hh (y_ld Tryd.sc_22 rfl) ?_; clear hf a; intro a hf
    refine o_v hf hh (yv_len Tryd.se_22 rfl) ?_; clear hf a; intro a hf
    refine o_v hf hh (yv_move rfl) ?_; clear hf a; intro a hf
    refine o_end ?_
    refine sy_block ?_
    refine sy_loopH (σ := Nat) [2, 3, 7, 8, 9, 10, 11, 29, 30, 31, 32, 33, 34, 35, 36, 37, 38, 39, 40, 41, 42, 43, 44, 45, 46, 47, 48, 49, 50, 51, 52, 53, 54, 55, 56, 57, 58] (fun i => [(2, .int .i64 (askN d i).1), (3, .int .i64 (askN d i).2), (29, .int .i64 i)]) (fun i => fun w => i ≤ d.l.length ∧ Hp u [] [(Bo, .cells cso 73), (B1, .cells (rowsV d sa sb ca cb).cells 26)] w) (fun i => d.l.length - i) (0) hf ?_ ?_ ?_
    · repeat' (first | exact True.intro | refine And.intro rfl ?_)
    · exact ⟨Nat.zero_le _, hh⟩
    ·rintro i a w ⟨hi, hh⟩ hf
     refine sy_sq ?_
     refine o_v hf hh (yv_bin rfl rfl rfl) ?_; clear hf a; intro a hf
     refine o_end ?_
     refine sy_seq ?_
     refine sy_cond hf rfl (fun hg10 => ?_) (fun hg10 => ?_)
     ·have hG10 := hg10; try simp only [gS] at hG10
      refine sy_skip ?_
      refine then_n ?_
      refine sy_seq ?_
      refine sy_block ?_
      refine sy_sq ?_
      refine o_v hf hh (yv_move rfl) ?_; clear hf a; intro a hf
      refine o_alloc hf hh Tryd.ze_3 ?_; clear hf hh a; intro B7 a w hf hh
      refine o_store hf hh Tryd.sz_3 fun w hh => ?_
      refine o_end ?_
      refine sy_seq ?_
      have hhb := hhl i
      refine sy_ops ?_
      refine o_v hf hh (yv_move rfl) ?_; clear hf a; intro a hf
      refine o_v hf hh (yv_makeFunc rfl rfl) ?_; clear hf a; intro a hf
      refine o_call hf Tryd.en_60 rfl rfl rfl (c60 d sa sb ca cb (fitD d) Bo 61 #[ptr B7 0] (fun p q => decide (p = i)) _ Tryd.en_61 ⟨⟨cso, hh.get (Bo, .cells cso 73) (by simp), hRo⟩, hnl, hnr⟩ (fun p q w' _ _ e => c61 i p q B7 w' (e.get (hh.at (i := 0) rfl))) (fitD_FB d)) ?_; clear hf a; intro v a w hR hf
      obtain ⟨Bx, csx, rfl, hRx, hx⟩ := hR; replace hh := hh.join hx; clear hx
      refine o_call hf Tryd.en_47 rfl rfl rfl (c47 d sa sb ca cb (fun x y => fitD d x y && !(fun p q => decide (p = i)) x y) Bx _ ⟨⟨csx, hh.at (i := 0) rfl, hRx⟩, hnl, hnr⟩ hV) ?_; clear hf a; intro v a w hR hf
      replace hR : v = .int .i64 (hidN d i) ∧ _ := hR
      obtain ⟨rfl, hx⟩ := hR; replace hh := hh.more hx; clear hx
      refine o_v hf hh (yv_assign rfl) ?_; clear hf a; intro a hf
      refine o_end ?_
      refine sy_sq ?_
      refine o_v hf hh (yv_move rfl) ?_; clear hf a; intro a hf
      refine o_v hf hh (yv_assign rfl) ?_; clear hf a; intro a hf
      refine o_end ?_
      refine sy_seq ?_
      refine sy_sq ?_
      refine o_v hf hh (yv_fieldAddr Tryd.fo_26_1 rfl) ?_; clear hf a; intro a hf
      refine o_v hf hh (y_ld Tryd.sc_22 rfl) ?_; clear hf a; intro a hf
      refine o_v hf hh (yv_len Tryd.se_22 rfl) ?_; clear hf a; intro a hf
      refine o_v hf hh (yv_move rfl) ?_; clear hf a; intro a hf
      refine o_end ?_
      refine sy_block ?_
      refine sy_loopH (σ := Nat) [9, 10, 11, 40, 41, 42, 43, 44, 45, 46, 47, 48, 49, 50, 51, 52] (fun k => [(9, .int .i64 (worstN d i k)), (40, .int .i64 k)]) (fun k => fun w => k ≤ d.r.length ∧ Hp u [] [(B7, .cells #[.int .i64 i] 3), (Bo, .cells cso 73), (B1, .cells (rowsV d sa sb ca cb).cells 26)] w) (fun k => d.r.length - k) (0) hf ?_ ?_ ?_
      · repeat' (first | exact True.intro | refine And.intro rfl ?_)
      · exact ⟨Nat.zero_le _, hh.less (.cons _ (List.Sublist.refl _))⟩
      ·rintro k a w ⟨hk, hh⟩ hf
       refine sy_sq ?_
       refine o_v hf hh (yv_bin rfl rfl rfl) ?_; clear hf a; intro a hf
       refine o_end ?_
       refine sy_seq ?_
       refine sy_cond hf rfl (fun hg14 => ?_) (fun hg14 => ?_)
       ·have hG14 := hg14; try simp only [gS] at hG14
        refine sy_skip ?_
        refine then_n ?_
        refine sy_seq ?_
        refine sy_block ?_
        refine sy_sq ?_
        refine o_v hf hh (yv_move rfl) ?_; clear hf a; intro a hf
        refine o_alloc hf hh Tryd.ze_3 ?_; clear hf hh a; intro B10 a w hf hh
        refine o_store hf hh Tryd.sz_3 fun w hh => ?_
        refine o_end ?_
        refine sy_seq ?_
        have heb := hel i k
        refine sy_ops ?_
        refine o_v hf hh (yv_move rfl) ?_; clear hf a; intro a hf
        refine o_v hf hh (yv_makeFunc rfl rfl) ?_; clear hf a; intro a hf
        refine o_call hf Tryd.en_60 rfl rfl rfl (c60 d sa sb ca cb (fitD d) Bo 62 #[ptr B7 0, ptr B10 0] (fun p q => decide (p = i) && !decide (q = k)) _ Tryd.en_62 ⟨⟨cso, hh.get (Bo, .cells cso 73) (by simp), hRo⟩, hnl, hnr⟩ (fun p q w' _ _ e => c62 i k p q B7 B10 w' (e.get (hh.at (i := 1) rfl)) (e.get (hh.at (i := 0) rfl))) (fitD_FB d)) ?_; clear hf a; intro v a w hR hf
        obtain ⟨Bx, csx, rfl, hRx, hx⟩ := hR; replace hh := hh.join hx; clear hx
        refine o_call hf Tryd.en_47 rfl rfl rfl (c47 d sa sb ca cb (fun x y => fitD d x y && !(fun p q => decide (p = i) && !decide (q = k)) x y) Bx _ ⟨⟨csx, hh.at (i := 0) rfl, hRx⟩, hnl, hnr⟩ hV) ?_; clear hf a; intro v a w hR hf
        replace hR : v = .int .i64 (eitN d i k) ∧ _ := hR
        obtain ⟨rfl, hx⟩ := hR; replace hh := hh.more hx; clear hx
        refine o_v hf hh (yv_assign rfl) ?_; clear hf a; intro a hf
        refine o_end ?_
        refine sy_ops ?_
        refine o_v hf hh (yv_move rfl) ?_; clear hf a; intro a hf
        refine o_v hf hh (yv_move rfl) ?_; clear hf a; intro a hf
        refine o_v hf hh (yv_move rfl) ?_; clear hf a; intro a hf
        refine o_v hf hh (y_sub rfl rfl) ?_; clear hf a; intro a hf
        refine ops_v hf hh (yv_cast (yv_max rfl rfl) (intv (b := worstN d i (k + 1)) rfl)) (.inl rfl) rfl rfl rfl ?_; clear hf a; intro a hf
        refine o_v hf hh (yv_assign rfl) ?_; clear hf a; intro a hf
        refine ops_end ?_
        refine blk_n ?_
        refine then_n ?_
        refine sy_ops ?_
        refine o_v hf hh (y_add rfl rfl) ?_; clear hf a; intro a hf
        refine o_v hf hh (yv_move rfl) ?_; clear hf a; intro a hf
        refine ops_end ?_
        refine then_n ?_
        exact ⟨k + 1, ⟨⟨by omega, hh.less (.cons _ (.cons _ (List.Sublist.refl _)))⟩, (hf.head (by repeat' (first | exact True.intro | refine And.intro rfl ?_)) (Keep.cons rfl (Keep.cons rfl (Keep.cons rfl (Keep.cons rfl (Keep.cons rfl (Keep.cons rfl (Keep.cons rfl (Keep.cons rfl (Keep.cons rfl (Keep.cons rfl (Keep.cons rfl (Keep.cons rfl (Keep.cons rfl (Keep.cons rfl (Keep.cons rfl (Keep.cons rfl (Keep.app rfl (Keep.rm rfl Keep.base)))))))))))))))))))⟩, by omega⟩
       ·have hG14 := hg14; try simp only [gS] at hG14
        refine sy_exit ?_
        refine then_e ?_
        refine then_e ?_
        refine blk_e ?_
        refine then_n ?_
        refine sy_sq ?_
        refine o_v hf hh (yv_move rfl) ?_; clear hf a; intro a hf
        refine o_v hf hh (yv_move rfl) ?_; clear hf a; intro a hf
        refine o_v hf hh (yv_bin rfl rfl rfl) ?_; clear hf a; intro a hf
        refine o_end ?_
        refine sy_cond hf rfl (fun hg19 => ?_) (fun hg19 => ?_)
        ·have hG19 := hg19; try simp only [gS] at hG19
         refine sy_ops ?_
         refine o_v hf hh (y_ld Tryd.sc_3 rfl) ?_; clear hf a; intro a hf
         refine o_v hf hh (yv_move rfl) ?_; clear hf a; intro a hf
         refine o_v hf hh (yv_assign rfl) ?_; clear hf a; intro a hf
         refine o_v hf hh (yv_assign rfl) ?_; clear hf a; intro a hf
         refine ops_end ?_
         refine blk_n ?_
         refine then_n ?_
         refine sy_ops ?_
         refine o_v hf hh (y_add rfl rfl) ?_; clear hf a; intro a hf
         refine o_v hf hh (yv_move rfl) ?_; clear hf a; intro a hf
         refine ops_end ?_
         refine then_n ?_
         have hke : k = d.r.length := by omega
         subst hke
         have hst : askN d (i + 1) = if worstN d i d.r.length < (askN d i).2 then ((i : Int), worstN d i d.r.length) else askN d i := rfl
         first
           | (rw [if_pos (by assumption)] at hst
              exact ⟨i + 1, ⟨⟨by omega, hh.less (.cons _ (.refl _))⟩, hf.head ⟨congrArg (fun z : Int × Int => some (Value.int IntKind.i64 z.1)) hst.symm, congrArg (fun z : Int × Int => some (Value.int IntKind.i64 z.2)) hst.symm, rfl, True.intro⟩ (Keep.cons rfl (Keep.cons rfl (Keep.cons rfl (Keep.cons rfl (Keep.cons rfl (Keep.cons rfl (Keep.cons rfl (Keep.cons rfl (Keep.cons rfl (Keep.cons rfl (Keep.app rfl (Keep.rm rfl (Keep.cons rfl (Keep.cons rfl (Keep.cons rfl (Keep.cons rfl (Keep.cons rfl (Keep.cons rfl (Keep.cons rfl (Keep.cons rfl (Keep.cons rfl (Keep.cons rfl (Keep.cons rfl (Keep.cons rfl (Keep.cons rfl (Keep.cons rfl (Keep.app rfl (Keep.rm rfl Keep.base))))))))))))))))))))))))))))⟩, by omega⟩)
           | (rw [if_neg (by omega)] at hst
              exact ⟨i + 1, ⟨⟨by omega, hh.less (.cons _ (.refl _))⟩, hf.head ⟨congrArg (fun z : Int × Int => some (Value.int IntKind.i64 z.1)) hst.symm, congrArg (fun z : Int × Int => some (Value.int IntKind.i64 z.2)) hst.symm, rfl, True.intro⟩ (Keep.cons rfl (Keep.cons rfl (Keep.cons rfl (Keep.cons rfl (Keep.cons rfl (Keep.cons rfl (Keep.cons rfl (Keep.cons rfl (Keep.cons rfl (Keep.cons rfl (Keep.app rfl (Keep.rm rfl (Keep.cons rfl (Keep.cons rfl (Keep.cons rfl (Keep.cons rfl (Keep.cons rfl (Keep.cons rfl (Keep.cons rfl (Keep.cons rfl (Keep.cons rfl (Keep.cons rfl (Keep.cons rfl (Keep.cons rfl (Keep.cons rfl (Keep.cons rfl (Keep.app rfl (Keep.rm rfl Keep.base))))))))))))))))))))))))))))⟩, by omega⟩)
        ·have hG19 := hg19; try simp only [gS] at hG19
         refine sy_skip ?_
         refine blk_n ?_
         refine then_n ?_
         refine sy_ops ?_
         refine o_v hf hh (y_add rfl rfl) ?_; clear hf a; intro a hf
         refine o_v hf hh (yv_move rfl) ?_; clear hf a; intro a hf
         refine ops_end ?_
         refine then_n ?_
         have hke : k = d.r.length := by omega
         subst hke
         have hst : askN d (i + 1) = if worstN d i d.r.length < (askN d i).2 then ((i : Int), worstN d i d.r.length) else askN d i := rfl
         first
           | (rw [if_pos (by assumption)] at hst
              exact ⟨i + 1, ⟨⟨by omega, hh.less (.cons _ (.refl _))⟩, hf.head ⟨congrArg (fun z : Int × Int => some (Value.int IntKind.i64 z.1)) hst.symm, congrArg (fun z : Int × Int => some (Value.int IntKind.i64 z.2)) hst.symm, rfl, True.intro⟩ (Keep.cons rfl (Keep.cons rfl (Keep.cons rfl (Keep.cons rfl (Keep.cons rfl (Keep.cons rfl (Keep.app rfl (Keep.rm rfl (Keep.cons rfl (Keep.cons rfl (Keep.cons rfl (Keep.cons rfl (Keep.cons rfl (Keep.cons rfl (Keep.cons rfl (Keep.cons rfl (Keep.cons rfl (Keep.cons rfl (Keep.cons rfl (Keep.cons rfl (Keep.cons rfl (Keep.cons rfl (Keep.app rfl (Keep.rm rfl Keep.base))))))))))))))))))))))))⟩, by omega⟩)
           | (rw [if_neg (by omega)] at hst
              exact ⟨i + 1, ⟨⟨by omega, hh.less (.cons _ (.refl _))⟩, hf.head ⟨congrArg (fun z : Int × Int => some (Value.int IntKind.i64 z.1)) hst.symm, congrArg (fun z : Int × Int => some (Value.int IntKind.i64 z.2)) hst.symm, rfl, True.intro⟩ (Keep.cons rfl (Keep.cons rfl (Keep.cons rfl (Keep.cons rfl (Keep.cons rfl (Keep.cons rfl (Keep.app rfl (Keep.rm rfl (Keep.cons rfl (Keep.cons rfl (Keep.cons rfl (Keep.cons rfl (Keep.cons rfl (Keep.cons rfl (Keep.cons rfl (Keep.cons rfl (Keep.cons rfl (Keep.cons rfl (Keep.cons rfl (Keep.cons rfl (Keep.cons rfl (Keep.cons rfl (Keep.app rfl (Keep.rm rfl Keep.base))))))))))))))))))))))))⟩, by omega⟩)
     ·have hG10 := hg10; try simp only [gS] at hG10
      refine sy_exit ?_
      refine then_e ?_
      refine then_e ?_
      refine blk_e ?_
      refine then_n ?_
      refine sy_sq ?_
      refine o_v hf hh (yv_move rfl) ?_; clear hf a; intro a hf
      refine o_v hf hh (yv_move rfl) ?_; clear hf a; intro a hf
      refine o_v hf hh (yv_assign rfl) ?_; clear hf a; intro a hf
      refine o_v hf hh (yv_assign rfl) ?_; clear hf a; intro a hf
      refine o_v hf hh (yv_assign rfl) ?_; clear hf a; intro a hf
      refine o_end ?_
      refine sy_ret ?_
      refine ret_r hf rfl rfl ?_
      have hie : i = d.l.length := by omega
      subst hie
      have eE : askE d = 0 := by rw [hE0, if_neg (by omega)]
      have eV : askV d = askN d d.l.length := by unfold askV; rw [if_pos eE]
      exact ⟨by rw [eE, eV]; rfl, hh.ext⟩
end Go.Proofs.YtemmhdgaagaglaaDoor
