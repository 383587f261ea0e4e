/- Lemmas, in order: ChartEnds. What a law is handed, opened: charts, sights, numbers.. -/
import Derived.Test.YtccjnjhlnpgocaaQ15
import Derived.Test.YtccjnjhlnpgocaaRows
import Derived.Test.YtccjnjhlnpgocaaChecked
import Derived.JoinedOf
import Derived.LaidLaws
import Derived.RowKit
import Derived.RowKitTokens
import Derived.LaidHandle
import Derived.Stop.Joined
import Derived.Lay
import Derived.SizedLaws
import Derived.SevenTiedAt
namespace Go.Proofs.Ytccjnjhlnpgocaa
open Go Go.Sy Go.ChaM
set_option maxRecDepth 100000 in
theorem p32 (c : ChD) (sa : Option Addr) (cp : Nat) (e nn : Int × Int) (Bc Ba Bb : Nat) (x y : Int) (u : World) (hBc : u.heap[Bc]? = some (.cells (chC c sa cp) 24 (0, 0))) (hBa : u.heap[Ba]? = some (.cells #[.int .i64 x] 3 (0, 0))) (hBb : u.heap[Bb]? = some (.cells #[.int .i64 y] 3 (0, 0))) (hA : ChAt u c sa) (hl : c.si.length ≤ 100) (hS : SiI ⟨x, y, e.1, e.2, nn.1, nn.2⟩) : Calls Try.prog 32 #[spV e, spV nn, ptr Bc 0, ptr Ba 0, ptr Bb 0] u (Ret fun v w' => v = .bool (decide (whyE (addC c ⟨x, y, e.1, e.2, nn.1, nn.2⟩) = 0)) ∧ Ext [] u w') := by
  refine calls_of Try.func32 rfl rfl (fun a hf => ?_)
  have hh := Hp.init u []
  refine sy_sq ?_
  refine o_box hf hh ?_; clear hf hh a; intro B5 a w hf hh
  refine o_box hf hh ?_; clear hf hh a; intro B6 a w hf hh
  refine o_v hf hh (yv_assign rfl) ?_; clear hf a; intro a hf
  refine o_end ?_
  refine sy_sq ?_
  refine o_v hf hh (y_lds Try.ag_24 rfl) ?_; clear hf a; intro a hf
  refine o_alloc hf hh Try.ze_24 ?_; clear hf hh a; intro B8 a w hf hh
  refine o_store hf hh Try.sz_24 fun w hh => ?_
  refine o_end ?_
  refine sy_seq ?_
  replace hh : Hp u [] [(B8, .cells #[.int .i64 c.n, .slice sa c.si.length cp] 24), (B6, .cells (spC nn).toArray 28), (B5, .cells (spC e).toArray 28)] w := hh
  refine sy_treeC (.p 1 (.q 0 2 (.q 0 4 (.q 0 5 (.q 0 6 (.q 0 7 (.p 8 (.e2 0 (.e2 3 (.e1 9 (.e1 10 (.p 11 (.e1 12 (.fin))))) 9 (.e1 3 (.e1 10 (.p 11 (.e1 12 (.fin)))))) 9 (.e1 0 (.e1 3 (.e1 10 (.p 11 (.e1 12 (.fin)))))))))))))) [[12]] [(AtE u [] [(B6, .cells (spC nn).toArray 28), (B5, .cells (spC e).toArray 28)], [12])] Try.follows (by kernel_rfl) rfl hh (fun w hh => ?_)
  refine mc_p rfl   hf (yv_fieldAddr Try.fo_24_1 rfl) (.inl rfl) rfl rfl ?_; clear hf a; intro a hf
  refine mc_q rfl rfl (AtE.of hh (by intro p hp; simp only [List.mem_cons, List.not_mem_nil, or_false] at hp; rcases hp with h | h <;> simp [h])) hf (y_ld Try.sc_22 rfl) (.inl rfl) rfl rfl ?_; clear hf a; intro a hf
  refine mc_q rfl rfl (AtE.of hh (by intro p hp; simp only [List.mem_cons, List.not_mem_nil, or_false] at hp; rcases hp with h | h <;> simp [h])) hf (y_ld Try.sc_3 rfl) (.inl rfl) rfl rfl ?_; clear hf a; intro a hf
  refine mc_q rfl rfl (AtE.of hh (by intro p hp; simp only [List.mem_cons, List.not_mem_nil, or_false] at hp; rcases hp with h | h <;> simp [h])) hf (y_ld Try.sc_3 rfl) (.inl rfl) rfl rfl ?_; clear hf a; intro a hf
  refine mc_q rfl rfl (AtE.of hh (by intro p hp; simp only [List.mem_cons, List.not_mem_nil, or_false] at hp; rcases hp with h | h <;> simp [h])) hf (y_lds Try.ag_28 rfl) (.inl rfl) rfl rfl ?_; clear hf a; intro a hf
  refine mc_q rfl rfl (AtE.of hh (by intro p hp; simp only [List.mem_cons, List.not_mem_nil, or_false] at hp; rcases hp with h | h <;> simp [h])) hf (y_lds Try.ag_28 rfl) (.inl rfl) rfl rfl ?_; clear hf a; intro a hf
  refine mc_p rfl   hf (yv_buildS Try.bs_46 rfl rfl) (.inl rfl) rfl rfl ?_; clear hf a; intro a hf
  refine ⟨?_, ?_⟩
  ·refine mc_e rfl fun Q1 => ?_
   refine ops_buildSl hf hh Try.bl_22_0 rfl rfl (.inl rfl) rfl ?_; clear hf hh; clear a; intro B12 a w hf hh
   refine ops_end ?_
   refine then_n ⟨⟨fun _ _ => (AtE.of hh (by intro p hp; simp only [List.mem_cons, List.not_mem_nil, or_false] at hp; rcases hp with h | h <;> simp [h])), trivial⟩, ?_⟩
   refine ⟨?_, ?_⟩
   ·refine mc_e rfl fun Q1 => ?_
    first
      | (refine ops_appendV (e := 46) (size := 6) (xs := []) (news := c.si.flatMap siC) (X := [(B12, Obj.cells #[] 46)]) (Z := [(B8, Obj.cells #[.int .i64 c.n, .slice sa c.si.length cp] 24), (B6, Obj.cells (spC nn).toArray 28), (B5, Obj.cells (spC e).toArray 28)]) (m := 0) hf hh Try.eb_22 rfl rfl ⟨rfl, .inr ⟨B12, 0, #[], rfl, rfl, Nat.le_refl _, Nat.zero_le _, rfl, rfl⟩⟩ (vals_of (enc := siC) (n := 6) siC_len (hA.at_.ext hh.ext)) (flatn_len (enc := siC) (n := 6) siC_len c.si) (by omega) (si_one c.si) (by simp only [maxLen]; omega) (by omega) (.inl rfl) rfl ?_
         clear hf hh a; intro v15 X a w hOw hf hh
         replace hh : Hp u [] ([(B8, .cells #[.int .i64 c.n, .slice sa c.si.length cp] 24), (B6, .cells (spC nn).toArray 28), (B5, .cells (spC e).toArray 28)] ++ X) w := hh.perm List.perm_append_comm)
      | (refine ops_appendV (e := 46) (size := 6) (xs := []) (news := c.si.flatMap siC) (X := [(B12, Obj.cells #[] 46)]) (Z := (B21, Obj.cells (siC ⟨x, y, e.1, e.2, nn.1, nn.2⟩).toArray 46) :: [(B8, Obj.cells #[.int .i64 c.n, .slice sa c.si.length cp] 24), (B6, Obj.cells (spC nn).toArray 28), (B5, Obj.cells (spC e).toArray 28)]) (m := 0) hf (hh.perm (.swap _ _ _)) Try.eb_22 rfl rfl ⟨rfl, .inr ⟨B12, 0, #[], rfl, rfl, Nat.le_refl _, Nat.zero_le _, rfl, rfl⟩⟩ (vals_of (enc := siC) (n := 6) siC_len (hA.at_.ext hh.ext)) (flatn_len (enc := siC) (n := 6) siC_len c.si) (by omega) (si_one c.si) (by simp only [maxLen]; omega) (by omega) (.inl rfl) rfl ?_
         clear hf hh a; intro v15 X a w hOw hf hh
         replace hh : Hp u [] ((B21, .cells (siC ⟨x, y, e.1, e.2, nn.1, nn.2⟩).toArray 46) :: ([(B8, .cells #[.int .i64 c.n, .slice sa c.si.length cp] 24), (B6, .cells (spC nn).toArray 28), (B5, .cells (spC e).toArray 28)] ++ X)) w := hh.perm List.perm_append_comm)
      | (refine ops_appendV (e := 46) (size := 6) (xs := []) (news := c.si.flatMap siC) (X := [(B12, Obj.cells #[] 46)]) (Z := (B21, Obj.cells (siC ⟨x, y, e.1, e.2, nn.1, nn.2⟩).toArray 46) :: [(B8, Obj.cells #[.int .i64 c.n, .slice sa c.si.length cp] 24), (B6, Obj.cells (spC nn).toArray 28), (B5, Obj.cells (spC e).toArray 28)]) (m := 0) hf hh Try.eb_22 rfl rfl ⟨rfl, .inr ⟨B12, 0, #[], rfl, rfl, Nat.le_refl _, Nat.zero_le _, rfl, rfl⟩⟩ (vals_of (enc := siC) (n := 6) siC_len (hA.at_.ext hh.ext)) (flatn_len (enc := siC) (n := 6) siC_len c.si) (by omega) (si_one c.si) (by simp only [maxLen]; omega) (by omega) (.inl rfl) rfl ?_
         clear hf hh a; intro v15 X a w hOw hf hh
         replace hh : Hp u [] ((B21, .cells (siC ⟨x, y, e.1, e.2, nn.1, nn.2⟩).toArray 46) :: ([(B8, .cells #[.int .i64 c.n, .slice sa c.si.length cp] 24), (B6, .cells (spC nn).toArray 28), (B5, .cells (spC e).toArray 28)] ++ X)) w := hh.perm List.perm_append_comm)
    rw [Nat.zero_add, List.nil_append] at hOw
    obtain ⟨oa, cx, rfl⟩ := own_val hOw
    refine ops_end ?_
    refine then_n ⟨⟨fun _ _ => (AtE.of hh (by intro p hp; simp only [List.mem_cons, List.not_mem_nil, or_false] at hp; rcases hp with h | h <;> simp [h])), trivial⟩, ?_⟩
    refine mc_e rfl fun Q1 => ?_
    refine ops_buildSl hf hh Try.bl_22_1 rfl rfl (.inl rfl) rfl ?_; clear hf hh; clear a; intro B21 a w hf hh
    refine ops_end ?_
    refine then_n ⟨⟨fun _ _ => (AtE.of hh (by intro p hp; simp only [List.mem_cons, List.not_mem_nil, or_false] at hp; rcases hp with h | h <;> simp [h])), trivial⟩, ?_⟩
    refine mc_e rfl fun Q1 => ?_
    refine ops_append (e := 46) (size := 6) (xs := c.si.flatMap siC) (X := X) (Z := [(B8, Obj.cells #[.int .i64 c.n, .slice sa c.si.length cp] 24), (B6, Obj.cells (spC nn).toArray 28), (B5, Obj.cells (spC e).toArray 28)]) (m := c.si.length) (q := 1) hf (hh.perm (.cons _ List.perm_append_comm)) Try.eb_22 rfl rfl hOw rfl rfl rfl (by simp only [maxLen]; omega) (by omega) (.inl rfl) rfl ?_; clear hf hh a; intro v22 X2 a w hO2 hf hh
    replace hO2 : OwnSl 46 6 v22 (addC c ⟨x, y, e.1, e.2, nn.1, nn.2⟩).si.length ((addC c ⟨x, y, e.1, e.2, nn.1, nn.2⟩).si.flatMap siC) X2 := by
      show OwnSl 46 6 v22 (c.si ++ [_]).length ((c.si ++ [_]).flatMap siC) X2
      rw [List.length_append, List.flatMap_append]; exact hO2
    obtain ⟨oa2, cx2, rfl⟩ := own_val hO2
    replace hh : Hp u [] ([(B8, .cells #[.int .i64 c.n, .slice sa c.si.length cp] 24), (B6, .cells (spC nn).toArray 28), (B5, .cells (spC e).toArray 28)] ++ X2) w := hh.perm List.perm_append_comm
    refine ops_end ?_
    refine then_n ⟨⟨fun _ _ => (AtE.of hh (by intro p hp; simp only [List.mem_cons, List.not_mem_nil, or_false] at hp; rcases hp with h | h <;> simp [h])), trivial⟩, ?_⟩
    refine mc_p rfl   hf (yv_fieldAddr Try.fo_24_1 rfl) (.inl rfl) rfl rfl ?_; clear hf a; intro a hf
    refine mc_e rfl fun Q1 => ?_
    refine o_store hf hh Try.sz_22 fun w hh => ?_
    refine ops_end ?_
    refine then_n ⟨⟨fun h => Bool.noConfusion (show true = false from h), trivial⟩, ?_⟩
    refine mc_end ?_
    refine then_n ?_
    refine sy_seq ?_
    have hD : ChAt w (addC c ⟨x, y, e.1, e.2, nn.1, nn.2⟩) oa2 := ⟨own_tat siC_len hO2 rfl (fun q hq => hh.get q (by simp [hq])), hA.n, by show (c.si ++ [_]).length ≤ 1000; rw [List.length_append]; simp only [List.length_cons, List.length_nil]; omega, fun z hz => by
      rcases List.mem_append.1 (show z ∈ c.si ++ [_] from hz) with h | h
      · exact hA.s z h
      · rw [List.mem_singleton.1 h]; exact hS⟩
    refine sy_ops ?_
    refine o_v hf hh (y_lds Try.ag_24 rfl) ?_; clear hf a; intro a hf
    refine o_call hf Try.en_24 rfl rfl rfl (p24 (addC c ⟨x, y, e.1, e.2, nn.1, nn.2⟩) oa2 cx2 _ hD) ?_; clear hf a; intro v a w hR hf
    obtain ⟨rfl, hx⟩ := hR; replace hh := hh.more hx; clear hx
    refine o_v hf hh (yv_move rfl) ?_; clear hf a; intro a hf
    refine o_v hf hh (yv_extract rfl rfl) ?_; clear hf a; intro a hf
    refine o_v hf hh (yv_extract rfl rfl) ?_; clear hf a; intro a hf
    refine o_v hf hh (yv_assign rfl) ?_; clear hf a; intro a hf
    refine o_v hf hh (yv_assign rfl) ?_; clear hf a; intro a hf
    refine o_end ?_
    refine sy_sq ?_
    refine o_v hf hh (yv_move rfl) ?_; clear hf a; intro a hf
    refine o_v hf hh (yv_bin rfl rfl rfl) ?_; clear hf a; intro a hf
    refine o_v hf hh (yv_assign rfl) ?_; clear hf a; intro a hf
    refine o_end ?_
    refine sy_ret ?_
    refine ret_r hf rfl rfl ?_
    exact ⟨rfl, hh.ext⟩
   ·refine mc_e rfl fun Q1 => ?_
    refine ops_buildSl hf hh Try.bl_22_1 rfl rfl (.inl rfl) rfl ?_; clear hf hh; clear a; intro B21 a w hf hh
    refine ops_end ?_
    refine then_n ⟨⟨fun _ _ => (AtE.of hh (by intro p hp; simp only [List.mem_cons, List.not_mem_nil, or_false] at hp; rcases hp with h | h <;> simp [h])), trivial⟩, ?_⟩
    refine mc_e rfl fun Q1 => ?_
    first
      | (refine ops_appendV (e := 46) (size := 6) (xs := []) (news := c.si.flatMap siC) (X := [(B12, Obj.cells #[] 46)]) (Z := [(B8, Obj.cells #[.int .i64 c.n, .slice sa c.si.length cp] 24), (B6, Obj.cells (spC nn).toArray 28), (B5, Obj.cells (spC e).toArray 28)]) (m := 0) hf hh Try.eb_22 rfl rfl ⟨rfl, .inr ⟨B12, 0, #[], rfl, rfl, Nat.le_refl _, Nat.zero_le _, rfl, rfl⟩⟩ (vals_of (enc := siC) (n := 6) siC_len (hA.at_.ext hh.ext)) (flatn_len (enc := siC) (n := 6) siC_len c.si) (by omega) (si_one c.si) (by simp only [maxLen]; omega) (by omega) (.inl rfl) rfl ?_
         clear hf hh a; intro v15 X a w hOw hf hh
         replace hh : Hp u [] ([(B8, .cells #[.int .i64 c.n, .slice sa c.si.length cp] 24), (B6, .cells (spC nn).toArray 28), (B5, .cells (spC e).toArray 28)] ++ X) w := hh.perm List.perm_append_comm)
      | (refine ops_appendV (e := 46) (size := 6) (xs := []) (news := c.si.flatMap siC) (X := [(B12, Obj.cells #[] 46)]) (Z := (B21, Obj.cells (siC ⟨x, y, e.1, e.2, nn.1, nn.2⟩).toArray 46) :: [(B8, Obj.cells #[.int .i64 c.n, .slice sa c.si.length cp] 24), (B6, Obj.cells (spC nn).toArray 28), (B5, Obj.cells (spC e).toArray 28)]) (m := 0) hf (hh.perm (.swap _ _ _)) Try.eb_22 rfl rfl ⟨rfl, .inr ⟨B12, 0, #[], rfl, rfl, Nat.le_refl _, Nat.zero_le _, rfl, rfl⟩⟩ (vals_of (enc := siC) (n := 6) siC_len (hA.at_.ext hh.ext)) (flatn_len (enc := siC) (n := 6) siC_len c.si) (by omega) (si_one c.si) (by simp only [maxLen]; omega) (by omega) (.inl rfl) rfl ?_
         clear hf hh a; intro v15 X a w hOw hf hh
         replace hh : Hp u [] ((B21, .cells (siC ⟨x, y, e.1, e.2, nn.1, nn.2⟩).toArray 46) :: ([(B8, .cells #[.int .i64 c.n, .slice sa c.si.length cp] 24), (B6, .cells (spC nn).toArray 28), (B5, .cells (spC e).toArray 28)] ++ X)) w := hh.perm List.perm_append_comm)
      | (refine ops_appendV (e := 46) (size := 6) (xs := []) (news := c.si.flatMap siC) (X := [(B12, Obj.cells #[] 46)]) (Z := (B21, Obj.cells (siC ⟨x, y, e.1, e.2, nn.1, nn.2⟩).toArray 46) :: [(B8, Obj.cells #[.int .i64 c.n, .slice sa c.si.length cp] 24), (B6, Obj.cells (spC nn).toArray 28), (B5, Obj.cells (spC e).toArray 28)]) (m := 0) hf hh Try.eb_22 rfl rfl ⟨rfl, .inr ⟨B12, 0, #[], rfl, rfl, Nat.le_refl _, Nat.zero_le _, rfl, rfl⟩⟩ (vals_of (enc := siC) (n := 6) siC_len (hA.at_.ext hh.ext)) (flatn_len (enc := siC) (n := 6) siC_len c.si) (by omega) (si_one c.si) (by simp only [maxLen]; omega) (by omega) (.inl rfl) rfl ?_
         clear hf hh a; intro v15 X a w hOw hf hh
         replace hh : Hp u [] ((B21, .cells (siC ⟨x, y, e.1, e.2, nn.1, nn.2⟩).toArray 46) :: ([(B8, .cells #[.int .i64 c.n, .slice sa c.si.length cp] 24), (B6, .cells (spC nn).toArray 28), (B5, .cells (spC e).toArray 28)] ++ X)) w := hh.perm List.perm_append_comm)
    rw [Nat.zero_add, List.nil_append] at hOw
    obtain ⟨oa, cx, rfl⟩ := own_val hOw
    refine ops_end ?_
    refine then_n ⟨⟨fun _ _ => (AtE.of hh (by intro p hp; simp only [List.mem_cons, List.not_mem_nil, or_false] at hp; rcases hp with h | h <;> simp [h])), trivial⟩, ?_⟩
    refine mc_e rfl fun Q1 => ?_
    refine ops_append (e := 46) (size := 6) (xs := c.si.flatMap siC) (X := X) (Z := [(B8, Obj.cells #[.int .i64 c.n, .slice sa c.si.length cp] 24), (B6, Obj.cells (spC nn).toArray 28), (B5, Obj.cells (spC e).toArray 28)]) (m := c.si.length) (q := 1) hf (hh.perm (.cons _ List.perm_append_comm)) Try.eb_22 rfl rfl hOw rfl rfl rfl (by simp only [maxLen]; omega) (by omega) (.inl rfl) rfl ?_; clear hf hh a; intro v22 X2 a w hO2 hf hh
    replace hO2 : OwnSl 46 6 v22 (addC c ⟨x, y, e.1, e.2, nn.1, nn.2⟩).si.length ((addC c ⟨x, y, e.1, e.2, nn.1, nn.2⟩).si.flatMap siC) X2 := by
      show OwnSl 46 6 v22 (c.si ++ [_]).length ((c.si ++ [_]).flatMap siC) X2
      rw [List.length_append, List.flatMap_append]; exact hO2
    obtain ⟨oa2, cx2, rfl⟩ := own_val hO2
    replace hh : Hp u [] ([(B8, .cells #[.int .i64 c.n, .slice sa c.si.length cp] 24), (B6, .cells (spC nn).toArray 28), (B5, .cells (spC e).toArray 28)] ++ X2) w := hh.perm List.perm_append_comm
    refine ops_end ?_
    refine then_n ⟨⟨fun _ _ => (AtE.of hh (by intro p hp; simp only [List.mem_cons, List.not_mem_nil, or_false] at hp; rcases hp with h | h <;> simp [h])), trivial⟩, ?_⟩
    refine mc_p rfl   hf (yv_fieldAddr Try.fo_24_1 rfl) (.inl rfl) rfl rfl ?_; clear hf a; intro a hf
    refine mc_e rfl fun Q1 => ?_
    refine o_store hf hh Try.sz_22 fun w hh => ?_
    refine ops_end ?_
    refine then_n ⟨⟨fun h => Bool.noConfusion (show true = false from h), trivial⟩, ?_⟩
    refine mc_end ?_
    refine then_n ?_
    refine sy_seq ?_
    have hD : ChAt w (addC c ⟨x, y, e.1, e.2, nn.1, nn.2⟩) oa2 := ⟨own_tat siC_len hO2 rfl (fun q hq => hh.get q (by simp [hq])), hA.n, by show (c.si ++ [_]).length ≤ 1000; rw [List.length_append]; simp only [List.length_cons, List.length_nil]; omega, fun z hz => by
      rcases List.mem_append.1 (show z ∈ c.si ++ [_] from hz) with h | h
      · exact hA.s z h
      · rw [List.mem_singleton.1 h]; exact hS⟩
    refine sy_ops ?_
    refine o_v hf hh (y_lds Try.ag_24 rfl) ?_; clear hf a; intro a hf
    refine o_call hf Try.en_24 rfl rfl rfl (p24 (addC c ⟨x, y, e.1, e.2, nn.1, nn.2⟩) oa2 cx2 _ hD) ?_; clear hf a; intro v a w hR hf
    obtain ⟨rfl, hx⟩ := hR; replace hh := hh.more hx; clear hx
    refine o_v hf hh (yv_move rfl) ?_; clear hf a; intro a hf
    refine o_v hf hh (yv_extract rfl rfl) ?_; clear hf a; intro a hf
    refine o_v hf hh (yv_extract rfl rfl) ?_; clear hf a; intro a hf
    refine o_v hf hh (yv_assign rfl) ?_; clear hf a; intro a hf
    refine o_v hf hh (yv_assign rfl) ?_; clear hf a; intro a hf
    refine o_end ?_
    refine sy_sq ?_
    refine o_v hf hh (yv_move rfl) ?_; clear hf a; intro a hf
    refine o_v hf hh (yv_bin rfl rfl rfl) ?_; clear hf a; intro a hf
    refine o_v hf hh (yv_assign rfl) ?_; clear hf a; intro a hf
    refine o_end ?_
    refine sy_ret ?_
    refine ret_r hf rfl rfl ?_
    exact ⟨rfl, hh.ext⟩
  ·refine mc_e rfl fun Q1 => ?_
   refine ops_buildSl hf hh Try.bl_22_1 rfl rfl (.inl rfl) rfl ?_; clear hf hh; clear a; intro B21 a w hf hh
   refine ops_end ?_
   refine then_n ⟨⟨fun _ _ => (AtE.of hh (by intro p hp; simp only [List.mem_cons, List.not_mem_nil, or_false] at hp; rcases hp with h | h <;> simp [h])), trivial⟩, ?_⟩
   refine mc_e rfl fun Q1 => ?_
   refine ops_buildSl hf hh Try.bl_22_0 rfl rfl (.inl rfl) rfl ?_; clear hf hh; clear a; intro B12 a w hf hh
   refine ops_end ?_
   refine then_n ⟨⟨fun _ _ => (AtE.of hh (by intro p hp; simp only [List.mem_cons, List.not_mem_nil, or_false] at hp; rcases hp with h | h <;> simp [h])), trivial⟩, ?_⟩
   refine mc_e rfl fun Q1 => ?_
   first
     | (refine ops_appendV (e := 46) (size := 6) (xs := []) (news := c.si.flatMap siC) (X := [(B12, Obj.cells #[] 46)]) (Z := [(B8, Obj.cells #[.int .i64 c.n, .slice sa c.si.length cp] 24), (B6, Obj.cells (spC nn).toArray 28), (B5, Obj.cells (spC e).toArray 28)]) (m := 0) hf hh Try.eb_22 rfl rfl ⟨rfl, .inr ⟨B12, 0, #[], rfl, rfl, Nat.le_refl _, Nat.zero_le _, rfl, rfl⟩⟩ (vals_of (enc := siC) (n := 6) siC_len (hA.at_.ext hh.ext)) (flatn_len (enc := siC) (n := 6) siC_len c.si) (by omega) (si_one c.si) (by simp only [maxLen]; omega) (by omega) (.inl rfl) rfl ?_
        clear hf hh a; intro v15 X a w hOw hf hh
        replace hh : Hp u [] ([(B8, .cells #[.int .i64 c.n, .slice sa c.si.length cp] 24), (B6, .cells (spC nn).toArray 28), (B5, .cells (spC e).toArray 28)] ++ X) w := hh.perm List.perm_append_comm)
     | (refine ops_appendV (e := 46) (size := 6) (xs := []) (news := c.si.flatMap siC) (X := [(B12, Obj.cells #[] 46)]) (Z := (B21, Obj.cells (siC ⟨x, y, e.1, e.2, nn.1, nn.2⟩).toArray 46) :: [(B8, Obj.cells #[.int .i64 c.n, .slice sa c.si.length cp] 24), (B6, Obj.cells (spC nn).toArray 28), (B5, Obj.cells (spC e).toArray 28)]) (m := 0) hf (hh.perm (.swap _ _ _)) Try.eb_22 rfl rfl ⟨rfl, .inr ⟨B12, 0, #[], rfl, rfl, Nat.le_refl _, Nat.zero_le _, rfl, rfl⟩⟩ (vals_of (enc := siC) (n := 6) siC_len (hA.at_.ext hh.ext)) (flatn_len (enc := siC) (n := 6) siC_len c.si) (by omega) (si_one c.si) (by simp only [maxLen]; omega) (by omega) (.inl rfl) rfl ?_
        clear hf hh a; intro v15 X a w hOw hf hh
        replace hh : Hp u [] ((B21, .cells (siC ⟨x, y, e.1, e.2, nn.1, nn.2⟩).toArray 46) :: ([(B8, .cells #[.int .i64 c.n, .slice sa c.si.length cp] 24), (B6, .cells (spC nn).toArray 28), (B5, .cells (spC e).toArray 28)] ++ X)) w := hh.perm List.perm_append_comm)
     | (refine ops_appendV (e := 46) (size := 6) (xs := []) (news := c.si.flatMap siC) (X := [(B12, Obj.cells #[] 46)]) (Z := (B21, Obj.cells (siC ⟨x, y, e.1, e.2, nn.1, nn.2⟩).toArray 46) :: [(B8, Obj.cells #[.int .i64 c.n, .slice sa c.si.length cp] 24), (B6, Obj.cells (spC nn).toArray 28), (B5, Obj.cells (spC e).toArray 28)]) (m := 0) hf hh Try.eb_22 rfl rfl ⟨rfl, .inr ⟨B12, 0, #[], rfl, rfl, Nat.le_refl _, Nat.zero_le _, rfl, rfl⟩⟩ (vals_of (enc := siC) (n := 6) siC_len (hA.at_.ext hh.ext)) (flatn_len (enc := siC) (n := 6) siC_len c.si) (by omega) (si_one c.si) (by simp only [maxLen]; omega) (by omega) (.inl rfl) rfl ?_
        clear hf hh a; intro v15 X a w hOw hf hh
        replace hh : Hp u [] ((B21, .cells (siC ⟨x, y, e.1, e.2, nn.1, nn.2⟩).toArray 46) :: ([(B8, .cells #[.int .i64 c.n, .slice sa c.si.length cp] 24), (B6, .cells (spC nn).toArray 28), (B5, .cells (spC e).toArray 28)] ++ X)) w := hh.perm List.perm_append_comm)
   rw [Nat.zero_add, List.nil_append] at hOw
   obtain ⟨oa, cx, rfl⟩ := own_val hOw
   refine ops_end ?_
   refine then_n ⟨⟨fun _ _ => (AtE.of hh (by intro p hp; simp only [List.mem_cons, List.not_mem_nil, or_false] at hp; rcases hp with h | h <;> simp [h])), trivial⟩, ?_⟩
   refine mc_e rfl fun Q1 => ?_
   refine ops_append (e := 46) (size := 6) (xs := c.si.flatMap siC) (X := X) (Z := [(B8, Obj.cells #[.int .i64 c.n, .slice sa c.si.length cp] 24), (B6, Obj.cells (spC nn).toArray 28), (B5, Obj.cells (spC e).toArray 28)]) (m := c.si.length) (q := 1) hf (hh.perm (.cons _ List.perm_append_comm)) Try.eb_22 rfl rfl hOw rfl rfl rfl (by simp only [maxLen]; omega) (by omega) (.inl rfl) rfl ?_; clear hf hh a; intro v22 X2 a w hO2 hf hh
   replace hO2 : OwnSl 46 6 v22 (addC c ⟨x, y, e.1, e.2, nn.1, nn.2⟩).si.length ((addC c ⟨x, y, e.1, e.2, nn.1, nn.2⟩).si.flatMap siC) X2 := by
     show OwnSl 46 6 v22 (c.si ++ [_]).length ((c.si ++ [_]).flatMap siC) X2
     rw [List.length_append, List.flatMap_append]; exact hO2
   obtain ⟨oa2, cx2, rfl⟩ := own_val hO2
   replace hh : Hp u [] ([(B8, .cells #[.int .i64 c.n, .slice sa c.si.length cp] 24), (B6, .cells (spC nn).toArray 28), (B5, .cells (spC e).toArray 28)] ++ X2) w := hh.perm List.perm_append_comm
   refine ops_end ?_
   refine then_n ⟨⟨fun _ _ => (AtE.of hh (by intro p hp; simp only [List.mem_cons, List.not_mem_nil, or_false] at hp; rcases hp with h | h <;> simp [h])), trivial⟩, ?_⟩
   refine mc_p rfl   hf (yv_fieldAddr Try.fo_24_1 rfl) (.inl rfl) rfl rfl ?_; clear hf a; intro a hf
   refine mc_e rfl fun Q1 => ?_
   refine o_store hf hh Try.sz_22 fun w hh => ?_
   refine ops_end ?_
   refine then_n ⟨⟨fun h => Bool.noConfusion (show true = false from h), trivial⟩, ?_⟩
   refine mc_end ?_
   refine then_n ?_
   refine sy_seq ?_
   have hD : ChAt w (addC c ⟨x, y, e.1, e.2, nn.1, nn.2⟩) oa2 := ⟨own_tat siC_len hO2 rfl (fun q hq => hh.get q (by simp [hq])), hA.n, by show (c.si ++ [_]).length ≤ 1000; rw [List.length_append]; simp only [List.length_cons, List.length_nil]; omega, fun z hz => by
     rcases List.mem_append.1 (show z ∈ c.si ++ [_] from hz) with h | h
     · exact hA.s z h
     · rw [List.mem_singleton.1 h]; exact hS⟩
   refine sy_ops ?_
   refine o_v hf hh (y_lds Try.ag_24 rfl) ?_; clear hf a; intro a hf
   refine o_call hf Try.en_24 rfl rfl rfl (p24 (addC c ⟨x, y, e.1, e.2, nn.1, nn.2⟩) oa2 cx2 _ hD) ?_; clear hf a; intro v a w hR hf
   obtain ⟨rfl, hx⟩ := hR; replace hh := hh.more hx; clear hx
   refine o_v hf hh (yv_move rfl) ?_; clear hf a; intro a hf
   refine o_v hf hh (yv_extract rfl rfl) ?_; clear hf a; intro a hf
   refine o_v hf hh (yv_extract rfl rfl) ?_; clear hf a; intro a hf
   refine o_v hf hh (yv_assign rfl) ?_; clear hf a; intro a hf
   refine o_v hf hh (yv_assign rfl) ?_; clear hf a; intro a hf
   refine o_end ?_
   refine sy_sq ?_
   refine o_v hf hh (yv_move rfl) ?_; clear hf a; intro a hf
   refine o_v hf hh (yv_bin rfl rfl rfl) ?_; clear hf a; intro a hf
   refine o_v hf hh (yv_assign rfl) ?_; clear hf a; intro a hf
   refine o_end ?_
   refine sy_ret ?_
   refine ret_r hf rfl rfl ?_
   exact ⟨rfl, hh.ext⟩
theorem p34 (s : Int × Int) (k : Int) (Bw : Nat) (u : World) (hBw : u.heap[Bw]? = some (.cells #[.int .u8 k] 5 (0, 0))) (h1 : -1099511627776 ≤ s.1 ∧ s.1 ≤ 1099511627776) (h2 : -1099511627776 ≤ s.2 ∧ s.2 ≤ 1099511627776) : Calls Try.prog 34 #[spV s, ptr Bw 0] u (Ret fun v w' => v = .tuple #[.int .i64 (endN (andU k) s), .int .i64 (endF (andU k) s)] ∧ Ext [] u w') := by
  refine calls_of Try.func34 rfl rfl (fun a hf => ?_)
  have hh := Hp.init u []
  refine sy_sq ?_
  refine o_box hf hh ?_; clear hf hh a; intro B2 a w hf hh
  refine o_v hf hh (yv_assign rfl) ?_; clear hf a; intro a hf
  refine o_v hf hh (yv_assign rfl) ?_; clear hf a; intro a hf
  refine o_end ?_
  refine sy_seq ?_
  refine sy_sq ?_
  refine o_v hf hh (y_ld Try.sc_5 rfl) ?_; clear hf a; intro a hf
  refine o_v hf hh (yv_cast (yv_bin rfl rfl rfl) (show Value.int .u8 _ = Value.int .u8 (andU k) from rfl)) ?_; clear hf a; intro a hf
  refine o_v hf hh (yv_bin rfl rfl rfl) ?_; clear hf a; intro a hf
  refine o_end ?_
  refine sy_cond hf rfl (fun hg3 => ?_) (fun hg3 => ?_)
  ·have hG3 := hg3; try simp only [gS] at hG3
   refine sy_seq ?_
   refine sy_quiet (C := Hp _ _ _) Try.follows (by kernel_rfl) (hh.drawn _) ?_
   refine oq_v hf (yv_fieldAddr Try.fo_28_0 rfl) ?_; clear hf a; intro a hf
   refine oq_v hf (y_ld Try.sc_3 rfl) ?_; clear hf a; intro a hf
   refine oq_v hf (yv_fieldAddr Try.fo_28_0 rfl) ?_; clear hf a; intro a hf
   refine oq_v hf (y_ld Try.sc_3 rfl) ?_; clear hf a; intro a hf
   refine oq_v hf (y_sub rfl rfl) ?_; clear hf a; intro a hf
   refine oq_v hf (yv_assign rfl) ?_; clear hf a; intro a hf
   refine oq_v hf (yv_assign rfl) ?_; clear hf a; intro a hf
   refine q_end fun w hh => ?_
   refine then_n ?_
   refine sy_ret ?_
   refine then_r ?_
   refine ret_r hf rfl rfl ?_
   refine ⟨?_, hh.ext⟩
   unfold endN endF
   first
     | (have h0 : andU k = 0 := by assumption
        rw [if_pos h0, if_pos h0]; rfl)
     | (have h0 : ¬ andU k = 0 := by assumption
        rw [if_neg h0, if_neg h0]; rfl)
  ·have hG3 := hg3; try simp only [gS] at hG3
   refine sy_skip ?_
   refine then_n ?_
   refine sy_seq ?_
   refine sy_quiet (C := Hp _ _ _) Try.follows (by kernel_rfl) (hh.drawn _) ?_
   refine oq_v hf (yv_fieldAddr Try.fo_28_1 rfl) ?_; clear hf a; intro a hf
   refine oq_v hf (y_ld Try.sc_3 rfl) ?_; clear hf a; intro a hf
   refine oq_v hf (yv_fieldAddr Try.fo_28_1 rfl) ?_; clear hf a; intro a hf
   refine oq_v hf (y_ld Try.sc_3 rfl) ?_; clear hf a; intro a hf
   refine oq_v hf (y_add rfl rfl) ?_; clear hf a; intro a hf
   refine oq_v hf (yv_assign rfl) ?_; clear hf a; intro a hf
   refine oq_v hf (yv_assign rfl) ?_; clear hf a; intro a hf
   refine q_end fun w hh => ?_
   refine then_n ?_
   refine sy_ret ?_
   refine ret_r hf rfl rfl ?_
   refine ⟨?_, hh.ext⟩
   unfold endN endF
   first
     | (have h0 : andU k = 0 := by assumption
        rw [if_pos h0, if_pos h0]; rfl)
     | (have h0 : ¬ andU k = 0 := by assumption
        rw [if_neg h0, if_neg h0]; rfl)
set_option maxRecDepth 100000 in
set_option maxHeartbeats 4000000 in
theorem p6 (c : ChD) (sa : Option Addr) (cp : Nat) (x y k : Int) (u : World) (hC : ChIn u c sa) (hx9 : I64 x) (hy9 : I64 y) (hk9 : 0 ≤ k ∧ k ≤ 255) : Calls Try.prog 6 #[.agg (chC c sa cp), .int .i64 x, .int .i64 y, .int .u8 k] u (Ret fun v w' => v = .bool true ∧ Ext [] u w') := by
  refine calls_of Try.func6 rfl rfl (fun a hf => ?_)
  have hh := Hp.init u []
  obtain ⟨hx1, hx2⟩ := hx9; obtain ⟨hy1, hy2⟩ := hy9
  refine sy_sq ?_
  refine o_box hf hh ?_; clear hf hh a; intro B4 a w hf hh
  refine o_box hf hh ?_; clear hf hh a; intro B5 a w hf hh
  refine o_box hf hh ?_; clear hf hh a; intro B6 a w hf hh
  refine o_box hf hh ?_; clear hf hh a; intro B7 a w hf hh
  refine o_v hf hh (yv_assign rfl) ?_; clear hf a; intro a hf
  refine o_end ?_
  refine sy_seq ?_
  refine sy_sq ?_
  refine o_v hf hh (y_lds Try.ag_24 rfl) ?_; clear hf a; intro a hf
  refine o_call hf Try.en_13 rfl rfl rfl (p13 c sa cp _) ?_; clear hf a; intro v a w hR hf
  obtain ⟨rfl, hx⟩ := hR; replace hh := hh.more hx; clear hx
  refine o_v hf hh (yv_move rfl) ?_; clear hf a; intro a hf
  refine guard_split hf (t := 23) rfl (fun hg2 => ?_) (fun hg2 => ?_)
  ·have hG2 := hg2; try simp only [gS] at hG2
   refine o_off hf ?_; clear hf a; intro a hf
   refine o_off hf ?_; clear hf a; intro a hf
   refine o_off hf ?_; clear hf a; intro a hf
   refine o_off hf ?_; clear hf a; intro a hf
   refine o_v hf hh (y_pt rfl rfl) ?_; clear hf a; intro a hf
   refine o_end ?_
   refine c_t hf ?_
   refine sy_sq ?_
   refine o_call hf Try.en_14 rfl rfl rfl (p14 _) ?_; clear hf a; intro v a w hR hf
   obtain ⟨rfl, hx⟩ := hR; replace hh := hh.more hx; clear hx
   refine o_v hf hh (yv_assign rfl) ?_; clear hf a; intro a hf
   refine o_end ?_
   refine sy_ret ?_
   refine then_r ?_
   refine ret_r hf rfl rfl ?_
   first
     | exact ⟨rfl, hh.ext⟩
     | (exfalso
        (repeat (rename Fr _ _ _ _ => z9; clear z9))
        (repeat (rename Hp _ _ _ _ => z9; clear z9))
        (try clear hcn); (try clear hat); (try clear hbe)
        first
          | (rcases hK with ⟨h1, h2⟩ | ⟨h1, h2⟩ <;> first | (omega; done) | (simp_all; done))
          | (rcases hK with ⟨h1, h2, h3⟩ | ⟨h1, h2, h3⟩ | ⟨h1, h2, h3⟩ <;> first | (omega; done) | (simp_all; done))
          | (omega; done)
          | (simp_all; done)
          | (simp_all <;> omega))
     | omega
  ·have hG2 := hg2; try simp only [gS] at hG2
   refine o_v hf hh (yv_fieldAddr Try.fo_24_1 rfl) ?_; clear hf a; intro a hf
   refine o_v hf hh (y_ld Try.sc_22 rfl) ?_; clear hf a; intro a hf
   refine o_v hf hh (yv_len Try.se_22 rfl) ?_; clear hf a; intro a hf
   refine o_v hf hh (yv_bin rfl rfl rfl) ?_; clear hf a; intro a hf
   refine o_v hf hh (y_pf rfl rfl) ?_; clear hf a; intro a hf
   refine o_end ?_
   refine sy_cond hf rfl (fun hg5 => ?_) (fun hg5 => ?_)
   ·have hG5 := hg5; try simp only [gS] at hG5
    refine sy_sq ?_
    refine o_call hf Try.en_14 rfl rfl rfl (p14 _) ?_; clear hf a; intro v a w hR hf
    obtain ⟨rfl, hx⟩ := hR; replace hh := hh.more hx; clear hx
    refine o_v hf hh (yv_assign rfl) ?_; clear hf a; intro a hf
    refine o_end ?_
    refine sy_ret ?_
    refine then_r ?_
    refine ret_r hf rfl rfl ?_
    first
      | exact ⟨rfl, hh.ext⟩
      | (exfalso
         (repeat (rename Fr _ _ _ _ => z9; clear z9))
         (repeat (rename Hp _ _ _ _ => z9; clear z9))
         (try clear hcn); (try clear hat); (try clear hbe)
         first
           | (rcases hK with ⟨h1, h2⟩ | ⟨h1, h2⟩ <;> first | (omega; done) | (simp_all; done))
           | (rcases hK with ⟨h1, h2, h3⟩ | ⟨h1, h2, h3⟩ | ⟨h1, h2, h3⟩ <;> first | (omega; done) | (simp_all; done))
           | (omega; done)
           | (simp_all; done)
           | (simp_all <;> omega))
      | omega
   ·have hG5 := hg5; try simp only [gS] at hG5
    refine sy_skip ?_
    refine then_n ?_
    refine sy_seq ?_
    have hA := hC.at (by assumption)
    refine sy_ops ?_
    refine o_v hf hh (y_lds Try.ag_24 rfl) ?_; clear hf a; intro a hf
    refine o_v hf hh (y_ld Try.sc_3 rfl) ?_; clear hf a; intro a hf
    refine o_v hf hh (y_ld Try.sc_3 rfl) ?_; clear hf a; intro a hf
    refine o_call hf Try.en_17 rfl rfl rfl (p17 c sa cp x y _ (hA.ext hh.ext)) ?_; clear hf a; intro v a w hR hf
    obtain ⟨rfl, hx⟩ := hR; replace hh := hh.more hx; clear hx
    refine o_v hf hh (yv_move rfl) ?_; clear hf a; intro a hf
    refine o_v hf hh (yv_extract rfl rfl) ?_; clear hf a; intro a hf
    refine o_v hf hh (yv_extract rfl rfl) ?_; clear hf a; intro a hf
    refine o_v hf hh (yv_extract rfl rfl) ?_; clear hf a; intro a hf
    refine o_alloc hf hh Try.ze_28 ?_; clear hf hh a; intro B9 a w hf hh
    refine o_alloc hf hh Try.ze_28 ?_; clear hf hh a; intro B10 a w hf hh
    refine o_store hf hh Try.sz_28 fun w hh => ?_
    refine o_store hf hh Try.sz_28 fun w hh => ?_
    refine o_v hf hh (yv_assign rfl) ?_; clear hf a; intro a hf
    refine o_end ?_
    refine sy_seq ?_
    refine sy_seq ?_
    replace hh : Hp u [] [(B10, .cells (spC (betV c true x y)).toArray 28), (B9, .cells (spC (betV c false x y)).toArray 28), (B7, .cells #[.int .u8 k] 5), (B6, .cells #[.int .i64 y] 3), (B5, .cells #[.int .i64 x] 3), (B4, .cells (chC c sa cp) 24)] w := hh
    have hG0 : betE c x y = 0 → chB c = true ∧ (0 ≤ x ∧ x < c.n) ∧ 0 ≤ y ∧ y < c.n := fun h => by
      obtain ⟨hO, _, h1, h2, _⟩ := bet_ok h
      exact ⟨chB_iff.2 hO, st_bd h1, st_bd h2⟩
    refine sy_ops ?_
    refine o_v hf hh (yv_move rfl) ?_; clear hf a; intro a hf
    refine o_v hf hh (yv_bin rfl rfl rfl) ?_; clear hf a; intro a hf
    refine o_v hf hh (yv_move rfl) ?_; clear hf a; intro a hf
    refine guard_split hf (t := 40) rfl (fun hg12 => ?_) (fun hg12 => ?_)
    ·have hG12 := hg12; try simp only [gS] at hG12
     refine o_off hf ?_; clear hf a; intro a hf
     refine o_off hf ?_; clear hf a; intro a hf
     refine o_off hf ?_; clear hf a; intro a hf
     refine o_v hf hh (y_pt rfl rfl) ?_; clear hf a; intro a hf
     refine o_v hf hh (yv_move rfl) ?_; clear hf a; intro a hf
     refine o_off hf ?_; clear hf a; intro a hf
     refine o_off hf ?_; clear hf a; intro a hf
     refine o_v hf hh (y_pt rfl rfl) ?_; clear hf a; intro a hf
     refine o_v hf hh (yv_move rfl) ?_; clear hf a; intro a hf
     refine o_off hf ?_; clear hf a; intro a hf
     refine o_off hf ?_; clear hf a; intro a hf
     refine o_v hf hh (y_pt rfl rfl) ?_; clear hf a; intro a hf
     refine o_v hf hh (yv_move rfl) ?_; clear hf a; intro a hf
     refine o_off hf ?_; clear hf a; intro a hf
     refine o_off hf ?_; clear hf a; intro a hf
     refine o_off hf ?_; clear hf a; intro a hf
     refine o_off hf ?_; clear hf a; intro a hf
     refine o_v hf hh (y_pt rfl rfl) ?_; clear hf a; intro a hf
     refine o_v hf hh (yv_move rfl) ?_; clear hf a; intro a hf
     refine o_off hf ?_; clear hf a; intro a hf
     refine o_off hf ?_; clear hf a; intro a hf
     refine o_off hf ?_; clear hf a; intro a hf
     refine o_off hf ?_; clear hf a; intro a hf
     refine o_v hf hh (y_pt rfl rfl) ?_; clear hf a; intro a hf
     refine o_end ?_
     refine c_t hf ?_
     refine sy_seq ?_
     have hne0 : betE c x y ≠ 0 := fun h => by
       obtain ⟨h1, h2, h3⟩ := hG0 h
       (repeat (rename Fr _ _ _ _ => z9; clear z9))
       (repeat (rename Hp _ _ _ _ => z9; clear z9))
       first
       | omega
       | (simp_all; done)
       | (simp_all <;> omega)
     have hz1 := bet_zero hne0 false
     have hz2 := bet_zero hne0 true
     have hK := bet_one hne0
     clear hG0
     refine sy_ops ?_
     refine o_v hf hh (yv_move rfl) ?_; clear hf a; intro a hf
     refine o_v hf hh (yv_bin rfl rfl rfl) ?_; clear hf a; intro a hf
     refine o_v hf hh (yv_move rfl) ?_; clear hf a; intro a hf
     refine guard_split hf (t := 67) rfl (fun hg14 => ?_) (fun hg14 => ?_)
     ·have hG14 := hg14; try simp only [gS] at hG14
      refine o_v hf hh (y_lds Try.ag_28 rfl) ?_; clear hf a; intro a hf
      refine o_v hf hh (yv_buildS Try.bs_28 rfl rfl) ?_; clear hf a; intro a hf
      refine o_v hf hh (yv_cast (yv_eqF [(betV c false x y).1, (betV c false x y).2] [((0, 0)).1, ((0, 0)).2] fl28 rfl rfl) (congrArg Value.bool (pair_dec (betV c false x y) ((0, 0))))) ?_; clear hf a; intro a hf
      refine o_v hf hh (y_pt rfl rfl) ?_; clear hf a; intro a hf
      refine o_v hf hh (yv_move rfl) ?_; clear hf a; intro a hf
      refine guard_split hf (t := 72) rfl (fun hg16 => ?_) (fun hg16 => ?_)
      ·have hG16 := hg16; try simp only [gS] at hG16
       refine o_v hf hh (y_lds Try.ag_28 rfl) ?_; clear hf a; intro a hf
       refine o_v hf hh (y_lds Try.ag_28 rfl) ?_; clear hf a; intro a hf
       refine o_v hf hh (yv_cast (yv_eqF [(betV c true x y).1, (betV c true x y).2] [(betV c false x y).1, (betV c false x y).2] fl28 rfl rfl) (congrArg Value.bool (pair_dec (betV c true x y) (betV c false x y)))) ?_; clear hf a; intro a hf
       refine o_v hf hh (y_pt rfl rfl) ?_; clear hf a; intro a hf
       refine o_v hf hh (yv_move rfl) ?_; clear hf a; intro a hf
       refine guard_split hf (t := 77) rfl (fun hg18 => ?_) (fun hg18 => ?_)
       ·have hG18 := hg18; try simp only [gS] at hG18
        refine o_v hf hh (yv_move rfl) ?_; clear hf a; intro a hf
        refine o_v hf hh (yv_bin rfl rfl rfl) ?_; clear hf a; intro a hf
        refine o_v hf hh (y_lds Try.ag_24 rfl) ?_; clear hf a; intro a hf
        refine o_call hf Try.en_31 rfl rfl rfl (p31 c sa cp _ (hA.ext hh.ext)) ?_; clear hf a; intro v a w hR hf
        obtain ⟨rfl, hx⟩ := hR; replace hh := hh.more hx; clear hx
        refine o_v hf hh (yv_not rfl) ?_; clear hf a; intro a hf
        refine o_v hf hh (yv_eqb Try.ub_4 rfl rfl) ?_; clear hf a; intro a hf
        refine o_v hf hh (y_pt rfl rfl) ?_; clear hf a; intro a hf
        refine o_v hf hh (yv_move rfl) ?_; clear hf a; intro a hf
        refine guard_split hf (t := 85) rfl (fun hg22 => ?_) (fun hg22 => ?_)
        ·have hG22 := hg22; try simp only [gS] at hG22
         refine o_call hf Try.en_14 rfl rfl rfl (p14 _) ?_; clear hf a; intro v a w hR hf
         obtain ⟨rfl, hx⟩ := hR; replace hh := hh.more hx; clear hx
         refine o_v hf hh (y_pt rfl rfl) ?_; clear hf a; intro a hf
         refine o_v hf hh (yv_assign rfl) ?_; clear hf a; intro a hf
         refine o_end ?_
         refine sy_ret ?_
         refine then_r ?_
         refine ret_r hf rfl rfl ?_
         first
           | exact ⟨rfl, hh.ext⟩
           | (exfalso
              (repeat (rename Fr _ _ _ _ => z9; clear z9))
              (repeat (rename Hp _ _ _ _ => z9; clear z9))
              (try clear hcn); (try clear hat); (try clear hbe)
              first
                | (rcases hK with ⟨h1, h2⟩ | ⟨h1, h2⟩ <;> first | (omega; done) | (simp_all; done))
                | (rcases hK with ⟨h1, h2, h3⟩ | ⟨h1, h2, h3⟩ | ⟨h1, h2, h3⟩ <;> first | (omega; done) | (simp_all; done))
                | (omega; done)
                | (simp_all; done)
                | (simp_all <;> omega))
           | omega
        ·have hG22 := hg22; try simp only [gS] at hG22
         refine o_off hf ?_; clear hf a; intro a hf
         refine o_v hf hh (y_pf rfl rfl) ?_; clear hf a; intro a hf
         refine o_v hf hh (yv_assign rfl) ?_; clear hf a; intro a hf
         refine o_end ?_
         refine sy_ret ?_
         refine then_r ?_
         refine ret_r hf rfl rfl ?_
         first
           | exact ⟨rfl, hh.ext⟩
           | (exfalso
              (repeat (rename Fr _ _ _ _ => z9; clear z9))
              (repeat (rename Hp _ _ _ _ => z9; clear z9))
              (try clear hcn); (try clear hat); (try clear hbe)
              first
                | (rcases hK with ⟨h1, h2⟩ | ⟨h1, h2⟩ <;> first | (omega; done) | (simp_all; done))
                | (rcases hK with ⟨h1, h2, h3⟩ | ⟨h1, h2, h3⟩ | ⟨h1, h2, h3⟩ <;> first | (omega; done) | (simp_all; done))
                | (omega; done)
                | (simp_all; done)
                | (simp_all <;> omega))
           | omega
       ·have hG18 := hg18; try simp only [gS] at hG18
        refine o_off hf ?_; clear hf a; intro a hf
        refine o_off hf ?_; clear hf a; intro a hf
        refine o_off hf ?_; clear hf a; intro a hf
        refine o_off hf ?_; clear hf a; intro a hf
        refine o_off hf ?_; clear hf a; intro a hf
        refine o_off hf ?_; clear hf a; intro a hf
        refine o_v hf hh (y_pf rfl rfl) ?_; clear hf a; intro a hf
        refine o_v hf hh (yv_move rfl) ?_; clear hf a; intro a hf
        refine o_off hf ?_; clear hf a; intro a hf
        refine o_v hf hh (y_pf rfl rfl) ?_; clear hf a; intro a hf
        refine o_v hf hh (yv_assign rfl) ?_; clear hf a; intro a hf
        refine o_end ?_
        refine sy_ret ?_
        refine then_r ?_
        refine ret_r hf rfl rfl ?_
        first
          | exact ⟨rfl, hh.ext⟩
          | (exfalso
             (repeat (rename Fr _ _ _ _ => z9; clear z9))
             (repeat (rename Hp _ _ _ _ => z9; clear z9))
             (try clear hcn); (try clear hat); (try clear hbe)
             first
               | (rcases hK with ⟨h1, h2⟩ | ⟨h1, h2⟩ <;> first | (omega; done) | (simp_all; done))
               | (rcases hK with ⟨h1, h2, h3⟩ | ⟨h1, h2, h3⟩ | ⟨h1, h2, h3⟩ <;> first | (omega; done) | (simp_all; done))
               | (omega; done)
               | (simp_all; done)
               | (simp_all <;> omega))
          | omega
      ·have hG16 := hg16; try simp only [gS] at hG16
       refine o_off hf ?_; clear hf a; intro a hf
       refine o_off hf ?_; clear hf a; intro a hf
       refine o_off hf ?_; clear hf a; intro a hf
       refine o_v hf hh (y_pf rfl rfl) ?_; clear hf a; intro a hf
       refine o_v hf hh (yv_move rfl) ?_; clear hf a; intro a hf
       refine o_off hf ?_; clear hf a; intro a hf
       refine o_off hf ?_; clear hf a; intro a hf
       refine o_off hf ?_; clear hf a; intro a hf
       refine o_off hf ?_; clear hf a; intro a hf
       refine o_off hf ?_; clear hf a; intro a hf
       refine o_off hf ?_; clear hf a; intro a hf
       refine o_v hf hh (y_pf rfl rfl) ?_; clear hf a; intro a hf
       refine o_v hf hh (yv_move rfl) ?_; clear hf a; intro a hf
       refine o_off hf ?_; clear hf a; intro a hf
       refine o_v hf hh (y_pf rfl rfl) ?_; clear hf a; intro a hf
       refine o_v hf hh (yv_assign rfl) ?_; clear hf a; intro a hf
       refine o_end ?_
       refine sy_ret ?_
       refine then_r ?_
       refine ret_r hf rfl rfl ?_
       first
         | exact ⟨rfl, hh.ext⟩
         | (exfalso
            (repeat (rename Fr _ _ _ _ => z9; clear z9))
            (repeat (rename Hp _ _ _ _ => z9; clear z9))
            (try clear hcn); (try clear hat); (try clear hbe)
            first
              | (rcases hK with ⟨h1, h2⟩ | ⟨h1, h2⟩ <;> first | (omega; done) | (simp_all; done))
              | (rcases hK with ⟨h1, h2, h3⟩ | ⟨h1, h2, h3⟩ | ⟨h1, h2, h3⟩ <;> first | (omega; done) | (simp_all; done))
              | (omega; done)
              | (simp_all; done)
              | (simp_all <;> omega))
         | omega
     ·have hG14 := hg14; try simp only [gS] at hG14
      refine o_off hf ?_; clear hf a; intro a hf
      refine o_off hf ?_; clear hf a; intro a hf
      refine o_off hf ?_; clear hf a; intro a hf
      refine o_v hf hh (y_pf rfl rfl) ?_; clear hf a; intro a hf
      refine o_v hf hh (yv_move rfl) ?_; clear hf a; intro a hf
      refine o_off hf ?_; clear hf a; intro a hf
      refine o_off hf ?_; clear hf a; intro a hf
      refine o_off hf ?_; clear hf a; intro a hf
      refine o_v hf hh (y_pf rfl rfl) ?_; clear hf a; intro a hf
      refine o_v hf hh (yv_move rfl) ?_; clear hf a; intro a hf
      refine o_off hf ?_; clear hf a; intro a hf
      refine o_off hf ?_; clear hf a; intro a hf
      refine o_off hf ?_; clear hf a; intro a hf
      refine o_off hf ?_; clear hf a; intro a hf
      refine o_off hf ?_; clear hf a; intro a hf
      refine o_off hf ?_; clear hf a; intro a hf
      refine o_v hf hh (y_pf rfl rfl) ?_; clear hf a; intro a hf
      refine o_v hf hh (yv_move rfl) ?_; clear hf a; intro a hf
      refine o_off hf ?_; clear hf a; intro a hf
      refine o_v hf hh (y_pf rfl rfl) ?_; clear hf a; intro a hf
      refine o_v hf hh (yv_assign rfl) ?_; clear hf a; intro a hf
      refine o_end ?_
      refine sy_ret ?_
      refine then_r ?_
      refine ret_r hf rfl rfl ?_
      first
        | exact ⟨rfl, hh.ext⟩
        | (exfalso
           (repeat (rename Fr _ _ _ _ => z9; clear z9))
           (repeat (rename Hp _ _ _ _ => z9; clear z9))
           (try clear hcn); (try clear hat); (try clear hbe)
           first
             | (rcases hK with ⟨h1, h2⟩ | ⟨h1, h2⟩ <;> first | (omega; done) | (simp_all; done))
             | (rcases hK with ⟨h1, h2, h3⟩ | ⟨h1, h2, h3⟩ | ⟨h1, h2, h3⟩ <;> first | (omega; done) | (simp_all; done))
             | (omega; done)
             | (simp_all; done)
             | (simp_all <;> omega))
        | omega
    ·have hG12 := hg12; try simp only [gS] at hG12
     refine o_v hf hh (y_lds Try.ag_24 rfl) ?_; clear hf a; intro a hf
     refine o_call hf Try.en_31 rfl rfl rfl (p31 c sa cp _ (hA.ext hh.ext)) ?_; clear hf a; intro v a w hR hf
     obtain ⟨rfl, hx⟩ := hR; replace hh := hh.more hx; clear hx
     refine o_v hf hh (yv_not rfl) ?_; clear hf a; intro a hf
     refine o_v hf hh (y_pf rfl rfl) ?_; clear hf a; intro a hf
     refine o_v hf hh (yv_move rfl) ?_; clear hf a; intro a hf
     refine guard_split hf (t := 45) rfl (fun hg25 => ?_) (fun hg25 => ?_)
     ·have hG25 := hg25; try simp only [gS] at hG25
      refine o_off hf ?_; clear hf a; intro a hf
      refine o_off hf ?_; clear hf a; intro a hf
      refine o_v hf hh (y_pt rfl rfl) ?_; clear hf a; intro a hf
      refine o_v hf hh (yv_move rfl) ?_; clear hf a; intro a hf
      refine o_off hf ?_; clear hf a; intro a hf
      refine o_off hf ?_; clear hf a; intro a hf
      refine o_v hf hh (y_pt rfl rfl) ?_; clear hf a; intro a hf
      refine o_v hf hh (yv_move rfl) ?_; clear hf a; intro a hf
      refine o_off hf ?_; clear hf a; intro a hf
      refine o_off hf ?_; clear hf a; intro a hf
      refine o_off hf ?_; clear hf a; intro a hf
      refine o_off hf ?_; clear hf a; intro a hf
      refine o_v hf hh (y_pt rfl rfl) ?_; clear hf a; intro a hf
      refine o_v hf hh (yv_move rfl) ?_; clear hf a; intro a hf
      refine o_off hf ?_; clear hf a; intro a hf
      refine o_off hf ?_; clear hf a; intro a hf
      refine o_off hf ?_; clear hf a; intro a hf
      refine o_off hf ?_; clear hf a; intro a hf
      refine o_v hf hh (y_pt rfl rfl) ?_; clear hf a; intro a hf
      refine o_end ?_
      refine c_t hf ?_
      refine sy_seq ?_
      have hne0 : betE c x y ≠ 0 := fun h => by
        obtain ⟨h1, h2, h3⟩ := hG0 h
        (repeat (rename Fr _ _ _ _ => z9; clear z9))
        (repeat (rename Hp _ _ _ _ => z9; clear z9))
        first
        | omega
        | (simp_all; done)
        | (simp_all <;> omega)
      have hz1 := bet_zero hne0 false
      have hz2 := bet_zero hne0 true
      have hK := bet_one hne0
      clear hG0
      refine sy_ops ?_
      refine o_v hf hh (yv_move rfl) ?_; clear hf a; intro a hf
      refine o_v hf hh (yv_bin rfl rfl rfl) ?_; clear hf a; intro a hf
      refine o_v hf hh (yv_move rfl) ?_; clear hf a; intro a hf
      refine guard_split hf (t := 67) rfl (fun hg27 => ?_) (fun hg27 => ?_)
      ·have hG27 := hg27; try simp only [gS] at hG27
       refine o_v hf hh (y_lds Try.ag_28 rfl) ?_; clear hf a; intro a hf
       refine o_v hf hh (yv_buildS Try.bs_28 rfl rfl) ?_; clear hf a; intro a hf
       refine o_v hf hh (yv_cast (yv_eqF [(betV c false x y).1, (betV c false x y).2] [((0, 0)).1, ((0, 0)).2] fl28 rfl rfl) (congrArg Value.bool (pair_dec (betV c false x y) ((0, 0))))) ?_; clear hf a; intro a hf
       refine o_v hf hh (y_pt rfl rfl) ?_; clear hf a; intro a hf
       refine o_v hf hh (yv_move rfl) ?_; clear hf a; intro a hf
       refine guard_split hf (t := 72) rfl (fun hg29 => ?_) (fun hg29 => ?_)
       ·have hG29 := hg29; try simp only [gS] at hG29
        refine o_v hf hh (y_lds Try.ag_28 rfl) ?_; clear hf a; intro a hf
        refine o_v hf hh (y_lds Try.ag_28 rfl) ?_; clear hf a; intro a hf
        refine o_v hf hh (yv_cast (yv_eqF [(betV c true x y).1, (betV c true x y).2] [(betV c false x y).1, (betV c false x y).2] fl28 rfl rfl) (congrArg Value.bool (pair_dec (betV c true x y) (betV c false x y)))) ?_; clear hf a; intro a hf
        refine o_v hf hh (y_pt rfl rfl) ?_; clear hf a; intro a hf
        refine o_v hf hh (yv_move rfl) ?_; clear hf a; intro a hf
        refine guard_split hf (t := 77) rfl (fun hg31 => ?_) (fun hg31 => ?_)
        ·have hG31 := hg31; try simp only [gS] at hG31
         refine o_v hf hh (yv_move rfl) ?_; clear hf a; intro a hf
         refine o_v hf hh (yv_bin rfl rfl rfl) ?_; clear hf a; intro a hf
         refine o_v hf hh (y_lds Try.ag_24 rfl) ?_; clear hf a; intro a hf
         refine o_call hf Try.en_31 rfl rfl rfl (p31 c sa cp _ (hA.ext hh.ext)) ?_; clear hf a; intro v a w hR hf
         obtain ⟨rfl, hx⟩ := hR; replace hh := hh.more hx; clear hx
         refine o_v hf hh (yv_not rfl) ?_; clear hf a; intro a hf
         refine o_v hf hh (yv_eqb Try.ub_4 rfl rfl) ?_; clear hf a; intro a hf
         refine o_v hf hh (y_pt rfl rfl) ?_; clear hf a; intro a hf
         refine o_v hf hh (yv_move rfl) ?_; clear hf a; intro a hf
         refine guard_split hf (t := 85) rfl (fun hg35 => ?_) (fun hg35 => ?_)
         ·have hG35 := hg35; try simp only [gS] at hG35
          refine o_call hf Try.en_14 rfl rfl rfl (p14 _) ?_; clear hf a; intro v a w hR hf
          obtain ⟨rfl, hx⟩ := hR; replace hh := hh.more hx; clear hx
          refine o_v hf hh (y_pt rfl rfl) ?_; clear hf a; intro a hf
          refine o_v hf hh (yv_assign rfl) ?_; clear hf a; intro a hf
          refine o_end ?_
          refine sy_ret ?_
          refine then_r ?_
          refine ret_r hf rfl rfl ?_
          first
            | exact ⟨rfl, hh.ext⟩
            | (exfalso
               (repeat (rename Fr _ _ _ _ => z9; clear z9))
               (repeat (rename Hp _ _ _ _ => z9; clear z9))
               (try clear hcn); (try clear hat); (try clear hbe)
               first
                 | (rcases hK with ⟨h1, h2⟩ | ⟨h1, h2⟩ <;> first | (omega; done) | (simp_all; done))
                 | (rcases hK with ⟨h1, h2, h3⟩ | ⟨h1, h2, h3⟩ | ⟨h1, h2, h3⟩ <;> first | (omega; done) | (simp_all; done))
                 | (omega; done)
                 | (simp_all; done)
                 | (simp_all <;> omega))
            | omega
         ·have hG35 := hg35; try simp only [gS] at hG35
          refine o_off hf ?_; clear hf a; intro a hf
          refine o_v hf hh (y_pf rfl rfl) ?_; clear hf a; intro a hf
          refine o_v hf hh (yv_assign rfl) ?_; clear hf a; intro a hf
          refine o_end ?_
          refine sy_ret ?_
          refine then_r ?_
          refine ret_r hf rfl rfl ?_
          first
            | exact ⟨rfl, hh.ext⟩
            | (exfalso
               (repeat (rename Fr _ _ _ _ => z9; clear z9))
               (repeat (rename Hp _ _ _ _ => z9; clear z9))
               (try clear hcn); (try clear hat); (try clear hbe)
               first
                 | (rcases hK with ⟨h1, h2⟩ | ⟨h1, h2⟩ <;> first | (omega; done) | (simp_all; done))
                 | (rcases hK with ⟨h1, h2, h3⟩ | ⟨h1, h2, h3⟩ | ⟨h1, h2, h3⟩ <;> first | (omega; done) | (simp_all; done))
                 | (omega; done)
                 | (simp_all; done)
                 | (simp_all <;> omega))
            | omega
        ·have hG31 := hg31; try simp only [gS] at hG31
         refine o_off hf ?_; clear hf a; intro a hf
         refine o_off hf ?_; clear hf a; intro a hf
         refine o_off hf ?_; clear hf a; intro a hf
         refine o_off hf ?_; clear hf a; intro a hf
         refine o_off hf ?_; clear hf a; intro a hf
         refine o_off hf ?_; clear hf a; intro a hf
         refine o_v hf hh (y_pf rfl rfl) ?_; clear hf a; intro a hf
         refine o_v hf hh (yv_move rfl) ?_; clear hf a; intro a hf
         refine o_off hf ?_; clear hf a; intro a hf
         refine o_v hf hh (y_pf rfl rfl) ?_; clear hf a; intro a hf
         refine o_v hf hh (yv_assign rfl) ?_; clear hf a; intro a hf
         refine o_end ?_
         refine sy_ret ?_
         refine then_r ?_
         refine ret_r hf rfl rfl ?_
         first
           | exact ⟨rfl, hh.ext⟩
           | (exfalso
              (repeat (rename Fr _ _ _ _ => z9; clear z9))
              (repeat (rename Hp _ _ _ _ => z9; clear z9))
              (try clear hcn); (try clear hat); (try clear hbe)
              first
                | (rcases hK with ⟨h1, h2⟩ | ⟨h1, h2⟩ <;> first | (omega; done) | (simp_all; done))
                | (rcases hK with ⟨h1, h2, h3⟩ | ⟨h1, h2, h3⟩ | ⟨h1, h2, h3⟩ <;> first | (omega; done) | (simp_all; done))
                | (omega; done)
                | (simp_all; done)
                | (simp_all <;> omega))
           | omega
       ·have hG29 := hg29; try simp only [gS] at hG29
        refine o_off hf ?_; clear hf a; intro a hf
        refine o_off hf ?_; clear hf a; intro a hf
        refine o_off hf ?_; clear hf a; intro a hf
        refine o_v hf hh (y_pf rfl rfl) ?_; clear hf a; intro a hf
        refine o_v hf hh (yv_move rfl) ?_; clear hf a; intro a hf
        refine o_off hf ?_; clear hf a; intro a hf
        refine o_off hf ?_; clear hf a; intro a hf
        refine o_off hf ?_; clear hf a; intro a hf
        refine o_off hf ?_; clear hf a; intro a hf
        refine o_off hf ?_; clear hf a; intro a hf
        refine o_off hf ?_; clear hf a; intro a hf
        refine o_v hf hh (y_pf rfl rfl) ?_; clear hf a; intro a hf
        refine o_v hf hh (yv_move rfl) ?_; clear hf a; intro a hf
        refine o_off hf ?_; clear hf a; intro a hf
        refine o_v hf hh (y_pf rfl rfl) ?_; clear hf a; intro a hf
        refine o_v hf hh (yv_assign rfl) ?_; clear hf a; intro a hf
        refine o_end ?_
        refine sy_ret ?_
        refine then_r ?_
        refine ret_r hf rfl rfl ?_
        first
          | exact ⟨rfl, hh.ext⟩
          | (exfalso
             (repeat (rename Fr _ _ _ _ => z9; clear z9))
             (repeat (rename Hp _ _ _ _ => z9; clear z9))
             (try clear hcn); (try clear hat); (try clear hbe)
             first
               | (rcases hK with ⟨h1, h2⟩ | ⟨h1, h2⟩ <;> first | (omega; done) | (simp_all; done))
               | (rcases hK with ⟨h1, h2, h3⟩ | ⟨h1, h2, h3⟩ | ⟨h1, h2, h3⟩ <;> first | (omega; done) | (simp_all; done))
               | (omega; done)
               | (simp_all; done)
               | (simp_all <;> omega))
          | omega
      ·have hG27 := hg27; try simp only [gS] at hG27
       refine o_off hf ?_; clear hf a; intro a hf
       refine o_off hf ?_; clear hf a; intro a hf
       refine o_off hf ?_; clear hf a; intro a hf
       refine o_v hf hh (y_pf rfl rfl) ?_; clear hf a; intro a hf
       refine o_v hf hh (yv_move rfl) ?_; clear hf a; intro a hf
       refine o_off hf ?_; clear hf a; intro a hf
       refine o_off hf ?_; clear hf a; intro a hf
       refine o_off hf ?_; clear hf a; intro a hf
       refine o_v hf hh (y_pf rfl rfl) ?_; clear hf a; intro a hf
       refine o_v hf hh (yv_move rfl) ?_; clear hf a; intro a hf
       refine o_off hf ?_; clear hf a; intro a hf
       refine o_off hf ?_; clear hf a; intro a hf
       refine o_off hf ?_; clear hf a; intro a hf
       refine o_off hf ?_; clear hf a; intro a hf
       refine o_off hf ?_; clear hf a; intro a hf
       refine o_off hf ?_; clear hf a; intro a hf
       refine o_v hf hh (y_pf rfl rfl) ?_; clear hf a; intro a hf
       refine o_v hf hh (yv_move rfl) ?_; clear hf a; intro a hf
       refine o_off hf ?_; clear hf a; intro a hf
       refine o_v hf hh (y_pf rfl rfl) ?_; clear hf a; intro a hf
       refine o_v hf hh (yv_assign rfl) ?_; clear hf a; intro a hf
       refine o_end ?_
       refine sy_ret ?_
       refine then_r ?_
       refine ret_r hf rfl rfl ?_
       first
         | exact ⟨rfl, hh.ext⟩
         | (exfalso
            (repeat (rename Fr _ _ _ _ => z9; clear z9))
            (repeat (rename Hp _ _ _ _ => z9; clear z9))
            (try clear hcn); (try clear hat); (try clear hbe)
            first
              | (rcases hK with ⟨h1, h2⟩ | ⟨h1, h2⟩ <;> first | (omega; done) | (simp_all; done))
              | (rcases hK with ⟨h1, h2, h3⟩ | ⟨h1, h2, h3⟩ | ⟨h1, h2, h3⟩ <;> first | (omega; done) | (simp_all; done))
              | (omega; done)
              | (simp_all; done)
              | (simp_all <;> omega))
         | omega
     ·have hG25 := hg25; try simp only [gS] at hG25
      refine o_v hf hh (y_ld Try.sc_3 rfl) ?_; clear hf a; intro a hf
      refine o_v hf hh (yv_bin rfl rfl rfl) ?_; clear hf a; intro a hf
      refine o_v hf hh (y_pf rfl rfl) ?_; clear hf a; intro a hf
      refine o_v hf hh (yv_move rfl) ?_; clear hf a; intro a hf
      refine guard_split hf (t := 49) rfl (fun hg38 => ?_) (fun hg38 => ?_)
      ·have hG38 := hg38; try simp only [gS] at hG38
       refine o_off hf ?_; clear hf a; intro a hf
       refine o_off hf ?_; clear hf a; intro a hf
       refine o_v hf hh (y_pt rfl rfl) ?_; clear hf a; intro a hf
       refine o_v hf hh (yv_move rfl) ?_; clear hf a; intro a hf
       refine o_off hf ?_; clear hf a; intro a hf
       refine o_off hf ?_; clear hf a; intro a hf
       refine o_off hf ?_; clear hf a; intro a hf
       refine o_off hf ?_; clear hf a; intro a hf
       refine o_v hf hh (y_pt rfl rfl) ?_; clear hf a; intro a hf
       refine o_v hf hh (yv_move rfl) ?_; clear hf a; intro a hf
       refine o_off hf ?_; clear hf a; intro a hf
       refine o_off hf ?_; clear hf a; intro a hf
       refine o_off hf ?_; clear hf a; intro a hf
       refine o_off hf ?_; clear hf a; intro a hf
       refine o_v hf hh (y_pt rfl rfl) ?_; clear hf a; intro a hf
       refine o_end ?_
       refine c_t hf ?_
       refine sy_seq ?_
       have hne0 : betE c x y ≠ 0 := fun h => by
         obtain ⟨h1, h2, h3⟩ := hG0 h
         (repeat (rename Fr _ _ _ _ => z9; clear z9))
         (repeat (rename Hp _ _ _ _ => z9; clear z9))
         first
         | omega
         | (simp_all; done)
         | (simp_all <;> omega)
       have hz1 := bet_zero hne0 false
       have hz2 := bet_zero hne0 true
       have hK := bet_one hne0
       clear hG0
       refine sy_ops ?_
       refine o_v hf hh (yv_move rfl) ?_; clear hf a; intro a hf
       refine o_v hf hh (yv_bin rfl rfl rfl) ?_; clear hf a; intro a hf
       refine o_v hf hh (yv_move rfl) ?_; clear hf a; intro a hf
       refine guard_split hf (t := 67) rfl (fun hg40 => ?_) (fun hg40 => ?_)
       ·have hG40 := hg40; try simp only [gS] at hG40
        refine o_v hf hh (y_lds Try.ag_28 rfl) ?_; clear hf a; intro a hf
        refine o_v hf hh (yv_buildS Try.bs_28 rfl rfl) ?_; clear hf a; intro a hf
        refine o_v hf hh (yv_cast (yv_eqF [(betV c false x y).1, (betV c false x y).2] [((0, 0)).1, ((0, 0)).2] fl28 rfl rfl) (congrArg Value.bool (pair_dec (betV c false x y) ((0, 0))))) ?_; clear hf a; intro a hf
        refine o_v hf hh (y_pt rfl rfl) ?_; clear hf a; intro a hf
        refine o_v hf hh (yv_move rfl) ?_; clear hf a; intro a hf
        refine guard_split hf (t := 72) rfl (fun hg42 => ?_) (fun hg42 => ?_)
        ·have hG42 := hg42; try simp only [gS] at hG42
         refine o_v hf hh (y_lds Try.ag_28 rfl) ?_; clear hf a; intro a hf
         refine o_v hf hh (y_lds Try.ag_28 rfl) ?_; clear hf a; intro a hf
         refine o_v hf hh (yv_cast (yv_eqF [(betV c true x y).1, (betV c true x y).2] [(betV c false x y).1, (betV c false x y).2] fl28 rfl rfl) (congrArg Value.bool (pair_dec (betV c true x y) (betV c false x y)))) ?_; clear hf a; intro a hf
         refine o_v hf hh (y_pt rfl rfl) ?_; clear hf a; intro a hf
         refine o_v hf hh (yv_move rfl) ?_; clear hf a; intro a hf
         refine guard_split hf (t := 77) rfl (fun hg44 => ?_) (fun hg44 => ?_)
         ·have hG44 := hg44; try simp only [gS] at hG44
          refine o_v hf hh (yv_move rfl) ?_; clear hf a; intro a hf
          refine o_v hf hh (yv_bin rfl rfl rfl) ?_; clear hf a; intro a hf
          refine o_v hf hh (y_lds Try.ag_24 rfl) ?_; clear hf a; intro a hf
          refine o_call hf Try.en_31 rfl rfl rfl (p31 c sa cp _ (hA.ext hh.ext)) ?_; clear hf a; intro v a w hR hf
          obtain ⟨rfl, hx⟩ := hR; replace hh := hh.more hx; clear hx
          refine o_v hf hh (yv_not rfl) ?_; clear hf a; intro a hf
          refine o_v hf hh (yv_eqb Try.ub_4 rfl rfl) ?_; clear hf a; intro a hf
          refine o_v hf hh (y_pt rfl rfl) ?_; clear hf a; intro a hf
          refine o_v hf hh (yv_move rfl) ?_; clear hf a; intro a hf
          refine guard_split hf (t := 85) rfl (fun hg48 => ?_) (fun hg48 => ?_)
          ·have hG48 := hg48; try simp only [gS] at hG48
           refine o_call hf Try.en_14 rfl rfl rfl (p14 _) ?_; clear hf a; intro v a w hR hf
           obtain ⟨rfl, hx⟩ := hR; replace hh := hh.more hx; clear hx
           refine o_v hf hh (y_pt rfl rfl) ?_; clear hf a; intro a hf
           refine o_v hf hh (yv_assign rfl) ?_; clear hf a; intro a hf
           refine o_end ?_
           refine sy_ret ?_
           refine then_r ?_
           refine ret_r hf rfl rfl ?_
           first
             | exact ⟨rfl, hh.ext⟩
             | (exfalso
                (repeat (rename Fr _ _ _ _ => z9; clear z9))
                (repeat (rename Hp _ _ _ _ => z9; clear z9))
                (try clear hcn); (try clear hat); (try clear hbe)
                first
                  | (rcases hK with ⟨h1, h2⟩ | ⟨h1, h2⟩ <;> first | (omega; done) | (simp_all; done))
                  | (rcases hK with ⟨h1, h2, h3⟩ | ⟨h1, h2, h3⟩ | ⟨h1, h2, h3⟩ <;> first | (omega; done) | (simp_all; done))
                  | (omega; done)
                  | (simp_all; done)
                  | (simp_all <;> omega))
             | omega
          ·have hG48 := hg48; try simp only [gS] at hG48
           refine o_off hf ?_; clear hf a; intro a hf
           refine o_v hf hh (y_pf rfl rfl) ?_; clear hf a; intro a hf
           refine o_v hf hh (yv_assign rfl) ?_; clear hf a; intro a hf
           refine o_end ?_
           refine sy_ret ?_
           refine then_r ?_
           refine ret_r hf rfl rfl ?_
           first
             | exact ⟨rfl, hh.ext⟩
             | (exfalso
                (repeat (rename Fr _ _ _ _ => z9; clear z9))
                (repeat (rename Hp _ _ _ _ => z9; clear z9))
                (try clear hcn); (try clear hat); (try clear hbe)
                first
                  | (rcases hK with ⟨h1, h2⟩ | ⟨h1, h2⟩ <;> first | (omega; done) | (simp_all; done))
                  | (rcases hK with ⟨h1, h2, h3⟩ | ⟨h1, h2, h3⟩ | ⟨h1, h2, h3⟩ <;> first | (omega; done) | (simp_all; done))
                  | (omega; done)
                  | (simp_all; done)
                  | (simp_all <;> omega))
             | omega
         ·have hG44 := hg44; try simp only [gS] at hG44
          refine o_off hf ?_; clear hf a; intro a hf
          refine o_off hf ?_; clear hf a; intro a hf
          refine o_off hf ?_; clear hf a; intro a hf
          refine o_off hf ?_; clear hf a; intro a hf
          refine o_off hf ?_; clear hf a; intro a hf
          refine o_off hf ?_; clear hf a; intro a hf
          refine o_v hf hh (y_pf rfl rfl) ?_; clear hf a; intro a hf
          refine o_v hf hh (yv_move rfl) ?_; clear hf a; intro a hf
          refine o_off hf ?_; clear hf a; intro a hf
          refine o_v hf hh (y_pf rfl rfl) ?_; clear hf a; intro a hf
          refine o_v hf hh (yv_assign rfl) ?_; clear hf a; intro a hf
          refine o_end ?_
          refine sy_ret ?_
          refine then_r ?_
          refine ret_r hf rfl rfl ?_
          first
            | exact ⟨rfl, hh.ext⟩
            | (exfalso
               (repeat (rename Fr _ _ _ _ => z9; clear z9))
               (repeat (rename Hp _ _ _ _ => z9; clear z9))
               (try clear hcn); (try clear hat); (try clear hbe)
               first
                 | (rcases hK with ⟨h1, h2⟩ | ⟨h1, h2⟩ <;> first | (omega; done) | (simp_all; done))
                 | (rcases hK with ⟨h1, h2, h3⟩ | ⟨h1, h2, h3⟩ | ⟨h1, h2, h3⟩ <;> first | (omega; done) | (simp_all; done))
                 | (omega; done)
                 | (simp_all; done)
                 | (simp_all <;> omega))
            | omega
        ·have hG42 := hg42; try simp only [gS] at hG42
         refine o_off hf ?_; clear hf a; intro a hf
         refine o_off hf ?_; clear hf a; intro a hf
         refine o_off hf ?_; clear hf a; intro a hf
         refine o_v hf hh (y_pf rfl rfl) ?_; clear hf a; intro a hf
         refine o_v hf hh (yv_move rfl) ?_; clear hf a; intro a hf
         refine o_off hf ?_; clear hf a; intro a hf
         refine o_off hf ?_; clear hf a; intro a hf
         refine o_off hf ?_; clear hf a; intro a hf
         refine o_off hf ?_; clear hf a; intro a hf
         refine o_off hf ?_; clear hf a; intro a hf
         refine o_off hf ?_; clear hf a; intro a hf
         refine o_v hf hh (y_pf rfl rfl) ?_; clear hf a; intro a hf
         refine o_v hf hh (yv_move rfl) ?_; clear hf a; intro a hf
         refine o_off hf ?_; clear hf a; intro a hf
         refine o_v hf hh (y_pf rfl rfl) ?_; clear hf a; intro a hf
         refine o_v hf hh (yv_assign rfl) ?_; clear hf a; intro a hf
         refine o_end ?_
         refine sy_ret ?_
         refine then_r ?_
         refine ret_r hf rfl rfl ?_
         first
           | exact ⟨rfl, hh.ext⟩
           | (exfalso
              (repeat (rename Fr _ _ _ _ => z9; clear z9))
              (repeat (rename Hp _ _ _ _ => z9; clear z9))
              (try clear hcn); (try clear hat); (try clear hbe)
              first
                | (rcases hK with ⟨h1, h2⟩ | ⟨h1, h2⟩ <;> first | (omega; done) | (simp_all; done))
                | (rcases hK with ⟨h1, h2, h3⟩ | ⟨h1, h2, h3⟩ | ⟨h1, h2, h3⟩ <;> first | (omega; done) | (simp_all; done))
                | (omega; done)
                | (simp_all; done)
                | (simp_all <;> omega))
           | omega
       ·have hG40 := hg40; try simp only [gS] at hG40
        refine o_off hf ?_; clear hf a; intro a hf
        refine o_off hf ?_; clear hf a; intro a hf
        refine o_off hf ?_; clear hf a; intro a hf
        refine o_v hf hh (y_pf rfl rfl) ?_; clear hf a; intro a hf
        refine o_v hf hh (yv_move rfl) ?_; clear hf a; intro a hf
        refine o_off hf ?_; clear hf a; intro a hf
        refine o_off hf ?_; clear hf a; intro a hf
        refine o_off hf ?_; clear hf a; intro a hf
        refine o_v hf hh (y_pf rfl rfl) ?_; clear hf a; intro a hf
        refine o_v hf hh (yv_move rfl) ?_; clear hf a; intro a hf
        refine o_off hf ?_; clear hf a; intro a hf
        refine o_off hf ?_; clear hf a; intro a hf
        refine o_off hf ?_; clear hf a; intro a hf
        refine o_off hf ?_; clear hf a; intro a hf
        refine o_off hf ?_; clear hf a; intro a hf
        refine o_off hf ?_; clear hf a; intro a hf
        refine o_v hf hh (y_pf rfl rfl) ?_; clear hf a; intro a hf
        refine o_v hf hh (yv_move rfl) ?_; clear hf a; intro a hf
        refine o_off hf ?_; clear hf a; intro a hf
        refine o_v hf hh (y_pf rfl rfl) ?_; clear hf a; intro a hf
        refine o_v hf hh (yv_assign rfl) ?_; clear hf a; intro a hf
        refine o_end ?_
        refine sy_ret ?_
        refine then_r ?_
        refine ret_r hf rfl rfl ?_
        first
          | exact ⟨rfl, hh.ext⟩
          | (exfalso
             (repeat (rename Fr _ _ _ _ => z9; clear z9))
             (repeat (rename Hp _ _ _ _ => z9; clear z9))
             (try clear hcn); (try clear hat); (try clear hbe)
             first
               | (rcases hK with ⟨h1, h2⟩ | ⟨h1, h2⟩ <;> first | (omega; done) | (simp_all; done))
               | (rcases hK with ⟨h1, h2, h3⟩ | ⟨h1, h2, h3⟩ | ⟨h1, h2, h3⟩ <;> first | (omega; done) | (simp_all; done))
               | (omega; done)
               | (simp_all; done)
               | (simp_all <;> omega))
          | omega
      ·have hG38 := hg38; try simp only [gS] at hG38
       refine o_v hf hh (y_ld Try.sc_3 rfl) ?_; clear hf a; intro a hf
       refine o_v hf hh (yv_bin rfl rfl rfl) ?_; clear hf a; intro a hf
       refine o_v hf hh (y_pf rfl rfl) ?_; clear hf a; intro a hf
       refine o_v hf hh (yv_move rfl) ?_; clear hf a; intro a hf
       refine guard_split hf (t := 53) rfl (fun hg51 => ?_) (fun hg51 => ?_)
       ·have hG51 := hg51; try simp only [gS] at hG51
        refine o_off hf ?_; clear hf a; intro a hf
        refine o_off hf ?_; clear hf a; intro a hf
        refine o_off hf ?_; clear hf a; intro a hf
        refine o_off hf ?_; clear hf a; intro a hf
        refine o_v hf hh (y_pt rfl rfl) ?_; clear hf a; intro a hf
        refine o_v hf hh (yv_move rfl) ?_; clear hf a; intro a hf
        refine o_off hf ?_; clear hf a; intro a hf
        refine o_off hf ?_; clear hf a; intro a hf
        refine o_off hf ?_; clear hf a; intro a hf
        refine o_off hf ?_; clear hf a; intro a hf
        refine o_v hf hh (y_pt rfl rfl) ?_; clear hf a; intro a hf
        refine o_end ?_
        refine c_t hf ?_
        refine sy_seq ?_
        have hne0 : betE c x y ≠ 0 := fun h => by
          obtain ⟨h1, h2, h3⟩ := hG0 h
          (repeat (rename Fr _ _ _ _ => z9; clear z9))
          (repeat (rename Hp _ _ _ _ => z9; clear z9))
          first
          | omega
          | (simp_all; done)
          | (simp_all <;> omega)
        have hz1 := bet_zero hne0 false
        have hz2 := bet_zero hne0 true
        have hK := bet_one hne0
        clear hG0
        refine sy_ops ?_
        refine o_v hf hh (yv_move rfl) ?_; clear hf a; intro a hf
        refine o_v hf hh (yv_bin rfl rfl rfl) ?_; clear hf a; intro a hf
        refine o_v hf hh (yv_move rfl) ?_; clear hf a; intro a hf
        refine guard_split hf (t := 67) rfl (fun hg53 => ?_) (fun hg53 => ?_)
        ·have hG53 := hg53; try simp only [gS] at hG53
         refine o_v hf hh (y_lds Try.ag_28 rfl) ?_; clear hf a; intro a hf
         refine o_v hf hh (yv_buildS Try.bs_28 rfl rfl) ?_; clear hf a; intro a hf
         refine o_v hf hh (yv_cast (yv_eqF [(betV c false x y).1, (betV c false x y).2] [((0, 0)).1, ((0, 0)).2] fl28 rfl rfl) (congrArg Value.bool (pair_dec (betV c false x y) ((0, 0))))) ?_; clear hf a; intro a hf
         refine o_v hf hh (y_pt rfl rfl) ?_; clear hf a; intro a hf
         refine o_v hf hh (yv_move rfl) ?_; clear hf a; intro a hf
         refine guard_split hf (t := 72) rfl (fun hg55 => ?_) (fun hg55 => ?_)
         ·have hG55 := hg55; try simp only [gS] at hG55
          refine o_v hf hh (y_lds Try.ag_28 rfl) ?_; clear hf a; intro a hf
          refine o_v hf hh (y_lds Try.ag_28 rfl) ?_; clear hf a; intro a hf
          refine o_v hf hh (yv_cast (yv_eqF [(betV c true x y).1, (betV c true x y).2] [(betV c false x y).1, (betV c false x y).2] fl28 rfl rfl) (congrArg Value.bool (pair_dec (betV c true x y) (betV c false x y)))) ?_; clear hf a; intro a hf
          refine o_v hf hh (y_pt rfl rfl) ?_; clear hf a; intro a hf
          refine o_v hf hh (yv_move rfl) ?_; clear hf a; intro a hf
          refine guard_split hf (t := 77) rfl (fun hg57 => ?_) (fun hg57 => ?_)
          ·have hG57 := hg57; try simp only [gS] at hG57
           refine o_v hf hh (yv_move rfl) ?_; clear hf a; intro a hf
           refine o_v hf hh (yv_bin rfl rfl rfl) ?_; clear hf a; intro a hf
           refine o_v hf hh (y_lds Try.ag_24 rfl) ?_; clear hf a; intro a hf
           refine o_call hf Try.en_31 rfl rfl rfl (p31 c sa cp _ (hA.ext hh.ext)) ?_; clear hf a; intro v a w hR hf
           obtain ⟨rfl, hx⟩ := hR; replace hh := hh.more hx; clear hx
           refine o_v hf hh (yv_not rfl) ?_; clear hf a; intro a hf
           refine o_v hf hh (yv_eqb Try.ub_4 rfl rfl) ?_; clear hf a; intro a hf
           refine o_v hf hh (y_pt rfl rfl) ?_; clear hf a; intro a hf
           refine o_v hf hh (yv_move rfl) ?_; clear hf a; intro a hf
           refine guard_split hf (t := 85) rfl (fun hg61 => ?_) (fun hg61 => ?_)
           ·have hG61 := hg61; try simp only [gS] at hG61
            refine o_call hf Try.en_14 rfl rfl rfl (p14 _) ?_; clear hf a; intro v a w hR hf
            obtain ⟨rfl, hx⟩ := hR; replace hh := hh.more hx; clear hx
            refine o_v hf hh (y_pt rfl rfl) ?_; clear hf a; intro a hf
            refine o_v hf hh (yv_assign rfl) ?_; clear hf a; intro a hf
            refine o_end ?_
            refine sy_ret ?_
            refine then_r ?_
            refine ret_r hf rfl rfl ?_
            first
              | exact ⟨rfl, hh.ext⟩
              | (exfalso
                 (repeat (rename Fr _ _ _ _ => z9; clear z9))
                 (repeat (rename Hp _ _ _ _ => z9; clear z9))
                 (try clear hcn); (try clear hat); (try clear hbe)
                 first
                   | (rcases hK with ⟨h1, h2⟩ | ⟨h1, h2⟩ <;> first | (omega; done) | (simp_all; done))
                   | (rcases hK with ⟨h1, h2, h3⟩ | ⟨h1, h2, h3⟩ | ⟨h1, h2, h3⟩ <;> first | (omega; done) | (simp_all; done))
                   | (omega; done)
                   | (simp_all; done)
                   | (simp_all <;> omega))
              | omega
           ·have hG61 := hg61; try simp only [gS] at hG61
            refine o_off hf ?_; clear hf a; intro a hf
            refine o_v hf hh (y_pf rfl rfl) ?_; clear hf a; intro a hf
            refine o_v hf hh (yv_assign rfl) ?_; clear hf a; intro a hf
            refine o_end ?_
            refine sy_ret ?_
            refine then_r ?_
            refine ret_r hf rfl rfl ?_
            first
              | exact ⟨rfl, hh.ext⟩
              | (exfalso
                 (repeat (rename Fr _ _ _ _ => z9; clear z9))
                 (repeat (rename Hp _ _ _ _ => z9; clear z9))
                 (try clear hcn); (try clear hat); (try clear hbe)
                 first
                   | (rcases hK with ⟨h1, h2⟩ | ⟨h1, h2⟩ <;> first | (omega; done) | (simp_all; done))
                   | (rcases hK with ⟨h1, h2, h3⟩ | ⟨h1, h2, h3⟩ | ⟨h1, h2, h3⟩ <;> first | (omega; done) | (simp_all; done))
                   | (omega; done)
                   | (simp_all; done)
                   | (simp_all <;> omega))
              | omega
          ·have hG57 := hg57; try simp only [gS] at hG57
           refine o_off hf ?_; clear hf a; intro a hf
           refine o_off hf ?_; clear hf a; intro a hf
           refine o_off hf ?_; clear hf a; intro a hf
           refine o_off hf ?_; clear hf a; intro a hf
           refine o_off hf ?_; clear hf a; intro a hf
           refine o_off hf ?_; clear hf a; intro a hf
           refine o_v hf hh (y_pf rfl rfl) ?_; clear hf a; intro a hf
           refine o_v hf hh (yv_move rfl) ?_; clear hf a; intro a hf
           refine o_off hf ?_; clear hf a; intro a hf
           refine o_v hf hh (y_pf rfl rfl) ?_; clear hf a; intro a hf
           refine o_v hf hh (yv_assign rfl) ?_; clear hf a; intro a hf
           refine o_end ?_
           refine sy_ret ?_
           refine then_r ?_
           refine ret_r hf rfl rfl ?_
           first
             | exact ⟨rfl, hh.ext⟩
             | (exfalso
                (repeat (rename Fr _ _ _ _ => z9; clear z9))
                (repeat (rename Hp _ _ _ _ => z9; clear z9))
                (try clear hcn); (try clear hat); (try clear hbe)
                first
                  | (rcases hK with ⟨h1, h2⟩ | ⟨h1, h2⟩ <;> first | (omega; done) | (simp_all; done))
                  | (rcases hK with ⟨h1, h2, h3⟩ | ⟨h1, h2, h3⟩ | ⟨h1, h2, h3⟩ <;> first | (omega; done) | (simp_all; done))
                  | (omega; done)
                  | (simp_all; done)
                  | (simp_all <;> omega))
             | omega
         ·have hG55 := hg55; try simp only [gS] at hG55
          refine o_off hf ?_; clear hf a; intro a hf
          refine o_off hf ?_; clear hf a; intro a hf
          refine o_off hf ?_; clear hf a; intro a hf
          refine o_v hf hh (y_pf rfl rfl) ?_; clear hf a; intro a hf
          refine o_v hf hh (yv_move rfl) ?_; clear hf a; intro a hf
          refine o_off hf ?_; clear hf a; intro a hf
          refine o_off hf ?_; clear hf a; intro a hf
          refine o_off hf ?_; clear hf a; intro a hf
          refine o_off hf ?_; clear hf a; intro a hf
          refine o_off hf ?_; clear hf a; intro a hf
          refine o_off hf ?_; clear hf a; intro a hf
          refine o_v hf hh (y_pf rfl rfl) ?_; clear hf a; intro a hf
          refine o_v hf hh (yv_move rfl) ?_; clear hf a; intro a hf
          refine o_off hf ?_; clear hf a; intro a hf
          refine o_v hf hh (y_pf rfl rfl) ?_; clear hf a; intro a hf
          refine o_v hf hh (yv_assign rfl) ?_; clear hf a; intro a hf
          refine o_end ?_
          refine sy_ret ?_
          refine then_r ?_
          refine ret_r hf rfl rfl ?_
          first
            | exact ⟨rfl, hh.ext⟩
            | (exfalso
               (repeat (rename Fr _ _ _ _ => z9; clear z9))
               (repeat (rename Hp _ _ _ _ => z9; clear z9))
               (try clear hcn); (try clear hat); (try clear hbe)
               first
                 | (rcases hK with ⟨h1, h2⟩ | ⟨h1, h2⟩ <;> first | (omega; done) | (simp_all; done))
                 | (rcases hK with ⟨h1, h2, h3⟩ | ⟨h1, h2, h3⟩ | ⟨h1, h2, h3⟩ <;> first | (omega; done) | (simp_all; done))
                 | (omega; done)
                 | (simp_all; done)
                 | (simp_all <;> omega))
            | omega
        ·have hG53 := hg53; try simp only [gS] at hG53
         refine o_off hf ?_; clear hf a; intro a hf
         refine o_off hf ?_; clear hf a; intro a hf
         refine o_off hf ?_; clear hf a; intro a hf
         refine o_v hf hh (y_pf rfl rfl) ?_; clear hf a; intro a hf
         refine o_v hf hh (yv_move rfl) ?_; clear hf a; intro a hf
         refine o_off hf ?_; clear hf a; intro a hf
         refine o_off hf ?_; clear hf a; intro a hf
         refine o_off hf ?_; clear hf a; intro a hf
         refine o_v hf hh (y_pf rfl rfl) ?_; clear hf a; intro a hf
         refine o_v hf hh (yv_move rfl) ?_; clear hf a; intro a hf
         refine o_off hf ?_; clear hf a; intro a hf
         refine o_off hf ?_; clear hf a; intro a hf
         refine o_off hf ?_; clear hf a; intro a hf
         refine o_off hf ?_; clear hf a; intro a hf
         refine o_off hf ?_; clear hf a; intro a hf
         refine o_off hf ?_; clear hf a; intro a hf
         refine o_v hf hh (y_pf rfl rfl) ?_; clear hf a; intro a hf
         refine o_v hf hh (yv_move rfl) ?_; clear hf a; intro a hf
         refine o_off hf ?_; clear hf a; intro a hf
         refine o_v hf hh (y_pf rfl rfl) ?_; clear hf a; intro a hf
         refine o_v hf hh (yv_assign rfl) ?_; clear hf a; intro a hf
         refine o_end ?_
         refine sy_ret ?_
         refine then_r ?_
         refine ret_r hf rfl rfl ?_
         first
           | exact ⟨rfl, hh.ext⟩
           | (exfalso
              (repeat (rename Fr _ _ _ _ => z9; clear z9))
              (repeat (rename Hp _ _ _ _ => z9; clear z9))
              (try clear hcn); (try clear hat); (try clear hbe)
              first
                | (rcases hK with ⟨h1, h2⟩ | ⟨h1, h2⟩ <;> first | (omega; done) | (simp_all; done))
                | (rcases hK with ⟨h1, h2, h3⟩ | ⟨h1, h2, h3⟩ | ⟨h1, h2, h3⟩ <;> first | (omega; done) | (simp_all; done))
                | (omega; done)
                | (simp_all; done)
                | (simp_all <;> omega))
           | omega
       ·have hG51 := hg51; try simp only [gS] at hG51
        refine o_v hf hh (y_ld Try.sc_3 rfl) ?_; clear hf a; intro a hf
        refine o_v hf hh (yv_fieldAddr Try.fo_24_0 rfl) ?_; clear hf a; intro a hf
        refine o_v hf hh (y_ld Try.sc_3 rfl) ?_; clear hf a; intro a hf
        refine o_v hf hh (yv_bin rfl rfl rfl) ?_; clear hf a; intro a hf
        refine o_v hf hh (y_pf rfl rfl) ?_; clear hf a; intro a hf
        refine o_v hf hh (yv_move rfl) ?_; clear hf a; intro a hf
        refine guard_split hf (t := 59) rfl (fun hg64 => ?_) (fun hg64 => ?_)
        ·have hG64 := hg64; try simp only [gS] at hG64
         refine o_off hf ?_; clear hf a; intro a hf
         refine o_off hf ?_; clear hf a; intro a hf
         refine o_off hf ?_; clear hf a; intro a hf
         refine o_off hf ?_; clear hf a; intro a hf
         refine o_v hf hh (y_pt rfl rfl) ?_; clear hf a; intro a hf
         refine o_end ?_
         refine c_t hf ?_
         refine sy_seq ?_
         have hne0 : betE c x y ≠ 0 := fun h => by
           obtain ⟨h1, h2, h3⟩ := hG0 h
           (repeat (rename Fr _ _ _ _ => z9; clear z9))
           (repeat (rename Hp _ _ _ _ => z9; clear z9))
           first
           | omega
           | (simp_all; done)
           | (simp_all <;> omega)
         have hz1 := bet_zero hne0 false
         have hz2 := bet_zero hne0 true
         have hK := bet_one hne0
         clear hG0
         refine sy_ops ?_
         refine o_v hf hh (yv_move rfl) ?_; clear hf a; intro a hf
         refine o_v hf hh (yv_bin rfl rfl rfl) ?_; clear hf a; intro a hf
         refine o_v hf hh (yv_move rfl) ?_; clear hf a; intro a hf
         refine guard_split hf (t := 67) rfl (fun hg66 => ?_) (fun hg66 => ?_)
         ·have hG66 := hg66; try simp only [gS] at hG66
          refine o_v hf hh (y_lds Try.ag_28 rfl) ?_; clear hf a; intro a hf
          refine o_v hf hh (yv_buildS Try.bs_28 rfl rfl) ?_; clear hf a; intro a hf
          refine o_v hf hh (yv_cast (yv_eqF [(betV c false x y).1, (betV c false x y).2] [((0, 0)).1, ((0, 0)).2] fl28 rfl rfl) (congrArg Value.bool (pair_dec (betV c false x y) ((0, 0))))) ?_; clear hf a; intro a hf
          refine o_v hf hh (y_pt rfl rfl) ?_; clear hf a; intro a hf
          refine o_v hf hh (yv_move rfl) ?_; clear hf a; intro a hf
          refine guard_split hf (t := 72) rfl (fun hg68 => ?_) (fun hg68 => ?_)
          ·have hG68 := hg68; try simp only [gS] at hG68
           refine o_v hf hh (y_lds Try.ag_28 rfl) ?_; clear hf a; intro a hf
           refine o_v hf hh (y_lds Try.ag_28 rfl) ?_; clear hf a; intro a hf
           refine o_v hf hh (yv_cast (yv_eqF [(betV c true x y).1, (betV c true x y).2] [(betV c false x y).1, (betV c false x y).2] fl28 rfl rfl) (congrArg Value.bool (pair_dec (betV c true x y) (betV c false x y)))) ?_; clear hf a; intro a hf
           refine o_v hf hh (y_pt rfl rfl) ?_; clear hf a; intro a hf
           refine o_v hf hh (yv_move rfl) ?_; clear hf a; intro a hf
           refine guard_split hf (t := 77) rfl (fun hg70 => ?_) (fun hg70 => ?_)
           ·have hG70 := hg70; try simp only [gS] at hG70
            refine o_v hf hh (yv_move rfl) ?_; clear hf a; intro a hf
            refine o_v hf hh (yv_bin rfl rfl rfl) ?_; clear hf a; intro a hf
            refine o_v hf hh (y_lds Try.ag_24 rfl) ?_; clear hf a; intro a hf
            refine o_call hf Try.en_31 rfl rfl rfl (p31 c sa cp _ (hA.ext hh.ext)) ?_; clear hf a; intro v a w hR hf
            obtain ⟨rfl, hx⟩ := hR; replace hh := hh.more hx; clear hx
            refine o_v hf hh (yv_not rfl) ?_; clear hf a; intro a hf
            refine o_v hf hh (yv_eqb Try.ub_4 rfl rfl) ?_; clear hf a; intro a hf
            refine o_v hf hh (y_pt rfl rfl) ?_; clear hf a; intro a hf
            refine o_v hf hh (yv_move rfl) ?_; clear hf a; intro a hf
            refine guard_split hf (t := 85) rfl (fun hg74 => ?_) (fun hg74 => ?_)
            ·have hG74 := hg74; try simp only [gS] at hG74
             refine o_call hf Try.en_14 rfl rfl rfl (p14 _) ?_; clear hf a; intro v a w hR hf
             obtain ⟨rfl, hx⟩ := hR; replace hh := hh.more hx; clear hx
             refine o_v hf hh (y_pt rfl rfl) ?_; clear hf a; intro a hf
             refine o_v hf hh (yv_assign rfl) ?_; clear hf a; intro a hf
             refine o_end ?_
             refine sy_ret ?_
             refine then_r ?_
             refine ret_r hf rfl rfl ?_
             first
               | exact ⟨rfl, hh.ext⟩
               | (exfalso
                  (repeat (rename Fr _ _ _ _ => z9; clear z9))
                  (repeat (rename Hp _ _ _ _ => z9; clear z9))
                  (try clear hcn); (try clear hat); (try clear hbe)
                  first
                    | (rcases hK with ⟨h1, h2⟩ | ⟨h1, h2⟩ <;> first | (omega; done) | (simp_all; done))
                    | (rcases hK with ⟨h1, h2, h3⟩ | ⟨h1, h2, h3⟩ | ⟨h1, h2, h3⟩ <;> first | (omega; done) | (simp_all; done))
                    | (omega; done)
                    | (simp_all; done)
                    | (simp_all <;> omega))
               | omega
            ·have hG74 := hg74; try simp only [gS] at hG74
             refine o_off hf ?_; clear hf a; intro a hf
             refine o_v hf hh (y_pf rfl rfl) ?_; clear hf a; intro a hf
             refine o_v hf hh (yv_assign rfl) ?_; clear hf a; intro a hf
             refine o_end ?_
             refine sy_ret ?_
             refine then_r ?_
             refine ret_r hf rfl rfl ?_
             first
               | exact ⟨rfl, hh.ext⟩
               | (exfalso
                  (repeat (rename Fr _ _ _ _ => z9; clear z9))
                  (repeat (rename Hp _ _ _ _ => z9; clear z9))
                  (try clear hcn); (try clear hat); (try clear hbe)
                  first
                    | (rcases hK with ⟨h1, h2⟩ | ⟨h1, h2⟩ <;> first | (omega; done) | (simp_all; done))
                    | (rcases hK with ⟨h1, h2, h3⟩ | ⟨h1, h2, h3⟩ | ⟨h1, h2, h3⟩ <;> first | (omega; done) | (simp_all; done))
                    | (omega; done)
                    | (simp_all; done)
                    | (simp_all <;> omega))
               | omega
           ·have hG70 := hg70; try simp only [gS] at hG70
            refine o_off hf ?_; clear hf a; intro a hf
            refine o_off hf ?_; clear hf a; intro a hf
            refine o_off hf ?_; clear hf a; intro a hf
            refine o_off hf ?_; clear hf a; intro a hf
            refine o_off hf ?_; clear hf a; intro a hf
            refine o_off hf ?_; clear hf a; intro a hf
            refine o_v hf hh (y_pf rfl rfl) ?_; clear hf a; intro a hf
            refine o_v hf hh (yv_move rfl) ?_; clear hf a; intro a hf
            refine o_off hf ?_; clear hf a; intro a hf
            refine o_v hf hh (y_pf rfl rfl) ?_; clear hf a; intro a hf
            refine o_v hf hh (yv_assign rfl) ?_; clear hf a; intro a hf
            refine o_end ?_
            refine sy_ret ?_
            refine then_r ?_
            refine ret_r hf rfl rfl ?_
            first
              | exact ⟨rfl, hh.ext⟩
              | (exfalso
                 (repeat (rename Fr _ _ _ _ => z9; clear z9))
                 (repeat (rename Hp _ _ _ _ => z9; clear z9))
                 (try clear hcn); (try clear hat); (try clear hbe)
                 first
                   | (rcases hK with ⟨h1, h2⟩ | ⟨h1, h2⟩ <;> first | (omega; done) | (simp_all; done))
                   | (rcases hK with ⟨h1, h2, h3⟩ | ⟨h1, h2, h3⟩ | ⟨h1, h2, h3⟩ <;> first | (omega; done) | (simp_all; done))
                   | (omega; done)
                   | (simp_all; done)
                   | (simp_all <;> omega))
              | omega
          ·have hG68 := hg68; try simp only [gS] at hG68
           refine o_off hf ?_; clear hf a; intro a hf
           refine o_off hf ?_; clear hf a; intro a hf
           refine o_off hf ?_; clear hf a; intro a hf
           refine o_v hf hh (y_pf rfl rfl) ?_; clear hf a; intro a hf
           refine o_v hf hh (yv_move rfl) ?_; clear hf a; intro a hf
           refine o_off hf ?_; clear hf a; intro a hf
           refine o_off hf ?_; clear hf a; intro a hf
           refine o_off hf ?_; clear hf a; intro a hf
           refine o_off hf ?_; clear hf a; intro a hf
           refine o_off hf ?_; clear hf a; intro a hf
           refine o_off hf ?_; clear hf a; intro a hf
           refine o_v hf hh (y_pf rfl rfl) ?_; clear hf a; intro a hf
           refine o_v hf hh (yv_move rfl) ?_; clear hf a; intro a hf
           refine o_off hf ?_; clear hf a; intro a hf
           refine o_v hf hh (y_pf rfl rfl) ?_; clear hf a; intro a hf
           refine o_v hf hh (yv_assign rfl) ?_; clear hf a; intro a hf
           refine o_end ?_
           refine sy_ret ?_
           refine then_r ?_
           refine ret_r hf rfl rfl ?_
           first
             | exact ⟨rfl, hh.ext⟩
             | (exfalso
                (repeat (rename Fr _ _ _ _ => z9; clear z9))
                (repeat (rename Hp _ _ _ _ => z9; clear z9))
                (try clear hcn); (try clear hat); (try clear hbe)
                first
                  | (rcases hK with ⟨h1, h2⟩ | ⟨h1, h2⟩ <;> first | (omega; done) | (simp_all; done))
                  | (rcases hK with ⟨h1, h2, h3⟩ | ⟨h1, h2, h3⟩ | ⟨h1, h2, h3⟩ <;> first | (omega; done) | (simp_all; done))
                  | (omega; done)
                  | (simp_all; done)
                  | (simp_all <;> omega))
             | omega
         ·have hG66 := hg66; try simp only [gS] at hG66
          refine o_off hf ?_; clear hf a; intro a hf
          refine o_off hf ?_; clear hf a; intro a hf
          refine o_off hf ?_; clear hf a; intro a hf
          refine o_v hf hh (y_pf rfl rfl) ?_; clear hf a; intro a hf
          refine o_v hf hh (yv_move rfl) ?_; clear hf a; intro a hf
          refine o_off hf ?_; clear hf a; intro a hf
          refine o_off hf ?_; clear hf a; intro a hf
          refine o_off hf ?_; clear hf a; intro a hf
          refine o_v hf hh (y_pf rfl rfl) ?_; clear hf a; intro a hf
          refine o_v hf hh (yv_move rfl) ?_; clear hf a; intro a hf
          refine o_off hf ?_; clear hf a; intro a hf
          refine o_off hf ?_; clear hf a; intro a hf
          refine o_off hf ?_; clear hf a; intro a hf
          refine o_off hf ?_; clear hf a; intro a hf
          refine o_off hf ?_; clear hf a; intro a hf
          refine o_off hf ?_; clear hf a; intro a hf
          refine o_v hf hh (y_pf rfl rfl) ?_; clear hf a; intro a hf
          refine o_v hf hh (yv_move rfl) ?_; clear hf a; intro a hf
          refine o_off hf ?_; clear hf a; intro a hf
          refine o_v hf hh (y_pf rfl rfl) ?_; clear hf a; intro a hf
          refine o_v hf hh (yv_assign rfl) ?_; clear hf a; intro a hf
          refine o_end ?_
          refine sy_ret ?_
          refine then_r ?_
          refine ret_r hf rfl rfl ?_
          first
            | exact ⟨rfl, hh.ext⟩
            | (exfalso
               (repeat (rename Fr _ _ _ _ => z9; clear z9))
               (repeat (rename Hp _ _ _ _ => z9; clear z9))
               (try clear hcn); (try clear hat); (try clear hbe)
               first
                 | (rcases hK with ⟨h1, h2⟩ | ⟨h1, h2⟩ <;> first | (omega; done) | (simp_all; done))
                 | (rcases hK with ⟨h1, h2, h3⟩ | ⟨h1, h2, h3⟩ | ⟨h1, h2, h3⟩ <;> first | (omega; done) | (simp_all; done))
                 | (omega; done)
                 | (simp_all; done)
                 | (simp_all <;> omega))
            | omega
        ·have hG64 := hg64; try simp only [gS] at hG64
         refine o_v hf hh (y_ld Try.sc_3 rfl) ?_; clear hf a; intro a hf
         refine o_v hf hh (yv_fieldAddr Try.fo_24_0 rfl) ?_; clear hf a; intro a hf
         refine o_v hf hh (y_ld Try.sc_3 rfl) ?_; clear hf a; intro a hf
         refine o_v hf hh (yv_bin rfl rfl rfl) ?_; clear hf a; intro a hf
         refine o_v hf hh (y_pf rfl rfl) ?_; clear hf a; intro a hf
         refine o_end ?_
         refine sy_cond hf rfl (fun hg77 => ?_) (fun hg77 => ?_)
         ·have hG77 := hg77; try simp only [gS] at hG77
          refine sy_seq ?_
          have hne0 : betE c x y ≠ 0 := fun h => by
            obtain ⟨h1, h2, h3⟩ := hG0 h
            (repeat (rename Fr _ _ _ _ => z9; clear z9))
            (repeat (rename Hp _ _ _ _ => z9; clear z9))
            first
            | omega
            | (simp_all; done)
            | (simp_all <;> omega)
          have hz1 := bet_zero hne0 false
          have hz2 := bet_zero hne0 true
          have hK := bet_one hne0
          clear hG0
          refine sy_ops ?_
          refine o_v hf hh (yv_move rfl) ?_; clear hf a; intro a hf
          refine o_v hf hh (yv_bin rfl rfl rfl) ?_; clear hf a; intro a hf
          refine o_v hf hh (yv_move rfl) ?_; clear hf a; intro a hf
          refine guard_split hf (t := 67) rfl (fun hg79 => ?_) (fun hg79 => ?_)
          ·have hG79 := hg79; try simp only [gS] at hG79
           refine o_v hf hh (y_lds Try.ag_28 rfl) ?_; clear hf a; intro a hf
           refine o_v hf hh (yv_buildS Try.bs_28 rfl rfl) ?_; clear hf a; intro a hf
           refine o_v hf hh (yv_cast (yv_eqF [(betV c false x y).1, (betV c false x y).2] [((0, 0)).1, ((0, 0)).2] fl28 rfl rfl) (congrArg Value.bool (pair_dec (betV c false x y) ((0, 0))))) ?_; clear hf a; intro a hf
           refine o_v hf hh (y_pt rfl rfl) ?_; clear hf a; intro a hf
           refine o_v hf hh (yv_move rfl) ?_; clear hf a; intro a hf
           refine guard_split hf (t := 72) rfl (fun hg81 => ?_) (fun hg81 => ?_)
           ·have hG81 := hg81; try simp only [gS] at hG81
            refine o_v hf hh (y_lds Try.ag_28 rfl) ?_; clear hf a; intro a hf
            refine o_v hf hh (y_lds Try.ag_28 rfl) ?_; clear hf a; intro a hf
            refine o_v hf hh (yv_cast (yv_eqF [(betV c true x y).1, (betV c true x y).2] [(betV c false x y).1, (betV c false x y).2] fl28 rfl rfl) (congrArg Value.bool (pair_dec (betV c true x y) (betV c false x y)))) ?_; clear hf a; intro a hf
            refine o_v hf hh (y_pt rfl rfl) ?_; clear hf a; intro a hf
            refine o_v hf hh (yv_move rfl) ?_; clear hf a; intro a hf
            refine guard_split hf (t := 77) rfl (fun hg83 => ?_) (fun hg83 => ?_)
            ·have hG83 := hg83; try simp only [gS] at hG83
             refine o_v hf hh (yv_move rfl) ?_; clear hf a; intro a hf
             refine o_v hf hh (yv_bin rfl rfl rfl) ?_; clear hf a; intro a hf
             refine o_v hf hh (y_lds Try.ag_24 rfl) ?_; clear hf a; intro a hf
             refine o_call hf Try.en_31 rfl rfl rfl (p31 c sa cp _ (hA.ext hh.ext)) ?_; clear hf a; intro v a w hR hf
             obtain ⟨rfl, hx⟩ := hR; replace hh := hh.more hx; clear hx
             refine o_v hf hh (yv_not rfl) ?_; clear hf a; intro a hf
             refine o_v hf hh (yv_eqb Try.ub_4 rfl rfl) ?_; clear hf a; intro a hf
             refine o_v hf hh (y_pt rfl rfl) ?_; clear hf a; intro a hf
             refine o_v hf hh (yv_move rfl) ?_; clear hf a; intro a hf
             refine guard_split hf (t := 85) rfl (fun hg87 => ?_) (fun hg87 => ?_)
             ·have hG87 := hg87; try simp only [gS] at hG87
              refine o_call hf Try.en_14 rfl rfl rfl (p14 _) ?_; clear hf a; intro v a w hR hf
              obtain ⟨rfl, hx⟩ := hR; replace hh := hh.more hx; clear hx
              refine o_v hf hh (y_pt rfl rfl) ?_; clear hf a; intro a hf
              refine o_v hf hh (yv_assign rfl) ?_; clear hf a; intro a hf
              refine o_end ?_
              refine sy_ret ?_
              refine then_r ?_
              refine ret_r hf rfl rfl ?_
              first
                | exact ⟨rfl, hh.ext⟩
                | (exfalso
                   (repeat (rename Fr _ _ _ _ => z9; clear z9))
                   (repeat (rename Hp _ _ _ _ => z9; clear z9))
                   (try clear hcn); (try clear hat); (try clear hbe)
                   first
                     | (rcases hK with ⟨h1, h2⟩ | ⟨h1, h2⟩ <;> first | (omega; done) | (simp_all; done))
                     | (rcases hK with ⟨h1, h2, h3⟩ | ⟨h1, h2, h3⟩ | ⟨h1, h2, h3⟩ <;> first | (omega; done) | (simp_all; done))
                     | (omega; done)
                     | (simp_all; done)
                     | (simp_all <;> omega))
                | omega
             ·have hG87 := hg87; try simp only [gS] at hG87
              refine o_off hf ?_; clear hf a; intro a hf
              refine o_v hf hh (y_pf rfl rfl) ?_; clear hf a; intro a hf
              refine o_v hf hh (yv_assign rfl) ?_; clear hf a; intro a hf
              refine o_end ?_
              refine sy_ret ?_
              refine then_r ?_
              refine ret_r hf rfl rfl ?_
              first
                | exact ⟨rfl, hh.ext⟩
                | (exfalso
                   (repeat (rename Fr _ _ _ _ => z9; clear z9))
                   (repeat (rename Hp _ _ _ _ => z9; clear z9))
                   (try clear hcn); (try clear hat); (try clear hbe)
                   first
                     | (rcases hK with ⟨h1, h2⟩ | ⟨h1, h2⟩ <;> first | (omega; done) | (simp_all; done))
                     | (rcases hK with ⟨h1, h2, h3⟩ | ⟨h1, h2, h3⟩ | ⟨h1, h2, h3⟩ <;> first | (omega; done) | (simp_all; done))
                     | (omega; done)
                     | (simp_all; done)
                     | (simp_all <;> omega))
                | omega
            ·have hG83 := hg83; try simp only [gS] at hG83
             refine o_off hf ?_; clear hf a; intro a hf
             refine o_off hf ?_; clear hf a; intro a hf
             refine o_off hf ?_; clear hf a; intro a hf
             refine o_off hf ?_; clear hf a; intro a hf
             refine o_off hf ?_; clear hf a; intro a hf
             refine o_off hf ?_; clear hf a; intro a hf
             refine o_v hf hh (y_pf rfl rfl) ?_; clear hf a; intro a hf
             refine o_v hf hh (yv_move rfl) ?_; clear hf a; intro a hf
             refine o_off hf ?_; clear hf a; intro a hf
             refine o_v hf hh (y_pf rfl rfl) ?_; clear hf a; intro a hf
             refine o_v hf hh (yv_assign rfl) ?_; clear hf a; intro a hf
             refine o_end ?_
             refine sy_ret ?_
             refine then_r ?_
             refine ret_r hf rfl rfl ?_
             first
               | exact ⟨rfl, hh.ext⟩
               | (exfalso
                  (repeat (rename Fr _ _ _ _ => z9; clear z9))
                  (repeat (rename Hp _ _ _ _ => z9; clear z9))
                  (try clear hcn); (try clear hat); (try clear hbe)
                  first
                    | (rcases hK with ⟨h1, h2⟩ | ⟨h1, h2⟩ <;> first | (omega; done) | (simp_all; done))
                    | (rcases hK with ⟨h1, h2, h3⟩ | ⟨h1, h2, h3⟩ | ⟨h1, h2, h3⟩ <;> first | (omega; done) | (simp_all; done))
                    | (omega; done)
                    | (simp_all; done)
                    | (simp_all <;> omega))
               | omega
           ·have hG81 := hg81; try simp only [gS] at hG81
            refine o_off hf ?_; clear hf a; intro a hf
            refine o_off hf ?_; clear hf a; intro a hf
            refine o_off hf ?_; clear hf a; intro a hf
            refine o_v hf hh (y_pf rfl rfl) ?_; clear hf a; intro a hf
            refine o_v hf hh (yv_move rfl) ?_; clear hf a; intro a hf
            refine o_off hf ?_; clear hf a; intro a hf
            refine o_off hf ?_; clear hf a; intro a hf
            refine o_off hf ?_; clear hf a; intro a hf
            refine o_off hf ?_; clear hf a; intro a hf
            refine o_off hf ?_; clear hf a; intro a hf
            refine o_off hf ?_; clear hf a; intro a hf
            refine o_v hf hh (y_pf rfl rfl) ?_; clear hf a; intro a hf
            refine o_v hf hh (yv_move rfl) ?_; clear hf a; intro a hf
            refine o_off hf ?_; clear hf a; intro a hf
            refine o_v hf hh (y_pf rfl rfl) ?_; clear hf a; intro a hf
            refine o_v hf hh (yv_assign rfl) ?_; clear hf a; intro a hf
            refine o_end ?_
            refine sy_ret ?_
            refine then_r ?_
            refine ret_r hf rfl rfl ?_
            first
              | exact ⟨rfl, hh.ext⟩
              | (exfalso
                 (repeat (rename Fr _ _ _ _ => z9; clear z9))
                 (repeat (rename Hp _ _ _ _ => z9; clear z9))
                 (try clear hcn); (try clear hat); (try clear hbe)
                 first
                   | (rcases hK with ⟨h1, h2⟩ | ⟨h1, h2⟩ <;> first | (omega; done) | (simp_all; done))
                   | (rcases hK with ⟨h1, h2, h3⟩ | ⟨h1, h2, h3⟩ | ⟨h1, h2, h3⟩ <;> first | (omega; done) | (simp_all; done))
                   | (omega; done)
                   | (simp_all; done)
                   | (simp_all <;> omega))
              | omega
          ·have hG79 := hg79; try simp only [gS] at hG79
           refine o_off hf ?_; clear hf a; intro a hf
           refine o_off hf ?_; clear hf a; intro a hf
           refine o_off hf ?_; clear hf a; intro a hf
           refine o_v hf hh (y_pf rfl rfl) ?_; clear hf a; intro a hf
           refine o_v hf hh (yv_move rfl) ?_; clear hf a; intro a hf
           refine o_off hf ?_; clear hf a; intro a hf
           refine o_off hf ?_; clear hf a; intro a hf
           refine o_off hf ?_; clear hf a; intro a hf
           refine o_v hf hh (y_pf rfl rfl) ?_; clear hf a; intro a hf
           refine o_v hf hh (yv_move rfl) ?_; clear hf a; intro a hf
           refine o_off hf ?_; clear hf a; intro a hf
           refine o_off hf ?_; clear hf a; intro a hf
           refine o_off hf ?_; clear hf a; intro a hf
           refine o_off hf ?_; clear hf a; intro a hf
           refine o_off hf ?_; clear hf a; intro a hf
           refine o_off hf ?_; clear hf a; intro a hf
           refine o_v hf hh (y_pf rfl rfl) ?_; clear hf a; intro a hf
           refine o_v hf hh (yv_move rfl) ?_; clear hf a; intro a hf
           refine o_off hf ?_; clear hf a; intro a hf
           refine o_v hf hh (y_pf rfl rfl) ?_; clear hf a; intro a hf
           refine o_v hf hh (yv_assign rfl) ?_; clear hf a; intro a hf
           refine o_end ?_
           refine sy_ret ?_
           refine then_r ?_
           refine ret_r hf rfl rfl ?_
           first
             | exact ⟨rfl, hh.ext⟩
             | (exfalso
                (repeat (rename Fr _ _ _ _ => z9; clear z9))
                (repeat (rename Hp _ _ _ _ => z9; clear z9))
                (try clear hcn); (try clear hat); (try clear hbe)
                first
                  | (rcases hK with ⟨h1, h2⟩ | ⟨h1, h2⟩ <;> first | (omega; done) | (simp_all; done))
                  | (rcases hK with ⟨h1, h2, h3⟩ | ⟨h1, h2, h3⟩ | ⟨h1, h2, h3⟩ <;> first | (omega; done) | (simp_all; done))
                  | (omega; done)
                  | (simp_all; done)
                  | (simp_all <;> omega))
             | omega
         ·have hG77 := hg77; try simp only [gS] at hG77
          refine sy_skip ?_
          refine then_n ?_
          refine sy_seq ?_
          refine sy_seq ?_
          have hb0 : betE c x y = 0 := by assumption
          have ho1 := bet_ord hb0 false
          have ho2 := bet_ord hb0 true
          have hd1 := betV_bd hb0 false
          have hd2 := betV_bd hb0 true
          clear hG0
          refine sy_ops ?_
          refine o_v hf hh (yv_fieldAddr Try.fo_28_0 rfl) ?_; clear hf a; intro a hf
          refine o_v hf hh (y_ld Try.sc_3 rfl) ?_; clear hf a; intro a hf
          refine o_v hf hh (yv_fieldAddr Try.fo_28_1 rfl) ?_; clear hf a; intro a hf
          refine o_v hf hh (y_ld Try.sc_3 rfl) ?_; clear hf a; intro a hf
          refine o_v hf hh (yv_bin rfl rfl rfl) ?_; clear hf a; intro a hf
          refine o_v hf hh (yv_move rfl) ?_; clear hf a; intro a hf
          refine guard_split hf (t := 93) rfl (fun hg90 => ?_) (fun hg90 => ?_)
          ·have hG90 := hg90; try simp only [gS] at hG90
           refine o_off hf ?_; clear hf a; intro a hf
           refine o_off hf ?_; clear hf a; intro a hf
           refine o_off hf ?_; clear hf a; intro a hf
           refine o_off hf ?_; clear hf a; intro a hf
           refine o_off hf ?_; clear hf a; intro a hf
           refine o_v hf hh (y_pt rfl rfl) ?_; clear hf a; intro a hf
           refine o_end ?_
           refine c_t hf ?_
           refine sy_sq ?_
           refine o_v hf hh (yv_assign rfl) ?_; clear hf a; intro a hf
           refine o_end ?_
           refine sy_ret ?_
           refine then_r ?_
           refine ret_r hf rfl rfl ?_
           first
             | exact ⟨rfl, hh.ext⟩
             | (exfalso
                (repeat (rename Fr _ _ _ _ => z9; clear z9))
                (repeat (rename Hp _ _ _ _ => z9; clear z9))
                (try clear hcn); (try clear hat); (try clear hbe)
                first
                  | (rcases hK with ⟨h1, h2⟩ | ⟨h1, h2⟩ <;> first | (omega; done) | (simp_all; done))
                  | (rcases hK with ⟨h1, h2, h3⟩ | ⟨h1, h2, h3⟩ | ⟨h1, h2, h3⟩ <;> first | (omega; done) | (simp_all; done))
                  | (omega; done)
                  | (simp_all; done)
                  | (simp_all <;> omega))
             | omega
          ·have hG90 := hg90; try simp only [gS] at hG90
           refine o_v hf hh (yv_fieldAddr Try.fo_28_0 rfl) ?_; clear hf a; intro a hf
           refine o_v hf hh (y_ld Try.sc_3 rfl) ?_; clear hf a; intro a hf
           refine o_v hf hh (yv_fieldAddr Try.fo_28_1 rfl) ?_; clear hf a; intro a hf
           refine o_v hf hh (y_ld Try.sc_3 rfl) ?_; clear hf a; intro a hf
           refine o_v hf hh (yv_bin rfl rfl rfl) ?_; clear hf a; intro a hf
           refine o_v hf hh (y_pf rfl rfl) ?_; clear hf a; intro a hf
           refine o_end ?_
           refine sy_cond hf rfl (fun hg92 => ?_) (fun hg92 => ?_)
           ·have hG92 := hg92; try simp only [gS] at hG92
            refine sy_sq ?_
            refine o_v hf hh (yv_assign rfl) ?_; clear hf a; intro a hf
            refine o_end ?_
            refine sy_ret ?_
            refine then_r ?_
            refine ret_r hf rfl rfl ?_
            first
              | exact ⟨rfl, hh.ext⟩
              | (exfalso
                 (repeat (rename Fr _ _ _ _ => z9; clear z9))
                 (repeat (rename Hp _ _ _ _ => z9; clear z9))
                 (try clear hcn); (try clear hat); (try clear hbe)
                 first
                   | (rcases hK with ⟨h1, h2⟩ | ⟨h1, h2⟩ <;> first | (omega; done) | (simp_all; done))
                   | (rcases hK with ⟨h1, h2, h3⟩ | ⟨h1, h2, h3⟩ | ⟨h1, h2, h3⟩ <;> first | (omega; done) | (simp_all; done))
                   | (omega; done)
                   | (simp_all; done)
                   | (simp_all <;> omega))
              | omega
           ·have hG92 := hg92; try simp only [gS] at hG92
            refine sy_skip ?_
            refine then_n ?_
            refine sy_seq ?_
            refine sy_sq ?_
            refine o_v hf hh (y_ld Try.sc_3 rfl) ?_; clear hf a; intro a hf
            refine o_v hf hh (y_ld Try.sc_3 rfl) ?_; clear hf a; intro a hf
            refine o_v hf hh (yv_bin rfl rfl rfl) ?_; clear hf a; intro a hf
            refine o_end ?_
            refine sy_cond hf rfl (fun hg94 => ?_) (fun hg94 => ?_)
            ·have hG94 := hg94; try simp only [gS] at hG94
             refine sy_seq ?_
             obtain rfl : x = y := by assumption
             have hz1 := bet_self hb0 false
             have hz2 := bet_self hb0 true
             refine sy_ops ?_
             refine o_v hf hh (y_lds Try.ag_28 rfl) ?_; clear hf a; intro a hf
             refine o_v hf hh (yv_buildS Try.bs_28 rfl rfl) ?_; clear hf a; intro a hf
             refine o_v hf hh (yv_cast (yv_eqF [(betV c false x x).1, (betV c false x x).2] [((0, 0)).1, ((0, 0)).2] fl28 rfl rfl) (congrArg Value.bool (pair_dec (betV c false x x) ((0, 0))))) ?_; clear hf a; intro a hf
             refine o_v hf hh (yv_move rfl) ?_; clear hf a; intro a hf
             refine guard_split hf (t := 106) rfl (fun hg96 => ?_) (fun hg96 => ?_)
             ·have hG96 := hg96; try simp only [gS] at hG96
              refine o_v hf hh (y_lds Try.ag_28 rfl) ?_; clear hf a; intro a hf
              refine o_v hf hh (y_lds Try.ag_28 rfl) ?_; clear hf a; intro a hf
              refine o_v hf hh (yv_cast (yv_eqF [(betV c true x x).1, (betV c true x x).2] [(betV c false x x).1, (betV c false x x).2] fl28 rfl rfl) (congrArg Value.bool (pair_dec (betV c true x x) (betV c false x x)))) ?_; clear hf a; intro a hf
              refine o_v hf hh (y_pt rfl rfl) ?_; clear hf a; intro a hf
              refine o_v hf hh (yv_move rfl) ?_; clear hf a; intro a hf
              refine guard_split hf (t := 111) rfl (fun hg98 => ?_) (fun hg98 => ?_)
              ·have hG98 := hg98; try simp only [gS] at hG98
               refine o_call hf Try.en_14 rfl rfl rfl (p14 _) ?_; clear hf a; intro v a w hR hf
               obtain ⟨rfl, hx⟩ := hR; replace hh := hh.more hx; clear hx
               refine o_v hf hh (y_pt rfl rfl) ?_; clear hf a; intro a hf
               refine o_v hf hh (yv_assign rfl) ?_; clear hf a; intro a hf
               refine o_end ?_
               refine sy_ret ?_
               refine then_r ?_
               refine ret_r hf rfl rfl ?_
               first
                 | exact ⟨rfl, hh.ext⟩
                 | (exfalso
                    (repeat (rename Fr _ _ _ _ => z9; clear z9))
                    (repeat (rename Hp _ _ _ _ => z9; clear z9))
                    (try clear hcn); (try clear hat); (try clear hbe)
                    first
                      | (rcases hK with ⟨h1, h2⟩ | ⟨h1, h2⟩ <;> first | (omega; done) | (simp_all; done))
                      | (rcases hK with ⟨h1, h2, h3⟩ | ⟨h1, h2, h3⟩ | ⟨h1, h2, h3⟩ <;> first | (omega; done) | (simp_all; done))
                      | (omega; done)
                      | (simp_all; done)
                      | (simp_all <;> omega))
                 | omega
              ·have hG98 := hg98; try simp only [gS] at hG98
               refine o_off hf ?_; clear hf a; intro a hf
               refine o_v hf hh (y_pf rfl rfl) ?_; clear hf a; intro a hf
               refine o_v hf hh (yv_assign rfl) ?_; clear hf a; intro a hf
               refine o_end ?_
               refine sy_ret ?_
               refine then_r ?_
               refine ret_r hf rfl rfl ?_
               first
                 | exact ⟨rfl, hh.ext⟩
                 | (exfalso
                    (repeat (rename Fr _ _ _ _ => z9; clear z9))
                    (repeat (rename Hp _ _ _ _ => z9; clear z9))
                    (try clear hcn); (try clear hat); (try clear hbe)
                    first
                      | (rcases hK with ⟨h1, h2⟩ | ⟨h1, h2⟩ <;> first | (omega; done) | (simp_all; done))
                      | (rcases hK with ⟨h1, h2, h3⟩ | ⟨h1, h2, h3⟩ | ⟨h1, h2, h3⟩ <;> first | (omega; done) | (simp_all; done))
                      | (omega; done)
                      | (simp_all; done)
                      | (simp_all <;> omega))
                 | omega
             ·have hG96 := hg96; try simp only [gS] at hG96
              refine o_off hf ?_; clear hf a; intro a hf
              refine o_off hf ?_; clear hf a; intro a hf
              refine o_off hf ?_; clear hf a; intro a hf
              refine o_v hf hh (y_pf rfl rfl) ?_; clear hf a; intro a hf
              refine o_v hf hh (yv_move rfl) ?_; clear hf a; intro a hf
              refine o_off hf ?_; clear hf a; intro a hf
              refine o_v hf hh (y_pf rfl rfl) ?_; clear hf a; intro a hf
              refine o_v hf hh (yv_assign rfl) ?_; clear hf a; intro a hf
              refine o_end ?_
              refine sy_ret ?_
              refine then_r ?_
              refine ret_r hf rfl rfl ?_
              first
                | exact ⟨rfl, hh.ext⟩
                | (exfalso
                   (repeat (rename Fr _ _ _ _ => z9; clear z9))
                   (repeat (rename Hp _ _ _ _ => z9; clear z9))
                   (try clear hcn); (try clear hat); (try clear hbe)
                   first
                     | (rcases hK with ⟨h1, h2⟩ | ⟨h1, h2⟩ <;> first | (omega; done) | (simp_all; done))
                     | (rcases hK with ⟨h1, h2, h3⟩ | ⟨h1, h2, h3⟩ | ⟨h1, h2, h3⟩ <;> first | (omega; done) | (simp_all; done))
                     | (omega; done)
                     | (simp_all; done)
                     | (simp_all <;> omega))
                | omega
            ·have hG94 := hg94; try simp only [gS] at hG94
             refine sy_skip ?_
             refine then_n ?_
             refine sy_sq ?_
             refine o_v hf hh (yv_makeFunc rfl rfl) ?_; clear hf a; intro a hf
             refine o_v hf hh (yv_assign rfl) ?_; clear hf a; intro a hf
             refine o_end ?_
             refine sy_sq ?_
             refine o_call hf Try.en_33 rfl rfl rfl (p33 _ _ _) ?_; clear hf a; intro v a w hR hf
             obtain ⟨rfl, hx⟩ := hR; replace hh := hh.more hx; clear hx
             refine o_alloc hf hh Try.ze_28 ?_; clear hf hh a; intro B13 a w hf hh
             refine o_store hf hh Try.sz_28 fun w hh => ?_
             refine o_end ?_
             refine sy_seq ?_
             replace hh : Hp u [] ((B13, .cells (spC (-1073741824, 1073741824)).toArray 28) :: [(B10, .cells (spC (betV c true x y)).toArray 28), (B9, .cells (spC (betV c false x y)).toArray 28), (B7, .cells #[.int .u8 k] 5), (B6, .cells #[.int .i64 y] 3), (B5, .cells #[.int .i64 x] 3), (B4, .cells (chC c sa cp) 24)]) w := hh
             refine sy_ops ?_
             refine o_v hf hh (yv_makeFunc rfl rfl) ?_; clear hf a; intro a hf
             refine o_v hf hh (yv_assign rfl) ?_; clear hf a; intro a hf
             refine o_end ?_
             refine sy_sq ?_
             refine o_v hf hh (yv_move rfl) ?_; clear hf a; intro a hf
             refine o_v hf hh (y_lds Try.ag_28 rfl) ?_; clear hf a; intro a hf
             refine o_call hf Try.en_34 rfl rfl rfl (p34 (betV c false x y) k B7 _ (hh.at (i := 3) rfl) hd1.1 hd1.2) ?_; clear hf a; intro v a w hR hf
             obtain ⟨rfl, hx⟩ := hR; replace hh := hh.more hx; clear hx
             refine o_v hf hh (yv_move rfl) ?_; clear hf a; intro a hf
             refine o_v hf hh (yv_extract rfl rfl) ?_; clear hf a; intro a hf
             refine o_v hf hh (yv_extract rfl rfl) ?_; clear hf a; intro a hf
             refine o_v hf hh (yv_assign rfl) ?_; clear hf a; intro a hf
             refine o_v hf hh (yv_assign rfl) ?_; clear hf a; intro a hf
             refine o_end ?_
             refine sy_sq ?_
             refine o_v hf hh (yv_move rfl) ?_; clear hf a; intro a hf
             refine o_v hf hh (y_lds Try.ag_28 rfl) ?_; clear hf a; intro a hf
             refine o_call hf Try.en_34 rfl rfl rfl (p34 (betV c true x y) k B7 _ (hh.at (i := 3) rfl) hd2.1 hd2.2) ?_; clear hf a; intro v a w hR hf
             obtain ⟨rfl, hx⟩ := hR; replace hh := hh.more hx; clear hx
             refine o_v hf hh (yv_move rfl) ?_; clear hf a; intro a hf
             refine o_v hf hh (yv_extract rfl rfl) ?_; clear hf a; intro a hf
             refine o_v hf hh (yv_extract rfl rfl) ?_; clear hf a; intro a hf
             refine o_v hf hh (yv_assign rfl) ?_; clear hf a; intro a hf
             refine o_v hf hh (yv_assign rfl) ?_; clear hf a; intro a hf
             refine o_end ?_
             refine sy_seq ?_
             refine sy_sq ?_
             refine o_v hf hh (yv_move rfl) ?_; clear hf a; intro a hf
             refine o_v hf hh (yv_move rfl) ?_; clear hf a; intro a hf
             refine o_v hf hh (yv_move rfl) ?_; clear hf a; intro a hf
             refine o_v hf hh (yv_move rfl) ?_; clear hf a; intro a hf
             refine ops_buildSl hf hh Try.bl_54_4 rfl rfl (.inl rfl) rfl ?_; clear hf hh; clear a; intro B133 a w hf hh
             refine o_v hf hh (yv_len Try.se_54 rfl) ?_; clear hf a; intro a hf
             refine o_v hf hh (yv_move rfl) ?_; clear hf a; intro a hf
             refine o_end ?_
             refine sy_block ?_
             refine sy_loopH (σ := Nat) [8, 20, 135, 136, 137, 138, 139, 140, 141, 142, 143, 144, 145, 146] (fun i => [(135, .int .i64 (i : Nat))]) (fun i => fun w' => i ≤ 4 ∧ (∀ z ∈ ([endN (andU k) (betV c false x y), endF (andU k) (betV c false x y), endN (andU k) (betV c true x y), endF (andU k) (betV c true x y)]).take i, -1073741824 ≤ z ∧ z ≤ 1073741824) ∧ Hp u [] ((B133, .cells #[Value.int .i64 (endN (andU k) (betV c false x y)), Value.int .i64 (endF (andU k) (betV c false x y)), Value.int .i64 (endN (andU k) (betV c true x y)), Value.int .i64 (endF (andU k) (betV c true x y))] 3) :: (B13, .cells (spC (-1073741824, 1073741824)).toArray 28) :: [(B10, .cells (spC (betV c true x y)).toArray 28), (B9, .cells (spC (betV c false x y)).toArray 28), (B7, .cells #[.int .u8 k] 5), (B6, .cells #[.int .i64 y] 3), (B5, .cells #[.int .i64 x] 3), (B4, .cells (chC c sa cp) 24)]) w') (fun i => 4 - i) (0) hf ?_ ?_ ?_
             · repeat' (first | exact True.intro | refine And.intro rfl ?_)
             · exact ⟨Nat.zero_le _, (fun z hz => by simp at hz), hh⟩
             ·rintro i a w ⟨hi, hq, hh⟩ hf
              refine sy_seq ?_
              replace hh : Hp u [] ((B133, .cells #[Value.int .i64 (endN (andU k) (betV c false x y)), Value.int .i64 (endF (andU k) (betV c false x y)), Value.int .i64 (endN (andU k) (betV c true x y)), Value.int .i64 (endF (andU k) (betV c true x y))] 3) :: (B13, .cells (spC (-1073741824, 1073741824)).toArray 28) :: [(B10, .cells (spC (betV c true x y)).toArray 28), (B9, .cells (spC (betV c false x y)).toArray 28), (B7, .cells #[.int .u8 k] 5), (B6, .cells #[.int .i64 y] 3), (B5, .cells #[.int .i64 x] 3), (B4, .cells (chC c sa cp) 24)]) w := hh
              refine sy_ops ?_
              refine o_v hf hh (yv_bin rfl rfl rfl) ?_; clear hf a; intro a hf
              refine o_end ?_
              refine sy_seq ?_
              refine sy_cond hf rfl (fun hg108 => ?_) (fun hg108 => ?_)
              ·have hG108 := hg108; try simp only [gS] at hG108
               refine sy_skip ?_
               refine then_n ?_
               refine sy_seq ?_
               refine sy_block ?_
               refine sy_seq ?_
               obtain ⟨kz, hkz⟩ := ex_of (l := [endN (andU k) (betV c false x y), endF (andU k) (betV c false x y), endN (andU k) (betV c true x y), endF (andU k) (betV c true x y)]) (i := i) (by simp only [List.length_cons, List.length_nil]; omega)
               have hk : (#[Value.int .i64 (endN (andU k) (betV c false x y)), Value.int .i64 (endF (andU k) (betV c false x y)), Value.int .i64 (endN (andU k) (betV c true x y)), Value.int .i64 (endF (andU k) (betV c true x y))])[0 + ((i : Nat) : Int).toNat * 1]? = some (.int .i64 kz) := by
                 have h : i = 0 ∨ i = 1 ∨ i = 2 ∨ i = 3 := by omega
                 rcases h with rfl | rfl | rfl | rfl <;> cases hkz <;> rfl
               refine sy_ops ?_
               refine o_v hf hh (y_ix Try.se_54 rfl rfl) ?_; clear hf a; intro a hf
               refine o_v hf hh (y_ld Try.sc_3 rfl) ?_; clear hf a; intro a hf
               refine o_v hf hh (yv_assign rfl) ?_; clear hf a; intro a hf
               refine o_end ?_
               refine sy_sq ?_
               refine o_v hf hh (yv_move rfl) ?_; clear hf a; intro a hf
               refine o_v hf hh (yv_bin rfl rfl rfl) ?_; clear hf a; intro a hf
               refine o_v hf hh (yv_move rfl) ?_; clear hf a; intro a hf
               refine guard_split hf (t := 141) rfl (fun hg110 => ?_) (fun hg110 => ?_)
               ·have hG110 := hg110; try simp only [gS] at hG110
                refine o_off hf ?_; clear hf a; intro a hf
                refine o_off hf ?_; clear hf a; intro a hf
                refine o_v hf hh (y_pt rfl rfl) ?_; clear hf a; intro a hf
                refine o_end ?_
                refine c_t hf ?_
                refine sy_sq ?_
                refine o_call hf Try.en_14 rfl rfl rfl (p14 _) ?_; clear hf a; intro v a w hR hf
                obtain ⟨rfl, hx⟩ := hR; replace hh := hh.more hx; clear hx
                refine o_v hf hh (yv_assign rfl) ?_; clear hf a; intro a hf
                refine o_end ?_
                refine sy_ret ?_
                refine blk_r ?_
                refine then_r ?_
                refine then_r ?_
                refine blk_r ?_
                refine then_r ?_
                refine ret_r hf rfl rfl ?_
                first
                  | exact ⟨rfl, hh.ext⟩
                  | (exfalso
                     (repeat (rename Fr _ _ _ _ => z9; clear z9))
                     (repeat (rename Hp _ _ _ _ => z9; clear z9))
                     (try clear hcn); (try clear hat); (try clear hbe)
                     first
                       | (rcases hK with ⟨h1, h2⟩ | ⟨h1, h2⟩ <;> first | (omega; done) | (simp_all; done))
                       | (rcases hK with ⟨h1, h2, h3⟩ | ⟨h1, h2, h3⟩ | ⟨h1, h2, h3⟩ <;> first | (omega; done) | (simp_all; done))
                       | (omega; done)
                       | (simp_all; done)
                       | (simp_all <;> omega))
                  | omega
               ·have hG110 := hg110; try simp only [gS] at hG110
                refine o_v hf hh (yv_move rfl) ?_; clear hf a; intro a hf
                refine o_v hf hh (yv_bin rfl rfl rfl) ?_; clear hf a; intro a hf
                refine o_v hf hh (y_pf rfl rfl) ?_; clear hf a; intro a hf
                refine o_end ?_
                refine sy_cond hf rfl (fun hg113 => ?_) (fun hg113 => ?_)
                ·have hG113 := hg113; try simp only [gS] at hG113
                 refine sy_sq ?_
                 refine o_call hf Try.en_14 rfl rfl rfl (p14 _) ?_; clear hf a; intro v a w hR hf
                 obtain ⟨rfl, hx⟩ := hR; replace hh := hh.more hx; clear hx
                 refine o_v hf hh (yv_assign rfl) ?_; clear hf a; intro a hf
                 refine o_end ?_
                 refine sy_ret ?_
                 refine blk_r ?_
                 refine then_r ?_
                 refine then_r ?_
                 refine blk_r ?_
                 refine then_r ?_
                 refine ret_r hf rfl rfl ?_
                 first
                   | exact ⟨rfl, hh.ext⟩
                   | (exfalso
                      (repeat (rename Fr _ _ _ _ => z9; clear z9))
                      (repeat (rename Hp _ _ _ _ => z9; clear z9))
                      (try clear hcn); (try clear hat); (try clear hbe)
                      first
                        | (rcases hK with ⟨h1, h2⟩ | ⟨h1, h2⟩ <;> first | (omega; done) | (simp_all; done))
                        | (rcases hK with ⟨h1, h2, h3⟩ | ⟨h1, h2, h3⟩ | ⟨h1, h2, h3⟩ <;> first | (omega; done) | (simp_all; done))
                        | (omega; done)
                        | (simp_all; done)
                        | (simp_all <;> omega))
                   | omega
                ·have hG113 := hg113; try simp only [gS] at hG113
                 refine sy_skip ?_
                 refine blk_n ?_
                 refine then_n ?_
                 refine sy_ops ?_
                 refine o_v hf hh (y_add rfl rfl) ?_; clear hf a; intro a hf
                 refine o_v hf hh (yv_move rfl) ?_; clear hf a; intro a hf
                 refine ops_end ?_
                 refine then_n ?_
                 refine ⟨i + 1, ⟨⟨by omega, fun z hz => ?_, hh⟩, (hf.head (by repeat' (first | exact True.intro | refine And.intro rfl ?_)) (Keep.cons rfl (Keep.cons rfl (Keep.cons rfl (Keep.cons rfl (Keep.cons rfl (Keep.cons rfl (Keep.cons rfl (Keep.cons rfl (Keep.cons rfl (Keep.cons rfl (Keep.cons rfl (Keep.cons rfl (Keep.app rfl (Keep.rm rfl Keep.base)))))))))))))))⟩, by omega⟩
                 rw [List.take_add_one, hkz] at hz
                 rcases List.mem_append.1 hz with h | h
                 · exact hq z h
                 · have e : z = kz := by simpa using h
                   rw [e]; omega
              ·have hG108 := hg108; try simp only [gS] at hG108
               refine sy_exit ?_
               refine then_e ?_
               refine then_e ?_
               refine blk_e ?_
               refine then_n ?_
               refine sy_seq ?_
               have hr : ∀ z ∈ [endN (andU k) (betV c false x y), endF (andU k) (betV c false x y), endN (andU k) (betV c true x y), endF (andU k) (betV c true x y)], -1073741824 ≤ z ∧ z ≤ 1073741824 := fun z hz => hq z (by rw [List.take_of_length_le (by simp only [List.length_cons, List.length_nil]; omega)]; exact hz)
               have r1 := hr _ (.head _); have r2 := hr _ (.tail _ (.head _)); have r3 := hr _ (.tail _ (.tail _ (.head _))); have r4 := hr _ (.tail _ (.tail _ (.tail _ (.head _))))
               clear hr hq
               obtain ⟨y1, n1, y2, n2, y3⟩ := ends_all (z := andU k) (by omega) hb0 (by assumption) r1 r2 r3 r4
               refine sy_treeC (.p 0 (.p 1 (.p 2 (.q 0 4 (.e1 3 (.e1 5 (.p 6 (.p 7 (.p 8 (.p 9 (.q 0 11 (.e1 10 (.e1 12 (.p 13 (.p 14 (.p 15 (.p 16 (.q 0 17 (.p 18 (.p 19 (.e1 20 (.e1 21 (.p 22 (.p 23 (.p 24 (.q 0 25 (.p 26 (.p 27 (.e1 28 (.e1 29 (.p 30 (.p 31 (.p 32 (.p 33 (.p 34 (.p 35 (.p 37 (.p 38 (.e1 36 (.e1 39 (.e1 40 (.p 41 (.p 42 (.e1 43 (.p 44 (.p 45 (.fin))))))))))))))))))))))))))))))))))))))))))))))) [[]] [(AtE u [] [(B13, .cells (spC (-1073741824, 1073741824)).toArray 28)], [])] Try.follows (by kernel_rfl) rfl hh (fun w hh => ?_)
               refine mc_p rfl   hf (yv_move rfl) (.inl rfl) rfl rfl ?_; clear hf a; intro a hf
               refine mc_p rfl   hf (yv_move rfl) (.inl rfl) rfl rfl ?_; clear hf a; intro a hf
               refine mc_p rfl   hf (yv_move rfl) (.inl rfl) rfl rfl ?_; clear hf a; intro a hf
               refine mc_q rfl rfl (AtE.of hh (by intro p hp; rw [List.mem_singleton.1 hp]; simp)) hf (y_lds Try.ag_28 rfl) (.inl rfl) rfl rfl ?_; clear hf a; intro a hf
               refine mc_e rfl fun Q1 => ?_
               refine o_call hf Try.en_33 rfl rfl rfl (p33 _ _ _) ?_; clear hf a; intro v a w hR hf
               obtain ⟨rfl, hx⟩ := hR; replace hh := hh.more hx; clear hx
               refine ops_end ?_
               refine then_n ⟨⟨fun _ _ => (AtE.of hh (by intro p hp; rw [List.mem_singleton.1 hp]; simp)), trivial⟩, ?_⟩
               refine mc_e rfl fun Q1 => ?_
               refine o_call hf Try.en_32 rfl rfl rfl (p32 c sa cp ((endN (andU k) (betV c false x y), endN (andU k) (betV c false x y))) ((-1073741824, 1073741824)) B4 B5 B6 x y _ (hh.at (i := 7) rfl) (hh.at (i := 6) rfl) (hh.at (i := 5) rfl) (hA.ext hh.ext) (by omega) ⟨⟨by omega, by omega⟩, ⟨by omega, by omega⟩, ⟨by dsimp only; omega, by dsimp only; omega⟩, ⟨by dsimp only; omega, by dsimp only; omega⟩, ⟨by dsimp only; omega, by dsimp only; omega⟩, ⟨by dsimp only; omega, by dsimp only; omega⟩⟩) ?_; clear hf a; intro v a w hR hf
               obtain ⟨rfl, hx⟩ := hR; replace hh := hh.more hx; clear hx
               refine ops_end ?_
               refine then_n ⟨⟨fun _ _ => (AtE.of hh (by intro p hp; rw [List.mem_singleton.1 hp]; simp)), trivial⟩, ?_⟩
               refine mc_p rfl   hf (yv_move rfl) (.inl rfl) rfl rfl ?_; clear hf a; intro a hf
               refine guard_any hf (t := 153) rfl (fun hg117 => ?_) (fun hg117 => ?_)
               ·have hG117 := hg117; try simp only [gS] at hG117
                refine mc_p rfl   hf (yv_move rfl) (gon rfl rfl rfl (by first | assumption | rfl | (simp; done) | (simp; omega))) rfl rfl ?_; clear hf a; intro a hf
                refine mc_p rfl   hf (yv_move rfl) (gon rfl rfl rfl (by first | assumption | rfl | (simp; done) | (simp; omega))) rfl rfl ?_; clear hf a; intro a hf
                refine mc_p rfl   hf (yv_move rfl) (gon rfl rfl rfl (by first | assumption | rfl | (simp; done) | (simp; omega))) rfl rfl ?_; clear hf a; intro a hf
                refine mc_q rfl rfl (AtE.of hh (by intro p hp; rw [List.mem_singleton.1 hp]; simp)) hf (y_lds Try.ag_28 rfl) (gon rfl rfl rfl (by first | assumption | rfl | (simp; done) | (simp; omega))) rfl rfl ?_; clear hf a; intro a hf
                refine mc_e rfl fun Q1 => ?_
                refine o_call hf Try.en_33 rfl rfl rfl (p33 _ _ _) ?_; clear hf a; intro v a w hR hf
                obtain ⟨rfl, hx⟩ := hR; replace hh := hh.more hx; clear hx
                refine ops_end ?_
                refine then_n ⟨⟨fun _ _ => (AtE.of hh (by intro p hp; rw [List.mem_singleton.1 hp]; simp)), trivial⟩, ?_⟩
                refine mc_e rfl fun Q1 => ?_
                refine o_call hf Try.en_32 rfl rfl rfl (p32 c sa cp ((endF (andU k) (betV c false x y), endF (andU k) (betV c false x y))) ((-1073741824, 1073741824)) B4 B5 B6 x y _ (hh.at (i := 7) rfl) (hh.at (i := 6) rfl) (hh.at (i := 5) rfl) (hA.ext hh.ext) (by omega) ⟨⟨by omega, by omega⟩, ⟨by omega, by omega⟩, ⟨by dsimp only; omega, by dsimp only; omega⟩, ⟨by dsimp only; omega, by dsimp only; omega⟩, ⟨by dsimp only; omega, by dsimp only; omega⟩, ⟨by dsimp only; omega, by dsimp only; omega⟩⟩) ?_; clear hf a; intro v a w hR hf
                obtain ⟨rfl, hx⟩ := hR; replace hh := hh.more hx; clear hx
                refine ops_end ?_
                refine then_n ⟨⟨fun _ _ => (AtE.of hh (by intro p hp; rw [List.mem_singleton.1 hp]; simp)), trivial⟩, ?_⟩
                refine mc_p rfl   hf (yv_not rfl) (gon rfl rfl rfl (by first | assumption | rfl | (simp; done) | (simp; omega))) rfl rfl ?_; clear hf a; intro a hf
                refine mc_p rfl   hf (y_pt rfl rfl) (.inl rfl) rfl rfl ?_; clear hf a; intro a hf
                refine mc_p rfl   hf (yv_move rfl) (.inl rfl) rfl rfl ?_; clear hf a; intro a hf
                refine guard_any hf (t := 162) rfl (fun hg120 => ?_) (fun hg120 => ?_)
                ·have hG120 := hg120; try simp only [gS] at hG120
                 refine mc_p rfl   hf (yv_move rfl) (gon rfl rfl rfl (by first | assumption | rfl | (simp; done) | (simp; omega))) rfl rfl ?_; clear hf a; intro a hf
                 refine mc_q rfl rfl (AtE.of hh (by intro p hp; rw [List.mem_singleton.1 hp]; simp)) hf (y_lds Try.ag_28 rfl) (gon rfl rfl rfl (by first | assumption | rfl | (simp; done) | (simp; omega))) rfl rfl ?_; clear hf a; intro a hf
                 refine mc_p rfl   hf (yv_move rfl) (gon rfl rfl rfl (by first | assumption | rfl | (simp; done) | (simp; omega))) rfl rfl ?_; clear hf a; intro a hf
                 refine mc_p rfl   hf (yv_move rfl) (gon rfl rfl rfl (by first | assumption | rfl | (simp; done) | (simp; omega))) rfl rfl ?_; clear hf a; intro a hf
                 refine mc_e rfl fun Q1 => ?_
                 refine o_call hf Try.en_33 rfl rfl rfl (p33 _ _ _) ?_; clear hf a; intro v a w hR hf
                 obtain ⟨rfl, hx⟩ := hR; replace hh := hh.more hx; clear hx
                 refine ops_end ?_
                 refine then_n ⟨⟨fun _ _ => (AtE.of hh (by intro p hp; rw [List.mem_singleton.1 hp]; simp)), trivial⟩, ?_⟩
                 refine mc_e rfl fun Q1 => ?_
                 refine o_call hf Try.en_32 rfl rfl rfl (p32 c sa cp ((-1073741824, 1073741824)) ((endN (andU k) (betV c true x y), endN (andU k) (betV c true x y))) B4 B5 B6 x y _ (hh.at (i := 7) rfl) (hh.at (i := 6) rfl) (hh.at (i := 5) rfl) (hA.ext hh.ext) (by omega) ⟨⟨by omega, by omega⟩, ⟨by omega, by omega⟩, ⟨by dsimp only; omega, by dsimp only; omega⟩, ⟨by dsimp only; omega, by dsimp only; omega⟩, ⟨by dsimp only; omega, by dsimp only; omega⟩, ⟨by dsimp only; omega, by dsimp only; omega⟩⟩) ?_; clear hf a; intro v a w hR hf
                 obtain ⟨rfl, hx⟩ := hR; replace hh := hh.more hx; clear hx
                 refine ops_end ?_
                 refine then_n ⟨⟨fun _ _ => (AtE.of hh (by intro p hp; rw [List.mem_singleton.1 hp]; simp)), trivial⟩, ?_⟩
                 refine mc_p rfl   hf (y_pt rfl rfl) (.inl rfl) rfl rfl ?_; clear hf a; intro a hf
                 refine mc_p rfl   hf (yv_move rfl) (.inl rfl) rfl rfl ?_; clear hf a; intro a hf
                 refine guard_any hf (t := 170) rfl (fun hg123 => ?_) (fun hg123 => ?_)
                 ·have hG123 := hg123; try simp only [gS] at hG123
                  refine mc_p rfl   hf (yv_move rfl) (gon rfl rfl rfl (by first | assumption | rfl | (simp; done) | (simp; omega))) rfl rfl ?_; clear hf a; intro a hf
                  refine mc_q rfl rfl (AtE.of hh (by intro p hp; rw [List.mem_singleton.1 hp]; simp)) hf (y_lds Try.ag_28 rfl) (gon rfl rfl rfl (by first | assumption | rfl | (simp; done) | (simp; omega))) rfl rfl ?_; clear hf a; intro a hf
                  refine mc_p rfl   hf (yv_move rfl) (gon rfl rfl rfl (by first | assumption | rfl | (simp; done) | (simp; omega))) rfl rfl ?_; clear hf a; intro a hf
                  refine mc_p rfl   hf (yv_move rfl) (gon rfl rfl rfl (by first | assumption | rfl | (simp; done) | (simp; omega))) rfl rfl ?_; clear hf a; intro a hf
                  refine mc_e rfl fun Q1 => ?_
                  refine o_call hf Try.en_33 rfl rfl rfl (p33 _ _ _) ?_; clear hf a; intro v a w hR hf
                  obtain ⟨rfl, hx⟩ := hR; replace hh := hh.more hx; clear hx
                  refine ops_end ?_
                  refine then_n ⟨⟨fun _ _ => (AtE.of hh (by intro p hp; rw [List.mem_singleton.1 hp]; simp)), trivial⟩, ?_⟩
                  refine mc_e rfl fun Q1 => ?_
                  refine o_call hf Try.en_32 rfl rfl rfl (p32 c sa cp ((-1073741824, 1073741824)) ((endF (andU k) (betV c true x y), endF (andU k) (betV c true x y))) B4 B5 B6 x y _ (hh.at (i := 7) rfl) (hh.at (i := 6) rfl) (hh.at (i := 5) rfl) (hA.ext hh.ext) (by omega) ⟨⟨by omega, by omega⟩, ⟨by omega, by omega⟩, ⟨by dsimp only; omega, by dsimp only; omega⟩, ⟨by dsimp only; omega, by dsimp only; omega⟩, ⟨by dsimp only; omega, by dsimp only; omega⟩, ⟨by dsimp only; omega, by dsimp only; omega⟩⟩) ?_; clear hf a; intro v a w hR hf
                  obtain ⟨rfl, hx⟩ := hR; replace hh := hh.more hx; clear hx
                  refine ops_end ?_
                  refine then_n ⟨⟨fun _ _ => (AtE.of hh (by intro p hp; rw [List.mem_singleton.1 hp]; simp)), trivial⟩, ?_⟩
                  refine mc_p rfl   hf (yv_not rfl) (gon rfl rfl rfl (by first | assumption | rfl | (simp; done) | (simp; omega))) rfl rfl ?_; clear hf a; intro a hf
                  refine mc_p rfl   hf (y_pt rfl rfl) (.inl rfl) rfl rfl ?_; clear hf a; intro a hf
                  refine mc_p rfl   hf (yv_move rfl) (.inl rfl) rfl rfl ?_; clear hf a; intro a hf
                  refine guard_any hf (t := 179) rfl (fun hg126 => ?_) (fun hg126 => ?_)
                  ·have hG126 := hg126; try simp only [gS] at hG126
                   refine mc_p rfl   hf (yv_move rfl) (gon rfl rfl rfl (by first | assumption | rfl | (simp; done) | (simp; omega))) rfl rfl ?_; clear hf a; intro a hf
                   refine mc_p rfl   hf (yv_move rfl) (gon rfl rfl rfl (by first | assumption | rfl | (simp; done) | (simp; omega))) rfl rfl ?_; clear hf a; intro a hf
                   refine mc_p rfl   hf (yv_move rfl) (gon rfl rfl rfl (by first | assumption | rfl | (simp; done) | (simp; omega))) rfl rfl ?_; clear hf a; intro a hf
                   refine mc_p rfl   hf (yv_move rfl) (gon rfl rfl rfl (by first | assumption | rfl | (simp; done) | (simp; omega))) rfl rfl ?_; clear hf a; intro a hf
                   refine mc_p rfl   hf (yv_move rfl) (gon rfl rfl rfl (by first | assumption | rfl | (simp; done) | (simp; omega))) rfl rfl ?_; clear hf a; intro a hf
                   refine mc_e rfl fun Q1 => ?_
                   refine o_call hf Try.en_33 rfl rfl rfl (p33 _ _ _) ?_; clear hf a; intro v a w hR hf
                   obtain ⟨rfl, hx⟩ := hR; replace hh := hh.more hx; clear hx
                   refine ops_end ?_
                   refine then_n ⟨⟨fun _ _ => (AtE.of hh (by intro p hp; rw [List.mem_singleton.1 hp]; simp)), trivial⟩, ?_⟩
                   refine mc_e rfl fun Q1 => ?_
                   refine o_call hf Try.en_33 rfl rfl rfl (p33 _ _ _) ?_; clear hf a; intro v a w hR hf
                   obtain ⟨rfl, hx⟩ := hR; replace hh := hh.more hx; clear hx
                   refine ops_end ?_
                   refine then_n ⟨⟨fun _ _ => (AtE.of hh (by intro p hp; rw [List.mem_singleton.1 hp]; simp)), trivial⟩, ?_⟩
                   refine mc_e rfl fun Q1 => ?_
                   refine o_call hf Try.en_32 rfl rfl rfl (p32 c sa cp ((endN (andU k) (betV c false x y), endN (andU k) (betV c false x y))) ((endN (andU k) (betV c true x y), endN (andU k) (betV c true x y))) B4 B5 B6 x y _ (hh.at (i := 7) rfl) (hh.at (i := 6) rfl) (hh.at (i := 5) rfl) (hA.ext hh.ext) (by omega) ⟨⟨by omega, by omega⟩, ⟨by omega, by omega⟩, ⟨by dsimp only; omega, by dsimp only; omega⟩, ⟨by dsimp only; omega, by dsimp only; omega⟩, ⟨by dsimp only; omega, by dsimp only; omega⟩, ⟨by dsimp only; omega, by dsimp only; omega⟩⟩) ?_; clear hf a; intro v a w hR hf
                   obtain ⟨rfl, hx⟩ := hR; replace hh := hh.more hx; clear hx
                   refine ops_end ?_
                   refine then_n ⟨⟨fun _ _ => (AtE.of hh (by intro p hp; rw [List.mem_singleton.1 hp]; simp)), trivial⟩, ?_⟩
                   refine mc_p rfl   hf (y_pt rfl rfl) (.inl rfl) rfl rfl ?_; clear hf a; intro a hf
                   refine mc_p rfl   hf (yv_move rfl) (.inl rfl) rfl rfl ?_; clear hf a; intro a hf
                   refine mc_e rfl fun Q1 => ?_
                   refine guard_any hf (t := 189) rfl (fun hg130 => ?_) (fun hg130 => ?_)
                   ·have hG130 := hg130; try simp only [gS] at hG130
                    refine o_call hf Try.en_14 rfl rfl rfl (p14 _) ?_; clear hf a; intro v a w hR hf
                    obtain ⟨rfl, hx⟩ := hR; replace hh := hh.more hx; clear hx
                    refine ops_end ?_
                    refine then_n ⟨⟨fun _ _ => (AtE.of hh (by intro p hp; rw [List.mem_singleton.1 hp]; simp)), trivial⟩, ?_⟩
                    refine mc_p rfl   hf (y_pt rfl rfl) (.inl rfl) rfl rfl ?_; clear hf a; intro a hf
                    refine mc_p rfl   hf (yv_assign rfl) (.inl rfl) rfl rfl ?_; clear hf a; intro a hf
                    refine mc_end ?_
                    refine then_n ?_
                    refine sy_ret ?_
                    refine ret_r hf rfl rfl ?_
                    first
                      | exact ⟨rfl, hh.ext⟩
                      | (exfalso
                         (repeat (rename Fr _ _ _ _ => z9; clear z9))
                         (repeat (rename Hp _ _ _ _ => z9; clear z9))
                         (try clear hcn); (try clear hat); (try clear hbe)
                         first
                           | (rcases hK with ⟨h1, h2⟩ | ⟨h1, h2⟩ <;> first | (omega; done) | (simp_all; done))
                           | (rcases hK with ⟨h1, h2, h3⟩ | ⟨h1, h2, h3⟩ | ⟨h1, h2, h3⟩ <;> first | (omega; done) | (simp_all; done))
                           | (omega; done)
                           | (simp_all; done)
                           | (simp_all <;> omega))
                      | omega
                   ·have hG130 := hg130; try simp only [gS] at hG130
                    refine o_off hf ?_; clear hf a; intro a hf
                    refine ops_end ?_
                    refine then_n ⟨⟨fun _ _ => (AtE.of hh (by intro p hp; rw [List.mem_singleton.1 hp]; simp)), trivial⟩, ?_⟩
                    refine mc_p rfl   hf (y_pf rfl rfl) (.inl rfl) rfl rfl ?_; clear hf a; intro a hf
                    refine mc_p rfl   hf (yv_assign rfl) (.inl rfl) rfl rfl ?_; clear hf a; intro a hf
                    refine mc_end ?_
                    refine then_n ?_
                    refine sy_ret ?_
                    refine ret_r hf rfl rfl ?_
                    first
                      | exact ⟨rfl, hh.ext⟩
                      | (exfalso
                         (repeat (rename Fr _ _ _ _ => z9; clear z9))
                         (repeat (rename Hp _ _ _ _ => z9; clear z9))
                         (try clear hcn); (try clear hat); (try clear hbe)
                         first
                           | (rcases hK with ⟨h1, h2⟩ | ⟨h1, h2⟩ <;> first | (omega; done) | (simp_all; done))
                           | (rcases hK with ⟨h1, h2, h3⟩ | ⟨h1, h2, h3⟩ | ⟨h1, h2, h3⟩ <;> first | (omega; done) | (simp_all; done))
                           | (omega; done)
                           | (simp_all; done)
                           | (simp_all <;> omega))
                      | omega
                  ·have hG126 := hg126; try simp only [gS] at hG126
                   refine mc_off rfl hf (goff rfl rfl rfl (by first | assumption | rfl | (simp; done) | (simp; omega))) rfl rfl ?_; clear hf a; intro a hf
                   refine mc_off rfl hf (goff rfl rfl rfl (by first | assumption | rfl | (simp; done) | (simp; omega))) rfl rfl ?_; clear hf a; intro a hf
                   refine mc_off rfl hf (goff rfl rfl rfl (by first | assumption | rfl | (simp; done) | (simp; omega))) rfl rfl ?_; clear hf a; intro a hf
                   refine mc_off rfl hf (goff rfl rfl rfl (by first | assumption | rfl | (simp; done) | (simp; omega))) rfl rfl ?_; clear hf a; intro a hf
                   refine mc_off rfl hf (goff rfl rfl rfl (by first | assumption | rfl | (simp; done) | (simp; omega))) rfl rfl ?_; clear hf a; intro a hf
                   refine mc_e rfl fun Q1 => ?_
                   refine o_off hf ?_; clear hf a; intro a hf
                   refine ops_end ?_
                   refine then_n ⟨⟨fun _ _ => (AtE.of hh (by intro p hp; rw [List.mem_singleton.1 hp]; simp)), trivial⟩, ?_⟩
                   refine mc_e rfl fun Q1 => ?_
                   refine o_off hf ?_; clear hf a; intro a hf
                   refine ops_end ?_
                   refine then_n ⟨⟨fun _ _ => (AtE.of hh (by intro p hp; rw [List.mem_singleton.1 hp]; simp)), trivial⟩, ?_⟩
                   refine mc_e rfl fun Q1 => ?_
                   refine o_off hf ?_; clear hf a; intro a hf
                   refine ops_end ?_
                   refine then_n ⟨⟨fun _ _ => (AtE.of hh (by intro p hp; rw [List.mem_singleton.1 hp]; simp)), trivial⟩, ?_⟩
                   refine mc_p rfl   hf (y_pf rfl rfl) (.inl rfl) rfl rfl ?_; clear hf a; intro a hf
                   refine mc_p rfl   hf (yv_move rfl) (.inl rfl) rfl rfl ?_; clear hf a; intro a hf
                   refine mc_e rfl fun Q1 => ?_
                   refine o_off hf ?_; clear hf a; intro a hf
                   refine ops_end ?_
                   refine then_n ⟨⟨fun _ _ => (AtE.of hh (by intro p hp; rw [List.mem_singleton.1 hp]; simp)), trivial⟩, ?_⟩
                   refine mc_p rfl   hf (y_pf rfl rfl) (.inl rfl) rfl rfl ?_; clear hf a; intro a hf
                   refine mc_p rfl   hf (yv_assign rfl) (.inl rfl) rfl rfl ?_; clear hf a; intro a hf
                   refine mc_end ?_
                   refine then_n ?_
                   refine sy_ret ?_
                   refine ret_r hf rfl rfl ?_
                   first
                     | exact ⟨rfl, hh.ext⟩
                     | (exfalso
                        (repeat (rename Fr _ _ _ _ => z9; clear z9))
                        (repeat (rename Hp _ _ _ _ => z9; clear z9))
                        (try clear hcn); (try clear hat); (try clear hbe)
                        first
                          | (rcases hK with ⟨h1, h2⟩ | ⟨h1, h2⟩ <;> first | (omega; done) | (simp_all; done))
                          | (rcases hK with ⟨h1, h2, h3⟩ | ⟨h1, h2, h3⟩ | ⟨h1, h2, h3⟩ <;> first | (omega; done) | (simp_all; done))
                          | (omega; done)
                          | (simp_all; done)
                          | (simp_all <;> omega))
                     | omega
                 ·have hG123 := hg123; try simp only [gS] at hG123
                  refine mc_off rfl hf (goff rfl rfl rfl (by first | assumption | rfl | (simp; done) | (simp; omega))) rfl rfl ?_; clear hf a; intro a hf
                  refine mc_offq rfl rfl (AtE.of hh (by intro p hp; rw [List.mem_singleton.1 hp]; simp)) hf (goff rfl rfl rfl (by first | assumption | rfl | (simp; done) | (simp; omega))) rfl rfl ?_; clear hf a; intro a hf
                  refine mc_off rfl hf (goff rfl rfl rfl (by first | assumption | rfl | (simp; done) | (simp; omega))) rfl rfl ?_; clear hf a; intro a hf
                  refine mc_off rfl hf (goff rfl rfl rfl (by first | assumption | rfl | (simp; done) | (simp; omega))) rfl rfl ?_; clear hf a; intro a hf
                  refine mc_e rfl fun Q1 => ?_
                  refine o_off hf ?_; clear hf a; intro a hf
                  refine ops_end ?_
                  refine then_n ⟨⟨fun _ _ => (AtE.of hh (by intro p hp; rw [List.mem_singleton.1 hp]; simp)), trivial⟩, ?_⟩
                  refine mc_e rfl fun Q1 => ?_
                  refine o_off hf ?_; clear hf a; intro a hf
                  refine ops_end ?_
                  refine then_n ⟨⟨fun _ _ => (AtE.of hh (by intro p hp; rw [List.mem_singleton.1 hp]; simp)), trivial⟩, ?_⟩
                  refine mc_off rfl hf (goff rfl rfl rfl (by first | assumption | rfl | (simp; done) | (simp; omega))) rfl rfl ?_; clear hf a; intro a hf
                  refine mc_p rfl   hf (y_pf rfl rfl) (.inl rfl) rfl rfl ?_; clear hf a; intro a hf
                  refine mc_p rfl   hf (yv_move rfl) (.inl rfl) rfl rfl ?_; clear hf a; intro a hf
                  refine mc_off rfl hf (goff rfl rfl rfl (by first | assumption | rfl | (simp; done) | (simp; omega))) rfl rfl ?_; clear hf a; intro a hf
                  refine mc_off rfl hf (goff rfl rfl rfl (by first | assumption | rfl | (simp; done) | (simp; omega))) rfl rfl ?_; clear hf a; intro a hf
                  refine mc_off rfl hf (goff rfl rfl rfl (by first | assumption | rfl | (simp; done) | (simp; omega))) rfl rfl ?_; clear hf a; intro a hf
                  refine mc_off rfl hf (goff rfl rfl rfl (by first | assumption | rfl | (simp; done) | (simp; omega))) rfl rfl ?_; clear hf a; intro a hf
                  refine mc_off rfl hf (goff rfl rfl rfl (by first | assumption | rfl | (simp; done) | (simp; omega))) rfl rfl ?_; clear hf a; intro a hf
                  refine mc_e rfl fun Q1 => ?_
                  refine o_off hf ?_; clear hf a; intro a hf
                  refine ops_end ?_
                  refine then_n ⟨⟨fun _ _ => (AtE.of hh (by intro p hp; rw [List.mem_singleton.1 hp]; simp)), trivial⟩, ?_⟩
                  refine mc_e rfl fun Q1 => ?_
                  refine o_off hf ?_; clear hf a; intro a hf
                  refine ops_end ?_
                  refine then_n ⟨⟨fun _ _ => (AtE.of hh (by intro p hp; rw [List.mem_singleton.1 hp]; simp)), trivial⟩, ?_⟩
                  refine mc_e rfl fun Q1 => ?_
                  refine o_off hf ?_; clear hf a; intro a hf
                  refine ops_end ?_
                  refine then_n ⟨⟨fun _ _ => (AtE.of hh (by intro p hp; rw [List.mem_singleton.1 hp]; simp)), trivial⟩, ?_⟩
                  refine mc_p rfl   hf (y_pf rfl rfl) (.inl rfl) rfl rfl ?_; clear hf a; intro a hf
                  refine mc_p rfl   hf (yv_move rfl) (.inl rfl) rfl rfl ?_; clear hf a; intro a hf
                  refine mc_e rfl fun Q1 => ?_
                  refine o_off hf ?_; clear hf a; intro a hf
                  refine ops_end ?_
                  refine then_n ⟨⟨fun _ _ => (AtE.of hh (by intro p hp; rw [List.mem_singleton.1 hp]; simp)), trivial⟩, ?_⟩
                  refine mc_p rfl   hf (y_pf rfl rfl) (.inl rfl) rfl rfl ?_; clear hf a; intro a hf
                  refine mc_p rfl   hf (yv_assign rfl) (.inl rfl) rfl rfl ?_; clear hf a; intro a hf
                  refine mc_end ?_
                  refine then_n ?_
                  refine sy_ret ?_
                  refine ret_r hf rfl rfl ?_
                  first
                    | exact ⟨rfl, hh.ext⟩
                    | (exfalso
                       (repeat (rename Fr _ _ _ _ => z9; clear z9))
                       (repeat (rename Hp _ _ _ _ => z9; clear z9))
                       (try clear hcn); (try clear hat); (try clear hbe)
                       first
                         | (rcases hK with ⟨h1, h2⟩ | ⟨h1, h2⟩ <;> first | (omega; done) | (simp_all; done))
                         | (rcases hK with ⟨h1, h2, h3⟩ | ⟨h1, h2, h3⟩ | ⟨h1, h2, h3⟩ <;> first | (omega; done) | (simp_all; done))
                         | (omega; done)
                         | (simp_all; done)
                         | (simp_all <;> omega))
                    | omega
                ·have hG120 := hg120; try simp only [gS] at hG120
                 refine mc_off rfl hf (goff rfl rfl rfl (by first | assumption | rfl | (simp; done) | (simp; omega))) rfl rfl ?_; clear hf a; intro a hf
                 refine mc_offq rfl rfl (AtE.of hh (by intro p hp; rw [List.mem_singleton.1 hp]; simp)) hf (goff rfl rfl rfl (by first | assumption | rfl | (simp; done) | (simp; omega))) rfl rfl ?_; clear hf a; intro a hf
                 refine mc_off rfl hf (goff rfl rfl rfl (by first | assumption | rfl | (simp; done) | (simp; omega))) rfl rfl ?_; clear hf a; intro a hf
                 refine mc_off rfl hf (goff rfl rfl rfl (by first | assumption | rfl | (simp; done) | (simp; omega))) rfl rfl ?_; clear hf a; intro a hf
                 refine mc_e rfl fun Q1 => ?_
                 refine o_off hf ?_; clear hf a; intro a hf
                 refine ops_end ?_
                 refine then_n ⟨⟨fun _ _ => (AtE.of hh (by intro p hp; rw [List.mem_singleton.1 hp]; simp)), trivial⟩, ?_⟩
                 refine mc_e rfl fun Q1 => ?_
                 refine o_off hf ?_; clear hf a; intro a hf
                 refine ops_end ?_
                 refine then_n ⟨⟨fun _ _ => (AtE.of hh (by intro p hp; rw [List.mem_singleton.1 hp]; simp)), trivial⟩, ?_⟩
                 refine mc_p rfl   hf (y_pf rfl rfl) (.inl rfl) rfl rfl ?_; clear hf a; intro a hf
                 refine mc_p rfl   hf (yv_move rfl) (.inl rfl) rfl rfl ?_; clear hf a; intro a hf
                 refine mc_off rfl hf (goff rfl rfl rfl (by first | assumption | rfl | (simp; done) | (simp; omega))) rfl rfl ?_; clear hf a; intro a hf
                 refine mc_offq rfl rfl (AtE.of hh (by intro p hp; rw [List.mem_singleton.1 hp]; simp)) hf (goff rfl rfl rfl (by first | assumption | rfl | (simp; done) | (simp; omega))) rfl rfl ?_; clear hf a; intro a hf
                 refine mc_off rfl hf (goff rfl rfl rfl (by first | assumption | rfl | (simp; done) | (simp; omega))) rfl rfl ?_; clear hf a; intro a hf
                 refine mc_off rfl hf (goff rfl rfl rfl (by first | assumption | rfl | (simp; done) | (simp; omega))) rfl rfl ?_; clear hf a; intro a hf
                 refine mc_e rfl fun Q1 => ?_
                 refine o_off hf ?_; clear hf a; intro a hf
                 refine ops_end ?_
                 refine then_n ⟨⟨fun _ _ => (AtE.of hh (by intro p hp; rw [List.mem_singleton.1 hp]; simp)), trivial⟩, ?_⟩
                 refine mc_e rfl fun Q1 => ?_
                 refine o_off hf ?_; clear hf a; intro a hf
                 refine ops_end ?_
                 refine then_n ⟨⟨fun _ _ => (AtE.of hh (by intro p hp; rw [List.mem_singleton.1 hp]; simp)), trivial⟩, ?_⟩
                 refine mc_off rfl hf (goff rfl rfl rfl (by first | assumption | rfl | (simp; done) | (simp; omega))) rfl rfl ?_; clear hf a; intro a hf
                 refine mc_p rfl   hf (y_pf rfl rfl) (.inl rfl) rfl rfl ?_; clear hf a; intro a hf
                 refine mc_p rfl   hf (yv_move rfl) (.inl rfl) rfl rfl ?_; clear hf a; intro a hf
                 refine mc_off rfl hf (goff rfl rfl rfl (by first | assumption | rfl | (simp; done) | (simp; omega))) rfl rfl ?_; clear hf a; intro a hf
                 refine mc_off rfl hf (goff rfl rfl rfl (by first | assumption | rfl | (simp; done) | (simp; omega))) rfl rfl ?_; clear hf a; intro a hf
                 refine mc_off rfl hf (goff rfl rfl rfl (by first | assumption | rfl | (simp; done) | (simp; omega))) rfl rfl ?_; clear hf a; intro a hf
                 refine mc_off rfl hf (goff rfl rfl rfl (by first | assumption | rfl | (simp; done) | (simp; omega))) rfl rfl ?_; clear hf a; intro a hf
                 refine mc_off rfl hf (goff rfl rfl rfl (by first | assumption | rfl | (simp; done) | (simp; omega))) rfl rfl ?_; clear hf a; intro a hf
                 refine mc_e rfl fun Q1 => ?_
                 refine o_off hf ?_; clear hf a; intro a hf
                 refine ops_end ?_
                 refine then_n ⟨⟨fun _ _ => (AtE.of hh (by intro p hp; rw [List.mem_singleton.1 hp]; simp)), trivial⟩, ?_⟩
                 refine mc_e rfl fun Q1 => ?_
                 refine o_off hf ?_; clear hf a; intro a hf
                 refine ops_end ?_
                 refine then_n ⟨⟨fun _ _ => (AtE.of hh (by intro p hp; rw [List.mem_singleton.1 hp]; simp)), trivial⟩, ?_⟩
                 refine mc_e rfl fun Q1 => ?_
                 refine o_off hf ?_; clear hf a; intro a hf
                 refine ops_end ?_
                 refine then_n ⟨⟨fun _ _ => (AtE.of hh (by intro p hp; rw [List.mem_singleton.1 hp]; simp)), trivial⟩, ?_⟩
                 refine mc_p rfl   hf (y_pf rfl rfl) (.inl rfl) rfl rfl ?_; clear hf a; intro a hf
                 refine mc_p rfl   hf (yv_move rfl) (.inl rfl) rfl rfl ?_; clear hf a; intro a hf
                 refine mc_e rfl fun Q1 => ?_
                 refine o_off hf ?_; clear hf a; intro a hf
                 refine ops_end ?_
                 refine then_n ⟨⟨fun _ _ => (AtE.of hh (by intro p hp; rw [List.mem_singleton.1 hp]; simp)), trivial⟩, ?_⟩
                 refine mc_p rfl   hf (y_pf rfl rfl) (.inl rfl) rfl rfl ?_; clear hf a; intro a hf
                 refine mc_p rfl   hf (yv_assign rfl) (.inl rfl) rfl rfl ?_; clear hf a; intro a hf
                 refine mc_end ?_
                 refine then_n ?_
                 refine sy_ret ?_
                 refine ret_r hf rfl rfl ?_
                 first
                   | exact ⟨rfl, hh.ext⟩
                   | (exfalso
                      (repeat (rename Fr _ _ _ _ => z9; clear z9))
                      (repeat (rename Hp _ _ _ _ => z9; clear z9))
                      (try clear hcn); (try clear hat); (try clear hbe)
                      first
                        | (rcases hK with ⟨h1, h2⟩ | ⟨h1, h2⟩ <;> first | (omega; done) | (simp_all; done))
                        | (rcases hK with ⟨h1, h2, h3⟩ | ⟨h1, h2, h3⟩ | ⟨h1, h2, h3⟩ <;> first | (omega; done) | (simp_all; done))
                        | (omega; done)
                        | (simp_all; done)
                        | (simp_all <;> omega))
                   | omega
               ·have hG117 := hg117; try simp only [gS] at hG117
                refine mc_off rfl hf (goff rfl rfl rfl (by first | assumption | rfl | (simp; done) | (simp; omega))) rfl rfl ?_; clear hf a; intro a hf
                refine mc_off rfl hf (goff rfl rfl rfl (by first | assumption | rfl | (simp; done) | (simp; omega))) rfl rfl ?_; clear hf a; intro a hf
                refine mc_off rfl hf (goff rfl rfl rfl (by first | assumption | rfl | (simp; done) | (simp; omega))) rfl rfl ?_; clear hf a; intro a hf
                refine mc_offq rfl rfl (AtE.of hh (by intro p hp; rw [List.mem_singleton.1 hp]; simp)) hf (goff rfl rfl rfl (by first | assumption | rfl | (simp; done) | (simp; omega))) rfl rfl ?_; clear hf a; intro a hf
                refine mc_e rfl fun Q1 => ?_
                refine o_off hf ?_; clear hf a; intro a hf
                refine ops_end ?_
                refine then_n ⟨⟨fun _ _ => (AtE.of hh (by intro p hp; rw [List.mem_singleton.1 hp]; simp)), trivial⟩, ?_⟩
                refine mc_e rfl fun Q1 => ?_
                refine o_off hf ?_; clear hf a; intro a hf
                refine ops_end ?_
                refine then_n ⟨⟨fun _ _ => (AtE.of hh (by intro p hp; rw [List.mem_singleton.1 hp]; simp)), trivial⟩, ?_⟩
                refine mc_off rfl hf (goff rfl rfl rfl (by first | assumption | rfl | (simp; done) | (simp; omega))) rfl rfl ?_; clear hf a; intro a hf
                refine mc_p rfl   hf (y_pf rfl rfl) (.inl rfl) rfl rfl ?_; clear hf a; intro a hf
                refine mc_p rfl   hf (yv_move rfl) (.inl rfl) rfl rfl ?_; clear hf a; intro a hf
                refine mc_off rfl hf (goff rfl rfl rfl (by first | assumption | rfl | (simp; done) | (simp; omega))) rfl rfl ?_; clear hf a; intro a hf
                refine mc_offq rfl rfl (AtE.of hh (by intro p hp; rw [List.mem_singleton.1 hp]; simp)) hf (goff rfl rfl rfl (by first | assumption | rfl | (simp; done) | (simp; omega))) rfl rfl ?_; clear hf a; intro a hf
                refine mc_off rfl hf (goff rfl rfl rfl (by first | assumption | rfl | (simp; done) | (simp; omega))) rfl rfl ?_; clear hf a; intro a hf
                refine mc_off rfl hf (goff rfl rfl rfl (by first | assumption | rfl | (simp; done) | (simp; omega))) rfl rfl ?_; clear hf a; intro a hf
                refine mc_e rfl fun Q1 => ?_
                refine o_off hf ?_; clear hf a; intro a hf
                refine ops_end ?_
                refine then_n ⟨⟨fun _ _ => (AtE.of hh (by intro p hp; rw [List.mem_singleton.1 hp]; simp)), trivial⟩, ?_⟩
                refine mc_e rfl fun Q1 => ?_
                refine o_off hf ?_; clear hf a; intro a hf
                refine ops_end ?_
                refine then_n ⟨⟨fun _ _ => (AtE.of hh (by intro p hp; rw [List.mem_singleton.1 hp]; simp)), trivial⟩, ?_⟩
                refine mc_p rfl   hf (y_pf rfl rfl) (.inl rfl) rfl rfl ?_; clear hf a; intro a hf
                refine mc_p rfl   hf (yv_move rfl) (.inl rfl) rfl rfl ?_; clear hf a; intro a hf
                refine mc_off rfl hf (goff rfl rfl rfl (by first | assumption | rfl | (simp; done) | (simp; omega))) rfl rfl ?_; clear hf a; intro a hf
                refine mc_offq rfl rfl (AtE.of hh (by intro p hp; rw [List.mem_singleton.1 hp]; simp)) hf (goff rfl rfl rfl (by first | assumption | rfl | (simp; done) | (simp; omega))) rfl rfl ?_; clear hf a; intro a hf
                refine mc_off rfl hf (goff rfl rfl rfl (by first | assumption | rfl | (simp; done) | (simp; omega))) rfl rfl ?_; clear hf a; intro a hf
                refine mc_off rfl hf (goff rfl rfl rfl (by first | assumption | rfl | (simp; done) | (simp; omega))) rfl rfl ?_; clear hf a; intro a hf
                refine mc_e rfl fun Q1 => ?_
                refine o_off hf ?_; clear hf a; intro a hf
                refine ops_end ?_
                refine then_n ⟨⟨fun _ _ => (AtE.of hh (by intro p hp; rw [List.mem_singleton.1 hp]; simp)), trivial⟩, ?_⟩
                refine mc_e rfl fun Q1 => ?_
                refine o_off hf ?_; clear hf a; intro a hf
                refine ops_end ?_
                refine then_n ⟨⟨fun _ _ => (AtE.of hh (by intro p hp; rw [List.mem_singleton.1 hp]; simp)), trivial⟩, ?_⟩
                refine mc_off rfl hf (goff rfl rfl rfl (by first | assumption | rfl | (simp; done) | (simp; omega))) rfl rfl ?_; clear hf a; intro a hf
                refine mc_p rfl   hf (y_pf rfl rfl) (.inl rfl) rfl rfl ?_; clear hf a; intro a hf
                refine mc_p rfl   hf (yv_move rfl) (.inl rfl) rfl rfl ?_; clear hf a; intro a hf
                refine mc_off rfl hf (goff rfl rfl rfl (by first | assumption | rfl | (simp; done) | (simp; omega))) rfl rfl ?_; clear hf a; intro a hf
                refine mc_off rfl hf (goff rfl rfl rfl (by first | assumption | rfl | (simp; done) | (simp; omega))) rfl rfl ?_; clear hf a; intro a hf
                refine mc_off rfl hf (goff rfl rfl rfl (by first | assumption | rfl | (simp; done) | (simp; omega))) rfl rfl ?_; clear hf a; intro a hf
                refine mc_off rfl hf (goff rfl rfl rfl (by first | assumption | rfl | (simp; done) | (simp; omega))) rfl rfl ?_; clear hf a; intro a hf
                refine mc_off rfl hf (goff rfl rfl rfl (by first | assumption | rfl | (simp; done) | (simp; omega))) rfl rfl ?_; clear hf a; intro a hf
                refine mc_e rfl fun Q1 => ?_
                refine o_off hf ?_; clear hf a; intro a hf
                refine ops_end ?_
                refine then_n ⟨⟨fun _ _ => (AtE.of hh (by intro p hp; rw [List.mem_singleton.1 hp]; simp)), trivial⟩, ?_⟩
                refine mc_e rfl fun Q1 => ?_
                refine o_off hf ?_; clear hf a; intro a hf
                refine ops_end ?_
                refine then_n ⟨⟨fun _ _ => (AtE.of hh (by intro p hp; rw [List.mem_singleton.1 hp]; simp)), trivial⟩, ?_⟩
                refine mc_e rfl fun Q1 => ?_
                refine o_off hf ?_; clear hf a; intro a hf
                refine ops_end ?_
                refine then_n ⟨⟨fun _ _ => (AtE.of hh (by intro p hp; rw [List.mem_singleton.1 hp]; simp)), trivial⟩, ?_⟩
                refine mc_p rfl   hf (y_pf rfl rfl) (.inl rfl) rfl rfl ?_; clear hf a; intro a hf
                refine mc_p rfl   hf (yv_move rfl) (.inl rfl) rfl rfl ?_; clear hf a; intro a hf
                refine mc_e rfl fun Q1 => ?_
                refine o_off hf ?_; clear hf a; intro a hf
                refine ops_end ?_
                refine then_n ⟨⟨fun _ _ => (AtE.of hh (by intro p hp; rw [List.mem_singleton.1 hp]; simp)), trivial⟩, ?_⟩
                refine mc_p rfl   hf (y_pf rfl rfl) (.inl rfl) rfl rfl ?_; clear hf a; intro a hf
                refine mc_p rfl   hf (yv_assign rfl) (.inl rfl) rfl rfl ?_; clear hf a; intro a hf
                refine mc_end ?_
                refine then_n ?_
                refine sy_ret ?_
                refine ret_r hf rfl rfl ?_
                first
                  | exact ⟨rfl, hh.ext⟩
                  | (exfalso
                     (repeat (rename Fr _ _ _ _ => z9; clear z9))
                     (repeat (rename Hp _ _ _ _ => z9; clear z9))
                     (try clear hcn); (try clear hat); (try clear hbe)
                     first
                       | (rcases hK with ⟨h1, h2⟩ | ⟨h1, h2⟩ <;> first | (omega; done) | (simp_all; done))
                       | (rcases hK with ⟨h1, h2, h3⟩ | ⟨h1, h2, h3⟩ | ⟨h1, h2, h3⟩ <;> first | (omega; done) | (simp_all; done))
                       | (omega; done)
                       | (simp_all; done)
                       | (simp_all <;> omega))
                  | omega
end Go.Proofs.Ytccjnjhlnpgocaa
namespace Go.Proofs.Ytccjnjhlnpgocaa
open Go Go.Sy Go.ChaM Go.ChangeShapes Go.WideShapes Go.Deep Go.RowKit
theorem hs24 : Try.prog.underlying 24 = some (.struct (Try.prog.fieldsOf 24)) := by kernel_rfl
theorem fs24 : (Try.prog.fieldsOf 24).map (fun f => (f.offset, f.type)) = #[(0, 3), (1, 22)] := by kernel_rfl
theorem co24 : Try.prog.cellsOf 24 = 2 := by kernel_rfl
theorem co22 : Try.prog.cellsOf 22 = 1 := by kernel_rfl
theorem co3 : Try.prog.cellsOf 3 = 1 := by kernel_rfl
theorem un22 : Try.prog.underlying 22 = some (.slice 46) := by kernel_rfl
theorem un42 : Try.prog.underlying 42 = some (.slice 56) := by kernel_rfl
theorem un56 : Try.prog.underlying 56 = some (.int .u16) := by kernel_rfl
theorem un5 : Try.prog.underlying 5 = some (.int .u8) := by kernel_rfl
theorem hs46 : Try.prog.underlying 46 = some (.struct (Try.prog.fieldsOf 46)) := by kernel_rfl
theorem co46 : Try.prog.cellsOf 46 = 6 := by kernel_rfl
theorem fk46 : flK Try.prog .i64 9 46 = some 6 := by kernel_rfl
theorem fk56 : flK Try.prog .u16 9 56 = some 1 := by kernel_rfl
theorem un4 : Try.prog.underlying 4 = some .bool := by kernel_rfl
theorem own : ownKnob Try.prog.godebug = none := by kernel_rfl
def toSi (p : List Int) : SiD := match p with
  | [a, b, c, d, e, f] => ⟨a, b, c, d, e, f⟩
  | _ => ⟨0, 0, 0, 0, 0, 0⟩
theorem toSi_enc {p : List Int} (h : p.length = 6) : siC (toSi p) = p.map (Value.int .i64) := by
  match p, h with
  | [a, b, c, d, e, f], _ => rfl
theorem toSi_bd {p : List Int} (h : p.length = 6) (hb : ∀ z ∈ p, I64 z) : SiI (toSi p) := by
  match p, h with
  | [a, b, c, d, e, f], _ => exact ⟨hb a (by simp), hb b (by simp), hb c (by simp), hb d (by simp), hb e (by simp), hb f (by simp)⟩
theorem tAt_flat {α : Type} {W : World} {sa : Option Addr} {l : List (List Int)} {n : Nat} {enc : α → List Value} {f : List Int → α} (hf : ∀ p ∈ l, enc (f p) = p.map (Value.int .i64)) (h : FlatAt W .i64 sa n l) : TAt n enc W sa (l.map f) := fun i s hi => by
  rw [List.getElem?_map] at hi
  cases hp : l[i]? with
  | none => rw [hp] at hi; cases hi
  | some p =>
    rw [hp] at hi
    cases hi
    obtain ⟨blk, off, c, T, fr, h1, h2, h3⟩ := h i p hp
    exact ⟨blk, off, c, T, fr, h1, h2, by rw [hf p (List.mem_of_getElem? hp)]; exact h3⟩
theorem len2 {l : List Value} (h : l.length = 2) : ∃ a b, l = [a, b] := by
  match l, h with
  | [a, b], _ => exact ⟨a, b, rfl⟩
section
variable {H : Type} {enc : TypeId × Value → H} {W : World} {base : Nat} {spare : Nat → Bool} {held : Bool}
set_option maxRecDepth 100000 in
theorem openCha {r : Reach} {b0 : Nat} {v : Value} {d : DataW H} {p : List MemPlace} (hv : Value.okWide Try.prog W r b0 24 v) (h : DataW.Trod enc Try.prog W base spare held 24 v d p) : ∃ (c : ChD) (sa : Option Addr) (cp : Nat), v = .agg (chC c sa cp) ∧ ChIn W c sa ∧ c.si.length ≤ cp := by
  obtain ⟨cs, rfl, hsz⟩ := okWide_struct hs24 hv
  obtain ⟨fuel, h⟩ := h
  obtain ⟨_, hf⟩ := trod_field hs24 h
  rw [fs24] at hf
  rw [co24] at hsz
  obtain ⟨l, rfl⟩ : ∃ l : List Value, cs = l.toArray := ⟨cs.toList, by simp⟩
  obtain ⟨c0, c1, rfl⟩ := len2 (by simpa using hsz)
  replace hf : ∀ (i o : Nat) (u : TypeId) (c : Nat), (#[(0, 3), (1, 22)] : Array (Nat × TypeId))[i]? = some (o, u) → Try.prog.cellsOf u = c → ∃ n y, DataW.trod enc Try.prog W base spare held n u (([c0, c1].drop o).take c) = some y := hf
  obtain ⟨_, y0, g0⟩ := hf 0 0 3 1 rfl co3
  obtain ⟨_, _, g1⟩ := hf 1 1 22 1 rfl co22
  obtain ⟨n, e1, _, hn⟩ := DataW.trod_int Try.un_3 g0
  obtain ⟨l1, s1, a1, e2, m1, b1, f1⟩ := trod_slices un22 fk46 (by omega) g1
  have hc1 := trod_cap un22 e2 g1
  simp at e1 e2
  subst e1; subst e2
  refine ⟨⟨n, l1.map toSi⟩, s1, a1, by simp, ⟨tAt_flat (fun p hp => toSi_enc (b1 p hp).1) f1, wf64 hn, fun s hs => ?_⟩, by simpa using hc1⟩
  obtain ⟨p, hp, rfl⟩ := List.mem_map.1 hs
  exact toSi_bd (b1 p hp).1 (fun z hz => wf64 ((b1 p hp).2 z hz))
set_option maxRecDepth 100000 in
theorem openSi {r : Reach} {b0 : Nat} {v : Value} {d : DataW H} {p : List MemPlace} (hv : Value.okWide Try.prog W r b0 46 v) (h : DataW.Trod enc Try.prog W base spare held 46 v d p) : ∃ t : SiD, v = siV t ∧ SiI t := by
  obtain ⟨cs, rfl, hsz⟩ := okWide_struct hs46 hv
  obtain ⟨fuel, h⟩ := h
  obtain ⟨p, h1, h2, h3⟩ := trod_fl fk46 h
  refine ⟨toSi p, ?_, toSi_bd h1 (fun z hz => wf64 (h3 z hz))⟩
  match p, h1 with
  | [x1, x2, x3, x4, x5, x6], _ =>
    have e : cs = #[.int .i64 x1, .int .i64 x2, .int .i64 x3, .int .i64 x4, .int .i64 x5, .int .i64 x6] := by
      apply Array.ext'
      have h4 : cs.toList = [x1, x2, x3, x4, x5, x6].map (Value.int .i64) := h2
      rw [h4]; rfl
    subst e
    rfl
end
end Go.Proofs.Ytccjnjhlnpgocaa
