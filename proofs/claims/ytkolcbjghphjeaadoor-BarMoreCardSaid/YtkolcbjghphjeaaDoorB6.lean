/- The program's opening of a bar, walked. -/
import Derived.Test.YtkolcbjghphjeaaDoorB5
namespace Go.Proofs.YtkolcbjghphjeaaDoor
open Go Go.Sy Go.BarM
theorem spl_get (c : Array Value) (off : Nat) (vs : List Value) (j : Nat) (h : off + vs.length ≤ c.size) : (spl c off vs)[j]? = if j < off then c[j]? else if j < off + vs.length then vs[j - off]? else c[j]? := by
  unfold spl
  rw [List.getElem?_toArray]
  by_cases h1 : j < off
  · rw [if_pos h1, List.append_assoc, List.getElem?_append_left (by simp; omega), List.getElem?_take_of_lt h1, Array.getElem?_toList]
  · rw [if_neg h1]
    by_cases h2 : j < off + vs.length
    · rw [if_pos h2, List.getElem?_append_left (by simp; omega), List.getElem?_append_right (by simp; omega)]
      congr 1; simp; omega
    · rw [if_neg h2, List.getElem?_append_right (by simp; omega), List.getElem?_drop, Array.getElem?_toList]
      congr 1; simp; omega
theorem spl_size (c : Array Value) (off : Nat) (vs : List Value) (h : off + vs.length ≤ c.size) : (spl c off vs).size = c.size := by
  unfold spl; simp; omega
/-- The fewest, and the most, slots by which two pictures of a scene can be apart. -/
def loS (b : BarD) (s : Scn) : Int := max 1 ((s.least + b.pitch - 1) / b.pitch)
def hiS (b : BarD) (s : Scn) : Int := min (b.slots - 1) (s.most / b.pitch)
theorem loS_bd {b : BarD} {s : Scn} (hV : Valid b) (hO : OkS s) : 1 ≤ loS b s ∧ loS b s ≤ 20000 := by
  have h1 := hV.p1; have h2 := hV.p2; have h3 := hO.l1; have h4 := hO.l2
  have h5 := Int.ediv_le_self b.pitch (show 0 ≤ s.least + b.pitch - 1 by omega)
  unfold loS; omega
theorem hiS_bd {b : BarD} {s : Scn} (hV : Valid b) (hO : OkS s) : 0 ≤ hiS b s ∧ hiS b s ≤ b.slots - 1 := by
  have h1 := hV.p1; have h2 := hV.s1; have h3 := hO.m1; have h4 := hO.l1
  have h5 := Int.ediv_nonneg (show 0 ≤ s.most by omega) (show 0 ≤ b.pitch by omega)
  unfold hiS; omega
/-- What an opened bar holds, the first k scenes looked at. -/
structure BarC (b : BarD) (sa : Option Addr) (sc bm k : Nat) (cs : Array Value) : Prop where
  size : cs.size = 26
  c0 : cs[0]? = some (.int .i64 b.slots)
  c1 : cs[1]? = some (.int .i64 b.pitch)
  c2 : cs[2]? = some (.int .i64 b.broken)
  c3 : cs[3]? = some (.int .i64 b.most)
  c4 : cs[4]? = some (.slice sa b.scenes.length sc)
  c25 : cs[25]? = some (.map (some bm))
  lo : ∀ i s, i < k → b.scenes[i]? = some s → cs[5 + i * 2]? = some (.int .i64 (loS b s))
  hi : ∀ i s, i < k → b.scenes[i]? = some s → cs[5 + i * 2 + 1]? = some (.int .i64 (hiS b s))
theorem BarC.step {b : BarD} {sa : Option Addr} {sc bm k : Nat} {cs : Array Value} (h : BarC b sa sc bm k cs) {s : Scn} (hs : b.scenes[k]? = some s) (hk : k < 10) :
    BarC b sa sc bm (k + 1) (spl cs (5 + k * 2) [.int .i64 (loS b s), .int .i64 (hiS b s)]) := by
  have hz := h.size
  have g := fun j => spl_get cs (5 + k * 2) [.int .i64 (loS b s), .int .i64 (hiS b s)] j (by simp; omega)
  refine ⟨by rw [spl_size _ _ _ (by simp; omega)]; exact hz, ?_, ?_, ?_, ?_, ?_, ?_, ?_, ?_⟩
  · rw [g, if_pos (by omega)]; exact h.c0
  · rw [g, if_pos (by omega)]; exact h.c1
  · rw [g, if_pos (by omega)]; exact h.c2
  · rw [g, if_pos (by omega)]; exact h.c3
  · rw [g, if_pos (by omega)]; exact h.c4
  · rw [g, if_neg (by omega), if_neg (by simp; omega)]; exact h.c25
  · intro i t hi ht
    by_cases hik : i = k
    · subst hik; rw [hs] at ht; cases ht
      rw [g, if_neg (by omega), if_pos (by simp)]; simp
    · rw [g, if_pos (by omega)]; exact h.lo i t (by omega) ht
  · intro i t hi ht
    by_cases hik : i = k
    · subst hik; rw [hs] at ht; cases ht
      rw [g, if_neg (by omega), if_pos (by simp)]; simp [show 5 + i * 2 + 1 - (5 + i * 2) = 1 by omega]
    · rw [g, if_pos (by omega)]; exact h.hi i t (by omega) ht
theorem c59v (b : BarD) (sa : Option Addr) (sc : Nat) (o : Bool) (ho : okBar b = o) (w : World) (hS : ScAt w sa b.scenes) : Calls Tryd.prog 59 #[barV b sa sc] w (Ret fun v w' => v = .bool o ∧ Ext [] w w') := by
  subst ho; exact c59 b sa sc w hS
theorem c35n (b : BarD) (sa : Option Addr) (sc : Nat) (w : World) (hS : ScAt w sa b.scenes) (hb : okBar b = false) : Calls Tryd.prog 35 #[barV b sa sc] w (Ret fun v w' => v = .tuple #[.pointer none, .int .i64 1] ∧ Ext [] w w') := by
  refine calls_of Tryd.func35 rfl rfl (fun a hf => ?_)
  have hh := Hp.init w []
  refine sy_seq ?_
  refine sy_ops ?_
  refine ops_box hf hh rfl (.inl rfl) rfl ?_; clear hf hh; clear a; intro B1 a w hf hh
  refine ops_v hf hh (yv_assign rfl) (.inl rfl) rfl rfl rfl ?_; clear hf; clear a; intro a hf
  refine ops_v hf hh (yv_assign rfl) (.inl rfl) rfl rfl rfl ?_; clear hf; clear a; intro a hf
  refine ops_end ?_
  refine then_n ?_
  refine sy_seq ?_
  refine sy_seq ?_
  refine sy_ops ?_
  refine ops_v hf hh (yv_loads Tryd.ag_24 rfl (fun _ h => by first | exact h.at (i := 0) rfl | exact h.at (i := 1) rfl | exact h.at (i := 2) rfl | exact h.at (i := 3) rfl) (by first | assumption | rfl)) (.inl rfl) rfl rfl rfl ?_; clear hf; clear a; intro a hf
  refine ops_call hf Tryd.en_59 rfl rfl rfl (.inl rfl) rfl (c59v b sa sc false hb _ (hS.ext hh.ext)) ?_; clear hf; clear a; intro v a w hR hf
  obtain ⟨rfl, hx⟩ := hR; replace hh := hh.more hx; clear hx
  refine ops_v hf hh (yv_not rfl) (.inl rfl) rfl rfl rfl ?_; clear hf; clear a; intro a hf
  refine ops_end ?_
  refine then_n ?_
  refine sy_ct hf rfl (by first | assumption | rfl | (simp; done)) ?_
  refine sy_seq ?_
  refine sy_ops ?_
  refine ops_v hf hh (yv_assign rfl) (.inl rfl) rfl rfl rfl ?_; clear hf; clear a; intro a hf
  refine ops_v hf hh (yv_assign rfl) (.inl rfl) rfl rfl rfl ?_; clear hf; clear a; intro a hf
  refine ops_end ?_
  refine then_n ?_
  refine sy_ret ?_
  refine then_r ?_
  refine ret_r hf rfl rfl ?_
  exact ⟨rfl, hh.ext⟩
theorem c35 (b : BarD) (sa : Option Addr) (sc : Nat) (u : World) (hS : ScAt u sa b.scenes) (hV : Valid b) : Calls Tryd.prog 35 #[barV b sa sc] u
    (Ret fun v w' => ∃ bp bm cs, v = .tuple #[ptr bp 0, .int .i64 0] ∧ BarC b sa sc bm b.scenes.length cs ∧ Hp u [] [(bp, .cells cs 90), (bm, .map #[] 0)] w') := by
  refine calls_of Tryd.func35 rfl rfl (fun a hf => ?_)
  have hh := Hp.init u []
  have hn := hV.n; have h1 := hV.p1; have h2 := hV.p2; have h3 := hV.s1; have h4 := hV.s2
  refine sy_seq ?_
  refine sy_ops ?_
  refine ops_box hf hh rfl (.inl rfl) rfl ?_; clear hf hh; clear a; intro B1 a w hf hh
  refine ops_v hf hh (yv_assign rfl) (.inl rfl) rfl rfl rfl ?_; clear hf; clear a; intro a hf
  refine ops_v hf hh (yv_assign rfl) (.inl rfl) rfl rfl rfl ?_; clear hf; clear a; intro a hf
  refine ops_end ?_
  refine then_n ?_
  refine sy_seq ?_
  refine sy_seq ?_
  refine sy_ops ?_
  refine ops_v hf hh (yv_loads Tryd.ag_24 rfl (fun _ h => by first | exact h.at (i := 0) rfl | exact h.at (i := 1) rfl | exact h.at (i := 2) rfl | exact h.at (i := 3) rfl | exact h.at (i := 4) rfl | exact h.old hb) (by first | assumption | rfl)) (.inl rfl) rfl rfl rfl ?_; clear hf; clear a; intro a hf
  refine ops_call hf Tryd.en_59 rfl rfl rfl (.inl rfl) rfl (c59v b sa sc true ((okBar_iff b).2 hV) _ (hS.ext hh.ext)) ?_; clear hf; clear a; intro v a w hR hf
  obtain ⟨rfl, hx⟩ := hR; replace hh := hh.more hx; clear hx
  refine ops_v hf hh (yv_not rfl) (.inl rfl) rfl rfl rfl ?_; clear hf; clear a; intro a hf
  refine ops_end ?_
  refine then_n ?_
  refine sy_cf hf rfl (by first | assumption | rfl | (simp; done)) ?_
  refine sy_skip ?_
  refine then_n ?_
  refine sy_seq ?_
  refine sy_ops ?_
  refine ops_v hf hh (yv_loads Tryd.ag_24 rfl (fun _ h => by first | exact h.at (i := 0) rfl | exact h.at (i := 1) rfl | exact h.at (i := 2) rfl | exact h.at (i := 3) rfl | exact h.at (i := 4) rfl | exact h.old hb) (by first | assumption | rfl)) (.inl rfl) rfl rfl rfl ?_; clear hf; clear a; intro a hf
  refine ops_makeMap hf hh (.inl rfl) rfl ?_; clear hf hh; clear a; intro B11 a w hf hh
  refine ops_v hf hh (yv_buildS Tryd.bs_90 rfl rfl) (.inl rfl) rfl rfl rfl ?_; clear hf; clear a; intro a hf
  refine ops_box hf hh rfl (.inl rfl) rfl ?_; clear hf hh; clear a; intro B13 a w hf hh
  refine ops_v hf hh (yv_assign rfl) (.inl rfl) rfl rfl rfl ?_; clear hf; clear a; intro a hf
  refine ops_end ?_
  refine then_n ?_
  refine sy_seq ?_
  refine sy_seq ?_
  refine sy_ops ?_
  refine ops_v hf hh (yv_fieldAddr Tryd.fo_24_4 rfl) (.inl rfl) rfl rfl rfl ?_; clear hf; clear a; intro a hf
  refine ops_v hf hh (yv_load Tryd.sc_22 rfl (fun _ h => by first | exact h.at (i := 0) rfl | exact h.at (i := 1) rfl | exact h.at (i := 2) rfl | exact h.at (i := 3) rfl | exact h.at (i := 4) rfl | exact h.old hb) (by first | rfl | assumption)) (.inl rfl) rfl rfl rfl ?_; clear hf; clear a; intro a hf
  refine ops_v hf hh (yv_len Tryd.se_22 rfl) (.inl rfl) rfl rfl rfl ?_; clear hf; clear a; intro a hf
  refine ops_v hf hh (yv_move rfl) (.inl rfl) rfl rfl rfl ?_; clear hf; clear a; intro a hf
  refine ops_end ?_
  refine then_n ?_
  refine sy_block ?_
  refine sy_loopH (σ := Nat) [5, 6, 17, 18, 19, 20, 21, 22, 23, 24, 25, 26, 27, 28, 29, 30, 31, 32, 33, 34, 35, 36, 37, 38, 39, 40, 41, 42, 43, 44, 45, 46, 47] (fun k => [(17, .int .i64 k)]) (fun k => fun w' => k ≤ b.scenes.length ∧ ∃ cs, BarC b sa sc B11 k cs ∧ Hp u [] [(B13, .cells cs 90), (B11, .map #[] 0), (B1, .cells #[.int .i64 b.slots, .int .i64 b.pitch, .int .i64 b.broken, .int .i64 b.most, .slice sa b.scenes.length sc] 24)] w') (fun k => b.scenes.length - k) (0) hf ?_ ?_ ?_
  · repeat' (first | exact True.intro | refine And.intro rfl ?_)
  · refine ⟨by omega, _, ?_, by exact hh⟩
    exact ⟨rfl, rfl, rfl, rfl, rfl, rfl, rfl, fun i s hi => by omega, fun i s hi => by omega⟩
  · rintro k a w ⟨hq1, cs, hcs, hh⟩ hf
    refine sy_seq ?_
    refine sy_ops ?_
    refine ops_v hf hh (yv_bin rfl rfl rfl) (.inl rfl) rfl rfl rfl ?_; clear hf; clear a; intro a hf
    refine ops_end ?_
    refine then_n ?_
    refine sy_seq ?_
    refine sy_cond hf rfl (fun hg3 => ?_) (fun hg3 => ?_)
    · have hG3 := hg3; try simp only [gS] at hG3
      refine sy_skip ?_
      refine then_n ?_
      refine sy_seq ?_
      refine sy_block ?_
      refine sy_seq ?_
      obtain ⟨s, hs⟩ := scn_of (l := b.scenes) (i := k) (by omega)
      have hO := hV.sc s (List.mem_of_getElem? hs)
      have g1 := hO.l1; have g2 := hO.l2; have g3 := hO.m1; have g4 := hO.m2
      obtain ⟨blk, off, c, T, fr, e, hb, hc⟩ := hS k s hs; cases e
      refine sy_ops ?_
      refine ops_v hf hh (yv_move rfl) (.inl rfl) rfl rfl rfl ?_; clear hf; clear a; intro a hf
      refine ops_v hf hh (yv_indexAddr Tryd.se_22 rfl rfl (by omega) (by omega)) (.inl rfl) rfl rfl rfl ?_; clear hf; clear a; intro a hf
      refine ops_v hf hh (yv_loads Tryd.ag_39 rfl (fun _ h => by first | exact h.at (i := 0) rfl | exact h.at (i := 1) rfl | exact h.at (i := 2) rfl | exact h.at (i := 3) rfl | exact h.at (i := 4) rfl | exact h.old hb) (by first | assumption | rfl)) (.inl rfl) rfl rfl rfl ?_; clear hf; clear a; intro a hf
      refine ops_alloc hf hh Tryd.ze_39 (.inl rfl) rfl ?_; clear hf hh; clear a; intro B6 a w hf hh
      refine ops_v hf hh (yv_assign rfl) (.inl rfl) rfl rfl rfl ?_; clear hf; clear a; intro a hf
      first | refine ops_store (i := 0) hf hh rfl rfl rfl Tryd.sz_39 rfl rfl rfl (.inl rfl) fun w hh => ?_ | refine ops_store (i := 1) hf hh rfl rfl rfl Tryd.sz_39 rfl rfl rfl (.inl rfl) fun w hh => ?_ | refine ops_store (i := 2) hf hh rfl rfl rfl Tryd.sz_39 rfl rfl rfl (.inl rfl) fun w hh => ?_ | refine ops_store (i := 3) hf hh rfl rfl rfl Tryd.sz_39 rfl rfl rfl (.inl rfl) fun w hh => ?_ | refine ops_store (i := 4) hf hh rfl rfl rfl Tryd.sz_39 rfl rfl rfl (.inl rfl) fun w hh => ?_
      refine ops_end ?_
      refine then_n ?_
      refine sy_tail (C := Hp _ _ _) 25 Tryd.follows (by kernel_rfl) rfl rfl (hh.drawn _) ?_
      refine q_v hf (yv_move rfl) (.inl rfl) rfl rfl ?_; clear hf; clear a; intro a hf
      refine q_v hf (yv_move rfl) (.inl rfl) rfl rfl ?_; clear hf; clear a; intro a hf
      refine q_v hf (yv_fieldAddr Tryd.fo_39_0 rfl) (.inl rfl) rfl rfl ?_; clear hf; clear a; intro a hf
      refine q_v hf (yv_load Tryd.sc_3 rfl (fun _ h => by first | exact h.at (i := 0) rfl | exact h.at (i := 1) rfl | exact h.at (i := 2) rfl | exact h.at (i := 3) rfl | exact h.at (i := 4) rfl | exact h.old hb) (by first | rfl | assumption)) (.inl rfl) rfl rfl ?_; clear hf; clear a; intro a hf
      refine q_v hf (yv_fieldAddr Tryd.fo_24_1 rfl) (.inl rfl) rfl rfl ?_; clear hf; clear a; intro a hf
      refine q_v hf (yv_load Tryd.sc_3 rfl (fun _ h => by first | exact h.at (i := 0) rfl | exact h.at (i := 1) rfl | exact h.at (i := 2) rfl | exact h.at (i := 3) rfl | exact h.at (i := 4) rfl | exact h.old hb) (by first | rfl | assumption)) (.inl rfl) rfl rfl ?_; clear hf; clear a; intro a hf
      first | refine q_v hf (yv_add rfl rfl (by omega) (by omega)) (.inl rfl) rfl rfl ?_; clear hf; clear a; intro a hf | refine q_v hf (yv_bin rfl rfl rfl) (.inl rfl) rfl rfl ?_; clear hf; clear a; intro a hf
      first | refine q_v hf (yv_sub rfl rfl (by omega) (by omega)) (.inl rfl) rfl rfl ?_; clear hf; clear a; intro a hf | refine q_v hf (yv_bin rfl rfl rfl) (.inl rfl) rfl rfl ?_; clear hf; clear a; intro a hf
      refine q_v hf (yv_fieldAddr Tryd.fo_24_1 rfl) (.inl rfl) rfl rfl ?_; clear hf; clear a; intro a hf
      refine q_v hf (yv_load Tryd.sc_3 rfl (fun _ h => by first | exact h.at (i := 0) rfl | exact h.at (i := 1) rfl | exact h.at (i := 2) rfl | exact h.at (i := 3) rfl | exact h.at (i := 4) rfl | exact h.old hb) (by first | rfl | assumption)) (.inl rfl) rfl rfl ?_; clear hf; clear a; intro a hf
      refine q_v hf (yv_quo rfl rfl (by omega) (by omega) (by omega)) (.inl rfl) rfl rfl ?_; clear hf; clear a; intro a hf
      refine q_v hf (yv_max rfl rfl) (.inl rfl) rfl rfl ?_; clear hf; clear a; intro a hf
      refine q_v hf (yv_fieldAddr Tryd.fo_24_0 rfl) (.inl rfl) rfl rfl ?_; clear hf; clear a; intro a hf
      refine q_v hf (yv_load Tryd.sc_3 rfl (fun _ h => by first | exact h.at (i := 0) rfl | exact h.at (i := 1) rfl | exact h.at (i := 2) rfl | exact h.at (i := 3) rfl | exact h.at (i := 4) rfl | exact h.old hb) (by first | rfl | assumption)) (.inl rfl) rfl rfl ?_; clear hf; clear a; intro a hf
      first | refine q_v hf (yv_sub rfl rfl (by omega) (by omega)) (.inl rfl) rfl rfl ?_; clear hf; clear a; intro a hf | refine q_v hf (yv_bin rfl rfl rfl) (.inl rfl) rfl rfl ?_; clear hf; clear a; intro a hf
      refine q_v hf (yv_fieldAddr Tryd.fo_39_1 rfl) (.inl rfl) rfl rfl ?_; clear hf; clear a; intro a hf
      refine q_v hf (yv_load Tryd.sc_3 rfl (fun _ h => by first | exact h.at (i := 0) rfl | exact h.at (i := 1) rfl | exact h.at (i := 2) rfl | exact h.at (i := 3) rfl | exact h.at (i := 4) rfl | exact h.old hb) (by first | rfl | assumption)) (.inl rfl) rfl rfl ?_; clear hf; clear a; intro a hf
      refine q_v hf (yv_fieldAddr Tryd.fo_24_1 rfl) (.inl rfl) rfl rfl ?_; clear hf; clear a; intro a hf
      refine q_v hf (yv_load Tryd.sc_3 rfl (fun _ h => by first | exact h.at (i := 0) rfl | exact h.at (i := 1) rfl | exact h.at (i := 2) rfl | exact h.at (i := 3) rfl | exact h.at (i := 4) rfl | exact h.old hb) (by first | rfl | assumption)) (.inl rfl) rfl rfl ?_; clear hf; clear a; intro a hf
      refine q_v hf (yv_quo rfl rfl (by omega) (by omega) (by omega)) (.inl rfl) rfl rfl ?_; clear hf; clear a; intro a hf
      refine q_v hf (yv_min rfl rfl) (.inl rfl) rfl rfl ?_; clear hf; clear a; intro a hf
      refine q_v hf (yv_buildA Tryd.ba_86 rfl rfl) (.inl rfl) rfl rfl ?_; clear hf; clear a; intro a hf
      refine q_v hf (yv_nilCheck rfl) (.inl rfl) rfl rfl ?_; clear hf; clear a; intro a hf
      refine q_v hf (yv_fieldAddr Tryd.fo_90_1 rfl) (.inl rfl) rfl rfl ?_; clear hf; clear a; intro a hf
      refine q_v hf (yv_indexArr Tryd.ae_87 rfl rfl (by omega) (by omega)) (.inl rfl) rfl rfl ?_; clear hf; clear a; intro a hf
      refine q_end fun w hh => ?_
      refine ops_store (i := 1) hf hh rfl rfl rfl Tryd.sz_86 rfl rfl (by have hz := hcs.size; exact Nat.ble_eq_true_of_le (by rw [hz]; show 0 + 5 + ((k : Nat) : Int).toNat * 2 + 2 ≤ 26; simp; omega)) (.inl rfl) fun w hh => ?_
      refine ops_end ?_
      refine blk_n ?_
      refine then_n ?_
      refine sy_ops ?_
      first | refine ops_v hf hh (yv_add rfl rfl (by omega) (by omega)) (.inl rfl) rfl rfl rfl ?_; clear hf; clear a; intro a hf | refine ops_v hf hh (yv_bin rfl rfl rfl) (.inl rfl) rfl rfl rfl ?_; clear hf; clear a; intro a hf
      refine ops_v hf hh (yv_move rfl) (.inl rfl) rfl rfl rfl ?_; clear hf; clear a; intro a hf
      refine ops_end ?_
      refine then_n ?_
      have hst := hcs.step hs (by omega)
      refine ⟨k + 1, ⟨⟨by omega, _, hst, ?_⟩, hf.head ⟨rfl, True.intro⟩ (Keep.cons rfl (Keep.cons rfl (Keep.cons rfl (Keep.cons rfl (Keep.cons rfl (Keep.cons rfl (Keep.cons rfl (Keep.cons rfl (Keep.cons rfl (Keep.cons rfl (Keep.cons rfl (Keep.cons rfl (Keep.cons rfl (Keep.cons rfl (Keep.cons rfl (Keep.cons rfl (Keep.cons rfl (Keep.cons rfl (Keep.cons rfl (Keep.cons rfl (Keep.cons rfl (Keep.cons rfl (Keep.cons rfl (Keep.cons rfl (Keep.cons rfl (Keep.cons rfl (Keep.cons rfl (Keep.cons rfl (Keep.cons rfl (Keep.cons rfl (Keep.cons rfl (Keep.cons rfl (Keep.cons rfl (Keep.app rfl (Keep.rm rfl Keep.base)))))))))))))))))))))))))))))))))))⟩, by omega⟩
      simp only [Int.toNat_natCast, Nat.zero_add] at hh
      exact hh.less (.cons _ (List.Sublist.refl _))
    · have hG3 := hg3; try simp only [gS] at hG3
      refine sy_exit ?_
      refine then_e ?_
      refine then_e ?_
      refine blk_e ?_
      refine then_n ?_
      refine sy_seq ?_
      refine sy_ops ?_
      refine ops_v hf hh (yv_move rfl) (.inl rfl) rfl rfl rfl ?_; clear hf; clear a; intro a hf
      refine ops_v hf hh (yv_assign rfl) (.inl rfl) rfl rfl rfl ?_; clear hf; clear a; intro a hf
      refine ops_v hf hh (yv_assign rfl) (.inl rfl) rfl rfl rfl ?_; clear hf; clear a; intro a hf
      refine ops_end ?_
      refine then_n ?_
      refine sy_ret ?_
      refine ret_r hf rfl rfl ?_
      have : k = b.scenes.length := by omega
      subst this
      exact ⟨B13, B11, cs, rfl, hcs, hh.less (.cons_cons _ (.cons_cons _ (.cons _ .slnil)))⟩
/-- An opened bar lies in memory. -/
def BarO (w : World) (b : BarD) (sa : Option Addr) (sc bp bm : Nat) : Prop := ∃ cs, w.heap[bp]? = some (.cells cs 90 (0, 0)) ∧ BarC b sa sc bm b.scenes.length cs
theorem BarO.ext {w w' : World} {b : BarD} {sa : Option Addr} {sc bp bm : Nat} {M : List Nat} (h : BarO w b sa sc bp bm) (e : Ext M w w') (hm : bp ∉ M) : BarO w' b sa sc bp bm :=
  let ⟨cs, h1, h2⟩ := h
  ⟨cs, e.getM h1 hm, h2⟩
theorem land_zero {p k n : Nat} (hp : p < 2 ^ n) : p &&& k = 0 ↔ ∀ j, j < n → ¬ (p.testBit j = true ∧ k.testBit j = true) := by
  constructor
  · intro h j _ ⟨h1, h2⟩
    have : (p &&& k).testBit j = true := by rw [Nat.testBit_and, h1, h2]; rfl
    rw [h] at this; simp at this
  · intro h
    apply Nat.eq_of_testBit_eq
    intro j
    rw [Nat.testBit_and, Nat.zero_testBit]
    by_cases hj : j < n
    · have := h j hj
      cases h1 : p.testBit j <;> cases h2 : k.testBit j <;> simp_all
    · rw [testBit_lt hp (by omega)]; rfl
theorem isPlan_land (b : BarD) (p : Nat) : isPlan b p = true ↔ p < 2 ^ b.slots.toNat ∧ p &&& b.broken.toNat = 0 ∧ (pc p : Int) ≤ b.most := by
  rw [isPlan_iff]
  constructor
  · rintro ⟨h1, h2, h3⟩; exact ⟨h1, (land_zero h1).2 h3, h2⟩
  · rintro ⟨h1, h2, h3⟩; exact ⟨h1, h3, (land_zero h1).1 h2⟩
theorem c36 (b : BarD) (sa : Option Addr) (sc bp bm : Nat) (p : Int) (w : World) (hV : Valid b) (hB : BarO w b sa sc bp bm) : Calls Tryd.prog 36 #[ptr bp 0, .int .i64 p] w (Ret fun v w' => v = .bool (isPlanI b p) ∧ Ext [] w w') := by
  refine calls_of Tryd.func36 rfl rfl (fun a hf => ?_)
  have hh := Hp.init w []
  obtain ⟨cs, hb, hcs⟩ := hB
  have c0 := hcs.c0; have c1 := hcs.c1; have c2 := hcs.c2; have c3 := hcs.c3; have c4 := hcs.c4
  have hs1 := hV.s1; have hs2 := hV.s2; have hk1 := hV.k1; have hk2 := hV.k2; have hn := hV.n
  have hpw := shl_bd hs1 hs2
  have hpw2 := cast_pow b.slots.toNat
  refine sy_seq ?_
  refine sy_ops ?_
  refine ops_v hf hh (yv_assign rfl) (.inl rfl) rfl rfl rfl ?_; clear hf; clear a; intro a hf
  refine ops_end ?_
  refine then_n ?_
  refine sy_seq ?_
  refine sy_quiet (C := Hp _ _ _) Tryd.follows (by kernel_rfl) (hh.drawn _) ?_
  refine q_v hf (yv_move rfl) (.inl rfl) rfl rfl ?_; clear hf; clear a; intro a hf
  refine q_v hf (yv_move rfl) (.inl rfl) rfl rfl ?_; clear hf; clear a; intro a hf
  refine q_v hf (yv_nilCheck rfl) (.inl rfl) rfl rfl ?_; clear hf; clear a; intro a hf
  refine q_v hf (yv_fieldAddr Tryd.fo_90_0 rfl) (.inl rfl) rfl rfl ?_; clear hf; clear a; intro a hf
  refine q_v hf (yv_fieldAddr Tryd.fo_24_0 rfl) (.inl rfl) rfl rfl ?_; clear hf; clear a; intro a hf
  refine q_v hf (yv_load Tryd.sc_3 rfl (fun _ h => by first | exact h.at (i := 0) rfl | exact h.old hb) (by first | rfl | assumption)) (.inl rfl) rfl rfl ?_; clear hf; clear a; intro a hf
  refine q_v hf (yv_shl1 (.inl rfl) rfl rfl (by omega) (by omega)) (.inl rfl) rfl rfl ?_; clear hf; clear a; intro a hf
  first | refine q_v hf (yv_sub rfl rfl (by omega) (by omega)) (.inl rfl) rfl rfl ?_; clear hf; clear a; intro a hf | refine q_v hf (yv_bin rfl rfl rfl) (.inl rfl) rfl rfl ?_; clear hf; clear a; intro a hf
  refine q_callE hf Tryd.en_40 rfl rfl rfl (.inl rfl) rfl (fun w hh => c40 _ _ _ _) ?_; clear hf; clear a; intro a hf
  refine q_v hf (yv_move rfl) (.inl rfl) rfl rfl ?_; clear hf; clear a; intro a hf
  refine guard_splitq hf (t := 14) rfl (fun hg2 => ?_) (fun hg2 => ?_)
  · have hG2 := hg2; try simp only [gS] at hG2
    refine q_v hf (yv_move rfl) (gon rfl rfl rfl (by first | assumption | rfl | (simp; done))) rfl rfl ?_; clear hf; clear a; intro a hf
    refine q_v hf (yv_move rfl) (gon rfl rfl rfl (by first | assumption | rfl | (simp; done))) rfl rfl ?_; clear hf; clear a; intro a hf
    refine q_v hf (yv_nilCheck rfl) (gon rfl rfl rfl (by first | assumption | rfl | (simp; done))) rfl rfl ?_; clear hf; clear a; intro a hf
    refine q_v hf (yv_fieldAddr Tryd.fo_90_0 rfl) (gon rfl rfl rfl (by first | assumption | rfl | (simp; done))) rfl rfl ?_; clear hf; clear a; intro a hf
    refine q_v hf (yv_fieldAddr Tryd.fo_24_2 rfl) (gon rfl rfl rfl (by first | assumption | rfl | (simp; done))) rfl rfl ?_; clear hf; clear a; intro a hf
    refine q_v hf (yv_load Tryd.sc_3 rfl (fun _ h => by first | exact h.at (i := 0) rfl | exact h.old hb) (by first | rfl | assumption)) (gon rfl rfl rfl (by first | assumption | rfl | (simp; done))) rfl rfl ?_; clear hf; clear a; intro a hf
    first | refine q_v hf (yv_and (.inl rfl) rfl rfl (by omega) (by simp only [IntKind.top]; omega) (by omega) (by simp only [IntKind.top]; omega)) (gon rfl rfl rfl (by first | assumption | rfl | (simp; done))) rfl rfl ?_; clear hf; clear a; intro a hf | refine q_v hf (yv_bin rfl rfl rfl) (gon rfl rfl rfl (by first | assumption | rfl | (simp; done))) rfl rfl ?_; clear hf; clear a; intro a hf
    refine q_v hf (yv_bin rfl rfl rfl) (gon rfl rfl rfl (by first | assumption | rfl | (simp; done))) rfl rfl ?_; clear hf; clear a; intro a hf
    refine q_v hf (yv_pick_t rfl (by first | assumption | rfl | (simp; done)) rfl) (.inl rfl) rfl rfl ?_; clear hf; clear a; intro a hf
    refine q_v hf (yv_move rfl) (.inl rfl) rfl rfl ?_; clear hf; clear a; intro a hf
    refine guard_splitq hf (t := 24) rfl (fun hg4 => ?_) (fun hg4 => ?_)
    · have hG4 := hg4; try simp only [gS] at hG4
      refine q_v hf (yv_move rfl) (gon rfl rfl rfl (by first | assumption | rfl | (simp; done))) rfl rfl ?_; clear hf; clear a; intro a hf
      first | refine q_v hf (yv_convx (.inr rfl) (by kernel_rfl) Tryd.un_56 rfl (by omega) (by simp only [IntKind.top]; omega)) (gon rfl rfl rfl (by first | assumption | rfl | (simp; done))) rfl rfl ?_; clear hf; clear a; intro a hf | refine q_v hf (yv_conv (by kernel_rfl) Tryd.un_56 rfl) (gon rfl rfl rfl (by first | assumption | rfl | (simp; done))) rfl rfl ?_; clear hf; clear a; intro a hf
      refine q_callE hf Tryd.en_53 rfl rfl rfl (gon rfl rfl rfl (by first | assumption | rfl | (simp; done))) rfl (fun w hh => c53i _ (by omega) (by omega) _) ?_; clear hf; clear a; intro a hf
      refine q_v hf (yv_move rfl) (gon rfl rfl rfl (by first | assumption | rfl | (simp; done))) rfl rfl ?_; clear hf; clear a; intro a hf
      refine q_v hf (yv_nilCheck rfl) (gon rfl rfl rfl (by first | assumption | rfl | (simp; done))) rfl rfl ?_; clear hf; clear a; intro a hf
      refine q_v hf (yv_fieldAddr Tryd.fo_90_0 rfl) (gon rfl rfl rfl (by first | assumption | rfl | (simp; done))) rfl rfl ?_; clear hf; clear a; intro a hf
      refine q_v hf (yv_fieldAddr Tryd.fo_24_3 rfl) (gon rfl rfl rfl (by first | assumption | rfl | (simp; done))) rfl rfl ?_; clear hf; clear a; intro a hf
      refine q_v hf (yv_load Tryd.sc_3 rfl (fun _ h => by first | exact h.at (i := 0) rfl | exact h.old hb) (by first | rfl | assumption)) (gon rfl rfl rfl (by first | assumption | rfl | (simp; done))) rfl rfl ?_; clear hf; clear a; intro a hf
      refine q_v hf (yv_bin rfl rfl rfl) (gon rfl rfl rfl (by first | assumption | rfl | (simp; done))) rfl rfl ?_; clear hf; clear a; intro a hf
      refine q_v hf (yv_pick_t rfl (by first | assumption | rfl | (simp; done)) rfl) (.inl rfl) rfl rfl ?_; clear hf; clear a; intro a hf
      refine q_v hf (yv_assign rfl) (.inl rfl) rfl rfl ?_; clear hf; clear a; intro a hf
      refine q_end fun w hh => ?_
      refine then_n ?_
      refine sy_ret ?_
      refine ret_r hf rfl rfl ?_
      refine ⟨congrArg Value.bool ?_, hh.ext⟩
      first
        | (refine isPlanI_no fun h0 hip => ?_
           have hi := (isPlan_land b p.toNat).1 hip
           have hi1 := hi.1; have hi2 := hi.2.1
           omega)
        | (have h0 : 0 ≤ p := by omega
           have hlt : p.toNat < 2 ^ b.slots.toNat := by omega
           have hla : p.toNat &&& b.broken.toNat = 0 := by omega
           have hl := isPlan_land b p.toNat
           have hpi : isPlanI b p = isPlan b p.toNat := by unfold isPlanI; simp [h0]
           rw [hpi, Bool.eq_iff_iff, hl, decide_eq_true_eq]
           exact ⟨fun h => ⟨hlt, hla, h⟩, fun h => h.2.2⟩)
    · have hG4 := hg4; try simp only [gS] at hG4
      refine q_off hf (goff rfl rfl rfl (by first | assumption | rfl | (simp; done))) rfl rfl ?_; clear hf; clear a; intro a hf
      refine q_off hf (goff rfl rfl rfl (by first | assumption | rfl | (simp; done))) rfl rfl ?_; clear hf; clear a; intro a hf
      refine q_off hf (goff rfl rfl rfl (by first | assumption | rfl | (simp; done))) rfl rfl ?_; clear hf; clear a; intro a hf
      refine q_off hf (goff rfl rfl rfl (by first | assumption | rfl | (simp; done))) rfl rfl ?_; clear hf; clear a; intro a hf
      refine q_off hf (goff rfl rfl rfl (by first | assumption | rfl | (simp; done))) rfl rfl ?_; clear hf; clear a; intro a hf
      refine q_off hf (goff rfl rfl rfl (by first | assumption | rfl | (simp; done))) rfl rfl ?_; clear hf; clear a; intro a hf
      refine q_off hf (goff rfl rfl rfl (by first | assumption | rfl | (simp; done))) rfl rfl ?_; clear hf; clear a; intro a hf
      refine q_off hf (goff rfl rfl rfl (by first | assumption | rfl | (simp; done))) rfl rfl ?_; clear hf; clear a; intro a hf
      refine q_off hf (goff rfl rfl rfl (by first | assumption | rfl | (simp; done))) rfl rfl ?_; clear hf; clear a; intro a hf
      refine q_v hf (yv_pick_f rfl (by first | assumption | rfl | (simp; done)) rfl) (.inl rfl) rfl rfl ?_; clear hf; clear a; intro a hf
      refine q_v hf (yv_assign rfl) (.inl rfl) rfl rfl ?_; clear hf; clear a; intro a hf
      refine q_end fun w hh => ?_
      refine then_n ?_
      refine sy_ret ?_
      refine ret_r hf rfl rfl ?_
      refine ⟨congrArg Value.bool ?_, hh.ext⟩
      first
        | (refine isPlanI_no fun h0 hip => ?_
           have hi := (isPlan_land b p.toNat).1 hip
           have hi1 := hi.1; have hi2 := hi.2.1
           omega)
        | (have h0 : 0 ≤ p := by omega
           have hlt : p.toNat < 2 ^ b.slots.toNat := by omega
           have hla : p.toNat &&& b.broken.toNat = 0 := by omega
           have hl := isPlan_land b p.toNat
           have hpi : isPlanI b p = isPlan b p.toNat := by unfold isPlanI; simp [h0]
           rw [hpi, Bool.eq_iff_iff, hl, decide_eq_true_eq]
           exact ⟨fun h => ⟨hlt, hla, h⟩, fun h => h.2.2⟩)
  · have hG2 := hg2; try simp only [gS] at hG2
    refine q_off hf (goff rfl rfl rfl (by first | assumption | rfl | (simp; done))) rfl rfl ?_; clear hf; clear a; intro a hf
    refine q_off hf (goff rfl rfl rfl (by first | assumption | rfl | (simp; done))) rfl rfl ?_; clear hf; clear a; intro a hf
    refine q_off hf (goff rfl rfl rfl (by first | assumption | rfl | (simp; done))) rfl rfl ?_; clear hf; clear a; intro a hf
    refine q_off hf (goff rfl rfl rfl (by first | assumption | rfl | (simp; done))) rfl rfl ?_; clear hf; clear a; intro a hf
    refine q_off hf (goff rfl rfl rfl (by first | assumption | rfl | (simp; done))) rfl rfl ?_; clear hf; clear a; intro a hf
    refine q_off hf (goff rfl rfl rfl (by first | assumption | rfl | (simp; done))) rfl rfl ?_; clear hf; clear a; intro a hf
    refine q_off hf (goff rfl rfl rfl (by first | assumption | rfl | (simp; done))) rfl rfl ?_; clear hf; clear a; intro a hf
    refine q_off hf (goff rfl rfl rfl (by first | assumption | rfl | (simp; done))) rfl rfl ?_; clear hf; clear a; intro a hf
    refine q_v hf (yv_pick_f rfl (by first | assumption | rfl | (simp; done)) rfl) (.inl rfl) rfl rfl ?_; clear hf; clear a; intro a hf
    refine q_v hf (yv_move rfl) (.inl rfl) rfl rfl ?_; clear hf; clear a; intro a hf
    refine q_off hf (goff rfl rfl rfl (by first | assumption | rfl | (simp; done))) rfl rfl ?_; clear hf; clear a; intro a hf
    refine q_off hf (goff rfl rfl rfl (by first | assumption | rfl | (simp; done))) rfl rfl ?_; clear hf; clear a; intro a hf
    refine q_off hf (goff rfl rfl rfl (by first | assumption | rfl | (simp; done))) rfl rfl ?_; clear hf; clear a; intro a hf
    refine q_off hf (goff rfl rfl rfl (by first | assumption | rfl | (simp; done))) rfl rfl ?_; clear hf; clear a; intro a hf
    refine q_off hf (goff rfl rfl rfl (by first | assumption | rfl | (simp; done))) rfl rfl ?_; clear hf; clear a; intro a hf
    refine q_off hf (goff rfl rfl rfl (by first | assumption | rfl | (simp; done))) rfl rfl ?_; clear hf; clear a; intro a hf
    refine q_off hf (goff rfl rfl rfl (by first | assumption | rfl | (simp; done))) rfl rfl ?_; clear hf; clear a; intro a hf
    refine q_off hf (goff rfl rfl rfl (by first | assumption | rfl | (simp; done))) rfl rfl ?_; clear hf; clear a; intro a hf
    refine q_off hf (goff rfl rfl rfl (by first | assumption | rfl | (simp; done))) rfl rfl ?_; clear hf; clear a; intro a hf
    refine q_v hf (yv_pick_f rfl (by first | assumption | rfl | (simp; done)) rfl) (.inl rfl) rfl rfl ?_; clear hf; clear a; intro a hf
    refine q_v hf (yv_assign rfl) (.inl rfl) rfl rfl ?_; clear hf; clear a; intro a hf
    refine q_end fun w hh => ?_
    refine then_n ?_
    refine sy_ret ?_
    refine ret_r hf rfl rfl ?_
    refine ⟨congrArg Value.bool ?_, hh.ext⟩
    first
      | (refine isPlanI_no fun h0 hip => ?_
         have hi := (isPlan_land b p.toNat).1 hip
         have hi1 := hi.1; have hi2 := hi.2.1
         omega)
      | (have h0 : 0 ≤ p := by omega
         have hlt : p.toNat < 2 ^ b.slots.toNat := by omega
         have hla : p.toNat &&& b.broken.toNat = 0 := by omega
         have hl := isPlan_land b p.toNat
         have hpi : isPlanI b p = isPlan b p.toNat := by unfold isPlanI; simp [h0]
         rw [hpi, Bool.eq_iff_iff, hl, decide_eq_true_eq]
         exact ⟨fun h => ⟨hlt, hla, h⟩, fun h => h.2.2⟩)
theorem c49 (b : BarD) (sa : Option Addr) (sc bp bm : Nat) (w : World) (hV : Valid b) (hB : BarO w b sa sc bp bm) : Calls Tryd.prog 49 #[ptr bp 0] w (Ret fun v w' => v = .int .u64 ((2 ^ b.scenes.length - 1 : Nat) : Int) ∧ Ext [] w w') := by
  refine calls_of Tryd.func49 rfl rfl (fun a hf => ?_)
  have hh := Hp.init w []
  obtain ⟨cs, hb, hcs⟩ := hB
  have c0 := hcs.c0; have c1 := hcs.c1; have c2 := hcs.c2; have c3 := hcs.c3; have c4 := hcs.c4
  have hs1 := hV.s1; have hs2 := hV.s2; have hk1 := hV.k1; have hk2 := hV.k2; have hn := hV.n
  have hpw := shl_bd hs1 hs2
  have hpw2 := cast_pow b.slots.toNat
  have hm1 : 1 ≤ 2 ^ ((b.scenes.length : Nat) : Int).toNat := Nat.one_le_two_pow
  have hm2 : 2 ^ ((b.scenes.length : Nat) : Int).toNat ≤ 2 ^ 10 := Nat.pow_le_pow_right (by omega) (by simpa using hn)
  refine sy_seq ?_
  refine sy_ops ?_
  refine ops_v hf hh (yv_assign rfl) (.inl rfl) rfl rfl rfl ?_; clear hf; clear a; intro a hf
  refine ops_end ?_
  refine then_n ?_
  refine sy_seq ?_
  refine sy_ops ?_
  refine ops_v hf hh (yv_move rfl) (.inl rfl) rfl rfl rfl ?_; clear hf; clear a; intro a hf
  refine ops_v hf hh (yv_nilCheck rfl) (.inl rfl) rfl rfl rfl ?_; clear hf; clear a; intro a hf
  refine ops_v hf hh (yv_fieldAddr Tryd.fo_90_0 rfl) (.inl rfl) rfl rfl rfl ?_; clear hf; clear a; intro a hf
  refine ops_v hf hh (yv_fieldAddr Tryd.fo_24_4 rfl) (.inl rfl) rfl rfl rfl ?_; clear hf; clear a; intro a hf
  refine ops_v hf hh (yv_load Tryd.sc_22 rfl (fun _ h => by first | exact h.at (i := 0) rfl | exact h.old hb) (by first | rfl | assumption)) (.inl rfl) rfl rfl rfl ?_; clear hf; clear a; intro a hf
  refine ops_v hf hh (yv_len Tryd.se_22 rfl) (.inl rfl) rfl rfl rfl ?_; clear hf; clear a; intro a hf
  refine ops_v hf hh (yv_shl1 (.inr rfl) rfl rfl (by omega) (by omega)) (.inl rfl) rfl rfl rfl ?_; clear hf; clear a; intro a hf
  first | refine ops_v hf hh (yv_subx (.inr rfl) rfl rfl (by omega) (by simp only [IntKind.top]; omega)) (.inl rfl) rfl rfl rfl ?_; clear hf; clear a; intro a hf | refine ops_v hf hh (yv_bin rfl rfl rfl) (.inl rfl) rfl rfl rfl ?_; clear hf; clear a; intro a hf
  refine ops_v hf hh (yv_assign rfl) (.inl rfl) rfl rfl rfl ?_; clear hf; clear a; intro a hf
  refine ops_end ?_
  refine then_n ?_
  refine sy_ret ?_
  refine ret_r hf rfl rfl ?_
  refine ⟨intv ?_, hh.ext⟩
  rw [Int.toNat_natCast] at *
  omega
end Go.Proofs.YtkolcbjghphjeaaDoor
