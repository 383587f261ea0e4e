/- The program's Count and Most, walked. -/
import Derived.Test.YtkolcbjghphjeaaDoorB10
namespace Go.Proofs.YtkolcbjghphjeaaDoor
open Go Go.Sy Go.BarM
theorem flat_len {α β : Type} {n : Nat} {f : α → List β} : ∀ L : List α, (∀ x ∈ L, (f x).length ≤ n) → (L.flatMap f).length ≤ L.length * n
  | [], _ => by simp
  | x :: L, h => by
    rw [List.flatMap_cons, List.length_append, List.length_cons, Nat.add_mul]
    have h1 := h x (by simp)
    have h2 := flat_len L (fun y hy => h y (by simp [hy]))
    omega
theorem plansL_len {b : BarD} (hV : Valid b) : (plansL b).length ≤ 17 * 65536 := by
  have hs1 := hV.s1; have hs2 := hV.s2; have hm1 := hV.m1; have hm2 := hV.m2
  have hpw := shl_bd hs1 hs2
  unfold plansL restM
  have h := flat_len (n := 65536) (f := fun k => rowF b k 0) (List.range' 0 (topM b + 1 - 0)) (fun k _ => by
    unfold rowF
    have e := List.length_filter_le (good b k) (List.range' 0 (2 ^ b.slots.toNat - 0))
    rw [List.length_range'] at e
    exact Nat.le_trans e (by omega))
  rw [List.length_range'] at h
  have ht : topM b ≤ 16 := by unfold topM; omega
  exact Nat.le_trans h (Nat.mul_le_mul_right _ (by omega))
/-- How many of the first k plans take all scenes. -/
def cntK (b : BarD) (set k : Nat) : Nat := ((plansL b).take k).countP (takesB b set)
theorem cntK_step {b : BarD} {set k y : Nat} (h : (plansL b)[k]? = some y) : cntK b set (k + 1) = cntK b set k + (if takesB b set y then 1 else 0) := by
  unfold cntK
  rw [List.take_add_one, h, List.countP_append]
  simp [List.countP_cons]
theorem cntK_le {b : BarD} (hV : Valid b) (set k : Nat) : cntK b set k ≤ 17 * 65536 :=
  Nat.le_trans List.countP_le_length (Nat.le_trans (List.length_take_le' _ _) (plansL_len hV))
/-- The plan that takes the most scenes, of the first k. -/
def bstK (b : BarD) (k : Nat) : Nat := ((plansL b).take k).foldl (fun m p => if pc (taken b m) < pc (taken b p) then p else m) 0
theorem bstK_step {b : BarD} {k y : Nat} (h : (plansL b)[k]? = some y) : bstK b (k + 1) = if pc (taken b (bstK b k)) < pc (taken b y) then y else bstK b k := by
  unfold bstK
  rw [List.take_add_one, h, List.foldl_append]; rfl
theorem bstK_lt {b : BarD} (hV : Valid b) : ∀ k, bstK b k < 2 ^ b.slots.toNat
  | 0 => by show 0 < _; exact Nat.pow_pos (by omega)
  | k + 1 => by
    have ih := bstK_lt hV k
    cases h : (plansL b)[k]? with
    | none =>
      have e : bstK b (k + 1) = bstK b k := by unfold bstK; rw [List.take_add_one, h]; simp
      rw [e]; exact ih
    | some y =>
      rw [bstK_step h]; split
      · exact pl_lt hV h
      · exact ih
theorem taken_lt (b : BarD) (p : Nat) : taken b p < 2 ^ b.scenes.length := by have := takenTo_lt b p b.scenes.length; unfold taken; exact this
theorem taken_bd {b : BarD} (hV : Valid b) (p : Nat) : taken b p < 65536 := by
  have h1 := taken_lt b p; have hn := hV.n
  have hm2 : 2 ^ b.scenes.length ≤ 2 ^ 10 := Nat.pow_le_pow_right (by omega) hn
  omega
attribute [irreducible] cntK bstK
theorem c20n (b : BarD) (sa : Option Addr) (sc : Nat) (u : World) (hS : ScAt u sa b.scenes) (hb : okBar b = false) : Calls Tryd.prog 20 #[barV b sa sc] u (Ret fun v w' => v = .tuple #[.int .i64 0, .int .i64 1] ∧ Ext [] u w') := by
  refine calls_ofM Tryd.func20 rfl rfl (fun a hf => ?_)
  have hh := Hp.init u []
  refine sy_seq ?_
  refine sy_ops ?_
  refine ops_box hf hh rfl (.inl rfl) rfl ?_; clear hf hh; clear a; intro B1 a w hf hh
  refine ops_alloc hf hh Tryd.ze_3 (.inl rfl) rfl ?_; clear hf hh; clear a; intro B2 a w hf hh
  refine ops_v hf hh (yv_assign rfl) (.inl rfl) rfl rfl rfl ?_; clear hf; clear a; intro a hf
  refine ops_end ?_
  refine then_n ?_
  refine sy_seq ?_
  refine sy_ops ?_
  refine ops_v hf hh (yv_loads Tryd.ag_24 rfl (fun _ h => by first | exact h.at (i := 0) rfl | exact h.at (i := 1) rfl | exact h.at (i := 2) rfl | exact h.at (i := 3) rfl) (by first | assumption | rfl)) (.inl rfl) rfl rfl rfl ?_; clear hf; clear a; intro a hf
  refine ops_call hf Tryd.en_35 rfl rfl rfl (.inl rfl) rfl (c35n b sa sc _ (hS.ext hh.ext) hb) ?_; clear hf; clear a; intro v a w hR hf
  obtain ⟨rfl, hx⟩ := hR; replace hh := hh.more hx; clear hx
  refine ops_v hf hh (yv_move rfl) (.inl rfl) rfl rfl rfl ?_; clear hf; clear a; intro a hf
  refine ops_v hf hh (yv_extract rfl rfl) (.inl rfl) rfl rfl rfl ?_; clear hf; clear a; intro a hf
  refine ops_v hf hh (yv_extract rfl rfl) (.inl rfl) rfl rfl rfl ?_; clear hf; clear a; intro a hf
  refine ops_v hf hh (yv_assign rfl) (.inl rfl) rfl rfl rfl ?_; clear hf; clear a; intro a hf
  refine ops_v hf hh (yv_assign rfl) (.inl rfl) rfl rfl rfl ?_; clear hf; clear a; intro a hf
  refine ops_end ?_
  refine then_n ?_
  refine sy_seq ?_
  refine sy_seq ?_
  refine sy_ops ?_
  refine ops_v hf hh (yv_move rfl) (.inl rfl) rfl rfl rfl ?_; clear hf; clear a; intro a hf
  refine ops_v hf hh (yv_bin rfl rfl rfl) (.inl rfl) rfl rfl rfl ?_; clear hf; clear a; intro a hf
  refine ops_end ?_
  refine then_n ?_
  refine sy_ct hf rfl (by first | assumption | rfl | (simp; done)) ?_
  refine sy_seq ?_
  refine sy_ops ?_
  refine ops_v hf hh (yv_move rfl) (.inl rfl) rfl rfl rfl ?_; clear hf; clear a; intro a hf
  first | refine ops_store (i := 0) hf hh rfl rfl rfl Tryd.sz_3 rfl rfl rfl (.inl rfl) fun w hh => ?_ | refine ops_store (i := 1) hf hh rfl rfl rfl Tryd.sz_3 rfl rfl rfl (.inl rfl) fun w hh => ?_ | refine ops_store (i := 2) hf hh rfl rfl rfl Tryd.sz_3 rfl rfl rfl (.inl rfl) fun w hh => ?_ | refine ops_store (i := 3) hf hh rfl rfl rfl Tryd.sz_3 rfl rfl rfl (.inl rfl) fun w hh => ?_
  refine ops_v hf hh (yv_assign rfl) (.inl rfl) rfl rfl rfl ?_; clear hf; clear a; intro a hf
  refine ops_end ?_
  refine then_n ?_
  refine sy_ret ?_
  refine then_r ?_
  refine ret_mb (Ds := []) (H := [(B2, .cells #[.int .i64 0] 3), (B1, .cells #[.int .i64 b.slots, .int .i64 b.pitch, .int .i64 b.broken, .int .i64 b.most, .slice sa b.scenes.length sc] 24)]) hf hh fun w' hh => ?_
  exact ⟨[.int .i64 0, .int .i64 1], ⟨⟨B2, 0, _, _, _, rfl, hh.at (i := 0) rfl, .inl ⟨Tryd.sc_3, rfl⟩⟩, rfl, True.intro⟩, rfl, hh.ext⟩
theorem c20v (b : BarD) (sa : Option Addr) (sc : Nat) (u : World) (hS : ScAt u sa b.scenes) (hT : GTab u) (hV : Valid b) : Calls Tryd.prog 20 #[barV b sa sc] u (Ret fun v w' => v = .tuple #[.int .i64 (cntK b (2 ^ b.scenes.length - 1) (plansL b).length : Nat), .int .i64 0] ∧ Ext [] u w') := by
  refine calls_ofM Tryd.func20 rfl rfl (fun a hf => ?_)
  have hh := Hp.init u []
  have hn := hV.n
  have hm1 : 1 ≤ 2 ^ b.scenes.length := Nat.one_le_two_pow
  have hm2 : 2 ^ b.scenes.length ≤ 2 ^ 10 := Nat.pow_le_pow_right (by omega) hn
  have hs1 := hV.s1; have hs2 := hV.s2
  have hpw := shl_bd hs1 hs2
  refine sy_seq ?_
  refine sy_ops ?_
  refine ops_box hf hh rfl (.inl rfl) rfl ?_; clear hf hh; clear a; intro B1 a w hf hh
  refine ops_alloc hf hh Tryd.ze_3 (.inl rfl) rfl ?_; clear hf hh; clear a; intro B2 a w hf hh
  refine ops_v hf hh (yv_assign rfl) (.inl rfl) rfl rfl rfl ?_; clear hf; clear a; intro a hf
  refine ops_end ?_
  refine then_n ?_
  refine sy_seq ?_
  refine sy_ops ?_
  refine ops_v hf hh (yv_loads Tryd.ag_24 rfl (fun _ h => by first | exact h.at (i := 0) rfl | exact h.at (i := 1) rfl | exact h.at (i := 2) rfl | exact h.at (i := 3) rfl | exact h.at (i := 4) rfl | exact h.at (i := 5) rfl | exact h.at (i := 6) rfl | exact h.at (i := 7) rfl | exact h.at (i := 8) rfl | exact h.at (i := 9) rfl | exact h.at (i := 10) rfl) (by first | assumption | rfl)) (.inl rfl) rfl rfl rfl ?_; clear hf; clear a; intro a hf
  refine ops_call hf Tryd.en_35 rfl rfl rfl (.inl rfl) rfl (c35 b sa sc _ (hS.ext hh.ext) hV) ?_; clear hf; clear a; intro v a w hR hf
  obtain ⟨bp, bm, cs, rfl, hcs, hx⟩ := hR; replace hh := hh.join hx; clear hx
  refine ops_v hf hh (yv_move rfl) (.inl rfl) rfl rfl rfl ?_; clear hf; clear a; intro a hf
  refine ops_v hf hh (yv_extract rfl rfl) (.inl rfl) rfl rfl rfl ?_; clear hf; clear a; intro a hf
  refine ops_v hf hh (yv_extract rfl rfl) (.inl rfl) rfl rfl rfl ?_; clear hf; clear a; intro a hf
  refine ops_v hf hh (yv_assign rfl) (.inl rfl) rfl rfl rfl ?_; clear hf; clear a; intro a hf
  refine ops_v hf hh (yv_assign rfl) (.inl rfl) rfl rfl rfl ?_; clear hf; clear a; intro a hf
  refine ops_end ?_
  refine then_n ?_
  refine sy_seq ?_
  refine sy_seq ?_
  refine sy_ops ?_
  refine ops_v hf hh (yv_move rfl) (.inl rfl) rfl rfl rfl ?_; clear hf; clear a; intro a hf
  refine ops_v hf hh (yv_bin rfl rfl rfl) (.inl rfl) rfl rfl rfl ?_; clear hf; clear a; intro a hf
  refine ops_end ?_
  refine then_n ?_
  refine sy_cf hf rfl (by first | assumption | rfl | (simp; done)) ?_
  refine sy_skip ?_
  refine then_n ?_
  refine sy_seq ?_
  refine sy_ops ?_
  refine ops_v hf hh (yv_move rfl) (.inl rfl) rfl rfl rfl ?_; clear hf; clear a; intro a hf
  refine ops_v hf hh (yv_move rfl) (.inl rfl) rfl rfl rfl ?_; clear hf; clear a; intro a hf
  refine ops_call hf Tryd.en_49 rfl rfl rfl (.inl rfl) rfl (c49 b sa sc bp bm _ hV ⟨cs, hh.at (i := 0) rfl, hcs⟩) ?_; clear hf; clear a; intro v a w hR hf
  obtain ⟨rfl, hx⟩ := hR; replace hh := hh.more hx; clear hx
  refine ops_call hf Tryd.en_48 rfl rfl rfl (.inl rfl) rfl (c48 bp (2 ^ b.scenes.length - 1) _) ?_; clear hf; clear a; intro v a w hR hf
  obtain ⟨Bs, Bb, rfl, hx⟩ := hR; replace hh := hh.join hx; clear hx
  refine ops_alloc hf hh Tryd.ze_74 (.inl rfl) rfl ?_; clear hf hh; clear a; intro B5 a w hf hh
  first | refine ops_store (i := 0) hf hh rfl rfl rfl Tryd.sz_74 rfl rfl rfl (.inl rfl) fun w hh => ?_ | refine ops_store (i := 1) hf hh rfl rfl rfl Tryd.sz_74 rfl rfl rfl (.inl rfl) fun w hh => ?_ | refine ops_store (i := 2) hf hh rfl rfl rfl Tryd.sz_74 rfl rfl rfl (.inl rfl) fun w hh => ?_ | refine ops_store (i := 3) hf hh rfl rfl rfl Tryd.sz_74 rfl rfl rfl (.inl rfl) fun w hh => ?_ | refine ops_store (i := 4) hf hh rfl rfl rfl Tryd.sz_74 rfl rfl rfl (.inl rfl) fun w hh => ?_ | refine ops_store (i := 5) hf hh rfl rfl rfl Tryd.sz_74 rfl rfl rfl (.inl rfl) fun w hh => ?_ | refine ops_store (i := 6) hf hh rfl rfl rfl Tryd.sz_74 rfl rfl rfl (.inl rfl) fun w hh => ?_ | refine ops_store (i := 7) hf hh rfl rfl rfl Tryd.sz_74 rfl rfl rfl (.inl rfl) fun w hh => ?_ | refine ops_store (i := 8) hf hh rfl rfl rfl Tryd.sz_74 rfl rfl rfl (.inl rfl) fun w hh => ?_ | refine ops_store (i := 9) hf hh rfl rfl rfl Tryd.sz_74 rfl rfl rfl (.inl rfl) fun w hh => ?_ | refine ops_store (i := 10) hf hh rfl rfl rfl Tryd.sz_74 rfl rfl rfl (.inl rfl) fun w hh => ?_
  refine ops_end ?_
  refine then_n ?_
  refine sy_seq ?_
  refine sy_seq ?_
  refine sy_ops ?_
  refine ops_v hf hh (yv_move rfl) (.inl rfl) rfl rfl rfl ?_; clear hf; clear a; intro a hf
  refine ops_call hf Tryd.en_47 rfl rfl rfl (.inl rfl) rfl (c47 bp _) ?_; clear hf; clear a; intro v a w hR hf
  obtain ⟨Bq, rfl, hx⟩ := hR; replace hh := hh.join hx; clear hx
  refine ops_end ?_
  refine then_n ?_
  refine sy_block ?_
  refine sy_range (I := fun k H => ∃ es2 cm2, Memo .u64 .u64 (memF b) es2 ∧ H = (Bq, .cells #[ptr bp 0] 50) :: (B5, .cells #[.func (.func 70) #[] #[ptr Bs 0, ptr Bb 0]] 74) :: (Bs, .cells #[.int .u64 ((2 ^ b.scenes.length - 1) : Nat)] 54) :: (Bb, .cells #[ptr bp 0] 50) :: (bp, .cells cs 90) :: (bm, .map es2 cm2) :: (B2, .cells #[.int .i64 (cntK b (2 ^ b.scenes.length - 1) k : Nat)] 3) :: (B1, .cells #[.int .i64 b.slots, .int .i64 b.pitch, .int .i64 b.broken, .int .i64 b.most, .slice sa b.scenes.length sc] 24) :: []) (X := fun _ _ _ => False) hf hh Tryd.en_69 rfl (it69 b sa sc bp bm Bq hV) rfl (by intro x hx; obtain ⟨y, _, rfl⟩ := List.mem_map.1 hx; rfl) ?_ ?_ ?_ ?_ ?_
  · refine ⟨#[], 0, memo_nil b, ?_⟩
    have e0 : cntK b (2 ^ b.scenes.length - 1) 0 = 0 := by unfold cntK; rfl
    rw [e0]; rfl
  · rintro _ _ l D o w ⟨es2, cm2, _, rfl⟩ h
    exact ⟨h.at (i := 2) rfl, ⟨cs, h.at (i := 6) rfl, hcs⟩⟩
  · rintro k x fn D l H w a tm hx ⟨es2, cm2, hM2, rfl⟩ hh hf
    obtain ⟨y, hy1, rfl⟩ := tq_of hx
    have hcs1 := cntK_step (set := (2 ^ b.scenes.length - 1)) hy1
    have hcl := cntK_le hV (2 ^ b.scenes.length - 1) k
    refine sy_ops ?_
    refine ops_v hf hh (yv_assign rfl) (.inl rfl) rfl rfl rfl ?_; clear hf; clear a; intro a hf
    refine ops_end ?_
    refine then_n (Go.Sy.begun (i := 0) hh rfl fun w hh => ?_)
    refine sy_block ?_
    refine sy_seq ?_
    refine sy_ops ?_
    refine ops_v hf hh (yv_load Tryd.sc_74 rfl (fun _ h => by first | exact h.at (i := 0) rfl | exact h.at (i := 1) rfl | exact h.at (i := 2) rfl | exact h.at (i := 3) rfl | exact h.at (i := 4) rfl | exact h.at (i := 5) rfl | exact h.at (i := 6) rfl | exact h.at (i := 7) rfl | exact h.at (i := 8) rfl | exact h.at (i := 9) rfl | exact h.at (i := 10) rfl) (by first | rfl | assumption)) (.inl rfl) rfl rfl rfl ?_; clear hf; clear a; intro a hf
    refine ops_v hf hh (yv_move rfl) (.inl rfl) rfl rfl rfl ?_; clear hf; clear a; intro a hf
    refine ops_call hf Tryd.en_70 rfl rfl rfl (.inl rfl) rfl (c70 b sa sc bp bm (2 ^ b.scenes.length - 1) Bs Bb y cm2 es2 _ hV (pl_lt hV hy1) (by omega) ⟨mkBarA (i := 6) (j := 7) hh rfl rfl (by omega) hcs hS hT, hh.at (i := 4) rfl, hh.at (i := 5) rfl, by simpa using hh.diff (i := 4) (j := 7) rfl rfl (by omega), by simpa using hh.diff (i := 5) (j := 7) rfl rfl (by omega)⟩ (hh.at (i := 7) rfl) hM2) ?_; clear hf; clear a; intro v a w hR hf
    obtain ⟨rfl, es3, cm3, hM3, hx⟩ := hR; replace hh := hh.turn (i := 7) rfl hx.ext (hx.at (i := 0) rfl); clear hx
    refine ops_end ?_
    refine then_n ?_
    refine sy_cond hf rfl (fun hg10 => ?_) (fun hg10 => ?_)
    · have hG10 := hg10; try simp only [gS] at hG10
      refine sy_ops ?_
      refine ops_v hf hh (yv_load Tryd.sc_3 rfl (fun _ h => by first | exact h.at (i := 0) rfl | exact h.at (i := 1) rfl | exact h.at (i := 2) rfl | exact h.at (i := 3) rfl | exact h.at (i := 4) rfl | exact h.at (i := 5) rfl | exact h.at (i := 6) rfl | exact h.at (i := 7) rfl | exact h.at (i := 8) rfl | exact h.at (i := 9) rfl | exact h.at (i := 10) rfl) (by first | rfl | assumption)) (.inl rfl) rfl rfl rfl ?_; clear hf; clear a; intro a hf
      first | refine ops_v hf hh (yv_add rfl rfl (by omega) (by omega)) (.inl rfl) rfl rfl rfl ?_; clear hf; clear a; intro a hf | refine ops_v hf hh (yv_bin rfl rfl rfl) (.inl rfl) rfl rfl rfl ?_; clear hf; clear a; intro a hf
      first | refine ops_store (i := 0) hf hh rfl rfl rfl Tryd.sz_3 rfl rfl rfl (.inl rfl) fun w hh => ?_ | refine ops_store (i := 1) hf hh rfl rfl rfl Tryd.sz_3 rfl rfl rfl (.inl rfl) fun w hh => ?_ | refine ops_store (i := 2) hf hh rfl rfl rfl Tryd.sz_3 rfl rfl rfl (.inl rfl) fun w hh => ?_ | refine ops_store (i := 3) hf hh rfl rfl rfl Tryd.sz_3 rfl rfl rfl (.inl rfl) fun w hh => ?_ | refine ops_store (i := 4) hf hh rfl rfl rfl Tryd.sz_3 rfl rfl rfl (.inl rfl) fun w hh => ?_ | refine ops_store (i := 5) hf hh rfl rfl rfl Tryd.sz_3 rfl rfl rfl (.inl rfl) fun w hh => ?_ | refine ops_store (i := 6) hf hh rfl rfl rfl Tryd.sz_3 rfl rfl rfl (.inl rfl) fun w hh => ?_ | refine ops_store (i := 7) hf hh rfl rfl rfl Tryd.sz_3 rfl rfl rfl (.inl rfl) fun w hh => ?_ | refine ops_store (i := 8) hf hh rfl rfl rfl Tryd.sz_3 rfl rfl rfl (.inl rfl) fun w hh => ?_ | refine ops_store (i := 9) hf hh rfl rfl rfl Tryd.sz_3 rfl rfl rfl (.inl rfl) fun w hh => ?_ | refine ops_store (i := 10) hf hh rfl rfl rfl Tryd.sz_3 rfl rfl rfl (.inl rfl) fun w hh => ?_
      refine ops_end ?_
      refine blk_n ?_
      first
        | (have ht : takesB b (2 ^ b.scenes.length - 1) y = true := by assumption
           rw [ht, if_pos rfl] at hcs1
           refine ⟨_, ⟨es3, cm3, hM3, rfl⟩, ?_⟩
           rw [hcs1]; exact hh)
        | (have ht : takesB b (2 ^ b.scenes.length - 1) y = false := by assumption
           rw [ht, if_neg (by simp), Nat.add_zero] at hcs1
           refine ⟨_, ⟨es3, cm3, hM3, rfl⟩, ?_⟩
           rw [hcs1]; exact hh)
    · have hG10 := hg10; try simp only [gS] at hG10
      refine sy_skip ?_
      refine blk_n ?_
      first
        | (have ht : takesB b (2 ^ b.scenes.length - 1) y = true := by assumption
           rw [ht, if_pos rfl] at hcs1
           refine ⟨_, ⟨es3, cm3, hM3, rfl⟩, ?_⟩
           rw [hcs1]; exact hh)
        | (have ht : takesB b (2 ^ b.scenes.length - 1) y = false := by assumption
           rw [ht, if_neg (by simp), Nat.add_zero] at hcs1
           refine ⟨_, ⟨es3, cm3, hM3, rfl⟩, ?_⟩
           rw [hcs1]; exact hh)
  · rintro D H a w ⟨es2, cm2, hM2, rfl⟩ hf hh
    rw [List.length_map] at hh
    refine blk_n ?_
    refine then_n ?_
    refine sy_seq ?_
    refine sy_ops ?_
    refine ops_v hf hh (yv_load Tryd.sc_3 rfl (fun _ h => by first | exact h.at (i := 0) rfl | exact h.at (i := 1) rfl | exact h.at (i := 2) rfl | exact h.at (i := 3) rfl | exact h.at (i := 4) rfl | exact h.at (i := 5) rfl | exact h.at (i := 6) rfl | exact h.at (i := 7) rfl | exact h.at (i := 8) rfl | exact h.at (i := 9) rfl | exact h.at (i := 10) rfl) (by first | rfl | assumption)) (.inl rfl) rfl rfl rfl ?_; clear hf; clear a; intro a hf
    first | refine ops_store (i := 0) hf hh rfl rfl rfl Tryd.sz_3 rfl rfl rfl (.inl rfl) fun w hh => ?_ | refine ops_store (i := 1) hf hh rfl rfl rfl Tryd.sz_3 rfl rfl rfl (.inl rfl) fun w hh => ?_ | refine ops_store (i := 2) hf hh rfl rfl rfl Tryd.sz_3 rfl rfl rfl (.inl rfl) fun w hh => ?_ | refine ops_store (i := 3) hf hh rfl rfl rfl Tryd.sz_3 rfl rfl rfl (.inl rfl) fun w hh => ?_ | refine ops_store (i := 4) hf hh rfl rfl rfl Tryd.sz_3 rfl rfl rfl (.inl rfl) fun w hh => ?_ | refine ops_store (i := 5) hf hh rfl rfl rfl Tryd.sz_3 rfl rfl rfl (.inl rfl) fun w hh => ?_ | refine ops_store (i := 6) hf hh rfl rfl rfl Tryd.sz_3 rfl rfl rfl (.inl rfl) fun w hh => ?_ | refine ops_store (i := 7) hf hh rfl rfl rfl Tryd.sz_3 rfl rfl rfl (.inl rfl) fun w hh => ?_ | refine ops_store (i := 8) hf hh rfl rfl rfl Tryd.sz_3 rfl rfl rfl (.inl rfl) fun w hh => ?_ | refine ops_store (i := 9) hf hh rfl rfl rfl Tryd.sz_3 rfl rfl rfl (.inl rfl) fun w hh => ?_ | refine ops_store (i := 10) hf hh rfl rfl rfl Tryd.sz_3 rfl rfl rfl (.inl rfl) fun w hh => ?_
    refine ops_v hf hh (yv_assign rfl) (.inl rfl) rfl rfl rfl ?_; clear hf; clear a; intro a hf
    refine ops_end ?_
    refine then_n ?_
    refine sy_ret ?_
    refine ret_m (Ds := [D]) (H := (Bq, .cells #[ptr bp 0] 50) :: (B5, .cells #[.func (.func 70) #[] #[ptr Bs 0, ptr Bb 0]] 74) :: (Bs, .cells #[.int .u64 ((2 ^ b.scenes.length - 1) : Nat)] 54) :: (Bb, .cells #[ptr bp 0] 50) :: (bp, .cells cs 90) :: (bm, .map es2 cm2) :: (B2, .cells #[.int .i64 (cntK b (2 ^ b.scenes.length - 1) (plansL b).length : Nat)] 3) :: (B1, .cells #[.int .i64 b.slots, .int .i64 b.pitch, .int .i64 b.broken, .int .i64 b.most, .slice sa b.scenes.length sc] 24) :: []) hf hh fun w' hh => ?_
    exact ⟨[.int .i64 (cntK b (2 ^ b.scenes.length - 1) (plansL b).length : Nat), .int .i64 0], ⟨⟨B2, 0, _, _, _, rfl, hh.at (i := 6) rfl, .inl ⟨Tryd.sc_3, rfl⟩⟩, rfl, True.intro⟩, rfl, hh.ext⟩
  · rintro k c D H a w hX hf hh
    exact hX.elim
theorem c24n (b : BarD) (sa : Option Addr) (sc : Nat) (u : World) (hS : ScAt u sa b.scenes) (hb : okBar b = false) : Calls Tryd.prog 24 #[barV b sa sc] u (Ret fun v w' => v = .tuple #[.int .i64 0, .int .i64 0, .int .i64 1] ∧ Ext [] u w') := by
  refine calls_ofM Tryd.func24 rfl rfl (fun a hf => ?_)
  have hh := Hp.init u []
  refine sy_seq ?_
  refine sy_ops ?_
  refine ops_box hf hh rfl (.inl rfl) rfl ?_; clear hf hh; clear a; intro B1 a w hf hh
  refine ops_v hf hh (yv_assign rfl) (.inl rfl) rfl rfl rfl ?_; clear hf; clear a; intro a hf
  refine ops_v hf hh (yv_assign rfl) (.inl rfl) rfl rfl rfl ?_; clear hf; clear a; intro a hf
  refine ops_v hf hh (yv_assign rfl) (.inl rfl) rfl rfl rfl ?_; clear hf; clear a; intro a hf
  refine ops_end ?_
  refine then_n ?_
  refine sy_seq ?_
  refine sy_ops ?_
  refine ops_v hf hh (yv_loads Tryd.ag_24 rfl (fun _ h => by first | exact h.at (i := 0) rfl | exact h.at (i := 1) rfl | exact h.at (i := 2) rfl | exact h.at (i := 3) rfl) (by first | assumption | rfl)) (.inl rfl) rfl rfl rfl ?_; clear hf; clear a; intro a hf
  refine ops_call hf Tryd.en_35 rfl rfl rfl (.inl rfl) rfl (c35n b sa sc _ (hS.ext hh.ext) hb) ?_; clear hf; clear a; intro v a w hR hf
  obtain ⟨rfl, hx⟩ := hR; replace hh := hh.more hx; clear hx
  refine ops_v hf hh (yv_move rfl) (.inl rfl) rfl rfl rfl ?_; clear hf; clear a; intro a hf
  refine ops_v hf hh (yv_extract rfl rfl) (.inl rfl) rfl rfl rfl ?_; clear hf; clear a; intro a hf
  refine ops_v hf hh (yv_extract rfl rfl) (.inl rfl) rfl rfl rfl ?_; clear hf; clear a; intro a hf
  refine ops_alloc hf hh Tryd.ze_50 (.inl rfl) rfl ?_; clear hf hh; clear a; intro B5 a w hf hh
  first | refine ops_store (i := 0) hf hh rfl rfl rfl Tryd.sz_50 rfl rfl rfl (.inl rfl) fun w hh => ?_ | refine ops_store (i := 1) hf hh rfl rfl rfl Tryd.sz_50 rfl rfl rfl (.inl rfl) fun w hh => ?_ | refine ops_store (i := 2) hf hh rfl rfl rfl Tryd.sz_50 rfl rfl rfl (.inl rfl) fun w hh => ?_ | refine ops_store (i := 3) hf hh rfl rfl rfl Tryd.sz_50 rfl rfl rfl (.inl rfl) fun w hh => ?_
  refine ops_v hf hh (yv_assign rfl) (.inl rfl) rfl rfl rfl ?_; clear hf; clear a; intro a hf
  refine ops_end ?_
  refine then_n ?_
  refine sy_seq ?_
  refine sy_seq ?_
  refine sy_ops ?_
  refine ops_v hf hh (yv_move rfl) (.inl rfl) rfl rfl rfl ?_; clear hf; clear a; intro a hf
  refine ops_v hf hh (yv_bin rfl rfl rfl) (.inl rfl) rfl rfl rfl ?_; clear hf; clear a; intro a hf
  refine ops_end ?_
  refine then_n ?_
  refine sy_ct hf rfl (by first | assumption | rfl | (simp; done)) ?_
  refine sy_seq ?_
  refine sy_ops ?_
  refine ops_v hf hh (yv_move rfl) (.inl rfl) rfl rfl rfl ?_; clear hf; clear a; intro a hf
  refine ops_v hf hh (yv_assign rfl) (.inl rfl) rfl rfl rfl ?_; clear hf; clear a; intro a hf
  refine ops_v hf hh (yv_assign rfl) (.inl rfl) rfl rfl rfl ?_; clear hf; clear a; intro a hf
  refine ops_v hf hh (yv_assign rfl) (.inl rfl) rfl rfl rfl ?_; clear hf; clear a; intro a hf
  refine ops_end ?_
  refine then_n ?_
  refine sy_ret ?_
  refine then_r ?_
  refine ret_mb (Ds := []) (H := [(B5, .cells #[.pointer none] 50), (B1, .cells #[.int .i64 b.slots, .int .i64 b.pitch, .int .i64 b.broken, .int .i64 b.most, .slice sa b.scenes.length sc] 24)]) hf hh fun w' hh => ?_
  exact ⟨[.int .i64 0, .int .i64 0, .int .i64 1], ⟨rfl, rfl, rfl, True.intro⟩, rfl, hh.ext⟩
theorem c24v (b : BarD) (sa : Option Addr) (sc : Nat) (u : World) (hS : ScAt u sa b.scenes) (hT : GTab u) (hV : Valid b) : Calls Tryd.prog 24 #[barV b sa sc] u (Ret fun v w' => v = .tuple #[.int .i64 (bstK b (plansL b).length : Nat), .int .i64 (taken b (bstK b (plansL b).length) : Nat), .int .i64 0] ∧ Ext [] u w') := by
  refine calls_ofM Tryd.func24 rfl rfl (fun a hf => ?_)
  have hh := Hp.init u []
  have hn := hV.n
  have hm1 : 1 ≤ 2 ^ b.scenes.length := Nat.one_le_two_pow
  have hm2 : 2 ^ b.scenes.length ≤ 2 ^ 10 := Nat.pow_le_pow_right (by omega) hn
  have hs1 := hV.s1; have hs2 := hV.s2
  have hpw := shl_bd hs1 hs2
  refine sy_seq ?_
  refine sy_ops ?_
  refine ops_box hf hh rfl (.inl rfl) rfl ?_; clear hf hh; clear a; intro B1 a w hf hh
  refine ops_v hf hh (yv_assign rfl) (.inl rfl) rfl rfl rfl ?_; clear hf; clear a; intro a hf
  refine ops_v hf hh (yv_assign rfl) (.inl rfl) rfl rfl rfl ?_; clear hf; clear a; intro a hf
  refine ops_v hf hh (yv_assign rfl) (.inl rfl) rfl rfl rfl ?_; clear hf; clear a; intro a hf
  refine ops_end ?_
  refine then_n ?_
  refine sy_seq ?_
  refine sy_ops ?_
  refine ops_v hf hh (yv_loads Tryd.ag_24 rfl (fun _ h => by first | exact h.at (i := 0) rfl | exact h.at (i := 1) rfl | exact h.at (i := 2) rfl | exact h.at (i := 3) rfl | exact h.at (i := 4) rfl | exact h.at (i := 5) rfl | exact h.at (i := 6) rfl | exact h.at (i := 7) rfl | exact h.at (i := 8) rfl) (by first | assumption | rfl)) (.inl rfl) rfl rfl rfl ?_; clear hf; clear a; intro a hf
  refine ops_call hf Tryd.en_35 rfl rfl rfl (.inl rfl) rfl (c35 b sa sc _ (hS.ext hh.ext) hV) ?_; clear hf; clear a; intro v a w hR hf
  obtain ⟨bp, bm, cs, rfl, hcs, hx⟩ := hR; replace hh := hh.join hx; clear hx
  refine ops_v hf hh (yv_move rfl) (.inl rfl) rfl rfl rfl ?_; clear hf; clear a; intro a hf
  refine ops_v hf hh (yv_extract rfl rfl) (.inl rfl) rfl rfl rfl ?_; clear hf; clear a; intro a hf
  refine ops_v hf hh (yv_extract rfl rfl) (.inl rfl) rfl rfl rfl ?_; clear hf; clear a; intro a hf
  refine ops_alloc hf hh Tryd.ze_50 (.inl rfl) rfl ?_; clear hf hh; clear a; intro B5 a w hf hh
  first | refine ops_store (i := 0) hf hh rfl rfl rfl Tryd.sz_50 rfl rfl rfl (.inl rfl) fun w hh => ?_ | refine ops_store (i := 1) hf hh rfl rfl rfl Tryd.sz_50 rfl rfl rfl (.inl rfl) fun w hh => ?_ | refine ops_store (i := 2) hf hh rfl rfl rfl Tryd.sz_50 rfl rfl rfl (.inl rfl) fun w hh => ?_ | refine ops_store (i := 3) hf hh rfl rfl rfl Tryd.sz_50 rfl rfl rfl (.inl rfl) fun w hh => ?_ | refine ops_store (i := 4) hf hh rfl rfl rfl Tryd.sz_50 rfl rfl rfl (.inl rfl) fun w hh => ?_ | refine ops_store (i := 5) hf hh rfl rfl rfl Tryd.sz_50 rfl rfl rfl (.inl rfl) fun w hh => ?_ | refine ops_store (i := 6) hf hh rfl rfl rfl Tryd.sz_50 rfl rfl rfl (.inl rfl) fun w hh => ?_ | refine ops_store (i := 7) hf hh rfl rfl rfl Tryd.sz_50 rfl rfl rfl (.inl rfl) fun w hh => ?_ | refine ops_store (i := 8) hf hh rfl rfl rfl Tryd.sz_50 rfl rfl rfl (.inl rfl) fun w hh => ?_
  refine ops_v hf hh (yv_assign rfl) (.inl rfl) rfl rfl rfl ?_; clear hf; clear a; intro a hf
  refine ops_end ?_
  refine then_n ?_
  refine sy_seq ?_
  refine sy_seq ?_
  refine sy_ops ?_
  refine ops_v hf hh (yv_move rfl) (.inl rfl) rfl rfl rfl ?_; clear hf; clear a; intro a hf
  refine ops_v hf hh (yv_bin rfl rfl rfl) (.inl rfl) rfl rfl rfl ?_; clear hf; clear a; intro a hf
  refine ops_end ?_
  refine then_n ?_
  refine sy_cf hf rfl (by first | assumption | rfl | (simp; done)) ?_
  refine sy_skip ?_
  refine then_n ?_
  refine sy_seq ?_
  refine sy_ops ?_
  refine ops_alloc hf hh Tryd.ze_56 (.inl rfl) rfl ?_; clear hf hh; clear a; intro B6 a w hf hh
  refine ops_end ?_
  refine then_n ?_
  refine sy_seq ?_
  refine sy_seq ?_
  refine sy_ops ?_
  refine ops_v hf hh (yv_load Tryd.sc_50 rfl (fun _ h => by first | exact h.at (i := 0) rfl | exact h.at (i := 1) rfl | exact h.at (i := 2) rfl | exact h.at (i := 3) rfl | exact h.at (i := 4) rfl | exact h.at (i := 5) rfl | exact h.at (i := 6) rfl | exact h.at (i := 7) rfl | exact h.at (i := 8) rfl) (by first | rfl | assumption)) (.inl rfl) rfl rfl rfl ?_; clear hf; clear a; intro a hf
  refine ops_call hf Tryd.en_47 rfl rfl rfl (.inl rfl) rfl (c47 bp _) ?_; clear hf; clear a; intro v a w hR hf
  obtain ⟨Bq, rfl, hx⟩ := hR; replace hh := hh.join hx; clear hx
  refine ops_end ?_
  refine then_n ?_
  refine sy_block ?_
  refine sy_range (I := fun k H => ∃ es2 cm2, Memo .u64 .u64 (memF b) es2 ∧ H = (Bq, .cells #[ptr bp 0] 50) :: (B6, .cells #[.int .u64 (bstK b k : Nat)] 56) :: (B5, .cells #[ptr bp 0] 50) :: (bp, .cells cs 90) :: (bm, .map es2 cm2) :: (B1, .cells #[.int .i64 b.slots, .int .i64 b.pitch, .int .i64 b.broken, .int .i64 b.most, .slice sa b.scenes.length sc] 24) :: []) (X := fun _ _ _ => False) hf hh Tryd.en_69 rfl (it69 b sa sc bp bm Bq hV) rfl (by intro x hx; obtain ⟨y, _, rfl⟩ := List.mem_map.1 hx; rfl) ?_ ?_ ?_ ?_ ?_
  · refine ⟨#[], 0, memo_nil b, ?_⟩
    have e0 : bstK b 0 = 0 := by unfold bstK; rfl
    rw [e0]; rfl
  · rintro _ _ l D o w ⟨es2, cm2, _, rfl⟩ h
    exact ⟨h.at (i := 2) rfl, ⟨cs, h.at (i := 5) rfl, hcs⟩⟩
  · rintro k x fn D l H w a tm hx ⟨es2, cm2, hM2, rfl⟩ hh hf
    obtain ⟨y, hy1, rfl⟩ := tq_of hx
    have hcs1 := bstK_step hy1
    refine sy_ops ?_
    refine ops_v hf hh (yv_assign rfl) (.inl rfl) rfl rfl rfl ?_; clear hf; clear a; intro a hf
    refine ops_end ?_
    refine then_n (Go.Sy.begun (i := 0) hh rfl fun w hh => ?_)
    refine sy_block ?_
    refine sy_seq ?_
    refine sy_quiet (C := Mw .u64 .u64 (memF b) u [] [(l, .loop (rec0 fn tm #[18] _ _ D .busy none)), (D, .deferred (some [])), (Bq, .cells #[ptr bp 0] 50), (B6, .cells #[.int .u64 (bstK b k : Nat)] 56), (B5, .cells #[ptr bp 0] 50), (bp, .cells cs 90), (B1, .cells #[.int .i64 b.slots, .int .i64 b.pitch, .int .i64 b.broken, .int .i64 b.most, .slice sa b.scenes.length sc] 24)] bm) Tryd.follows (by kernel_rfl) (Mw.drawn (.of hM2 (hh.perm (List.perm_middle (l₁ := [_, _, _, _, _, _]) (l₂ := [_])))) _) ?_
    refine q_v hf (yv_load Tryd.sc_50 rfl (fun _ h => by first | exact h.at (i := 0) rfl | exact h.at (i := 1) rfl | exact h.at (i := 2) rfl | exact h.at (i := 3) rfl | exact h.at (i := 4) rfl | exact h.at (i := 5) rfl | exact h.at (i := 6) rfl | exact h.at (i := 7) rfl | exact h.at (i := 8) rfl) (by first | rfl | assumption)) (.inl rfl) rfl rfl ?_; clear hf; clear a; intro a hf
    refine q_v hf (yv_move rfl) (.inl rfl) rfl rfl ?_; clear hf; clear a; intro a hf
    refine q_callM hf Tryd.en_37 rfl rfl rfl (.inl rfl) rfl (fun w es cm hM hh => c37 b sa sc bp bm y cm es _ hV (pl_lt hV hy1) (mkBarA (i := 6) (j := 0) hh rfl rfl (by omega) hcs hS hT) (hh.at (i := 0) rfl) hM) ?_; clear hf; clear a; intro a hf
    refine q_callP hf Tryd.en_57 rfl rfl rfl (.inl rfl) rfl (fun w es cm hM hh => c57 _ (taken_bd hV _) _) ?_; clear hf; clear a; intro a hf
    refine q_v hf (yv_load Tryd.sc_50 rfl (fun _ h => by first | exact h.at (i := 0) rfl | exact h.at (i := 1) rfl | exact h.at (i := 2) rfl | exact h.at (i := 3) rfl | exact h.at (i := 4) rfl | exact h.at (i := 5) rfl | exact h.at (i := 6) rfl | exact h.at (i := 7) rfl | exact h.at (i := 8) rfl) (by first | rfl | assumption)) (.inl rfl) rfl rfl ?_; clear hf; clear a; intro a hf
    refine q_v hf (yv_load Tryd.sc_56 rfl (fun _ h => by first | exact h.at (i := 0) rfl | exact h.at (i := 1) rfl | exact h.at (i := 2) rfl | exact h.at (i := 3) rfl | exact h.at (i := 4) rfl | exact h.at (i := 5) rfl | exact h.at (i := 6) rfl | exact h.at (i := 7) rfl | exact h.at (i := 8) rfl) (by first | rfl | assumption)) (.inl rfl) rfl rfl ?_; clear hf; clear a; intro a hf
    refine q_callM hf Tryd.en_37 rfl rfl rfl (.inl rfl) rfl (fun w es cm hM hh => c37 b sa sc bp bm (bstK b k) cm es _ hV (bstK_lt hV k) (mkBarA (i := 6) (j := 0) hh rfl rfl (by omega) hcs hS hT) (hh.at (i := 0) rfl) hM) ?_; clear hf; clear a; intro a hf
    refine q_callP hf Tryd.en_57 rfl rfl rfl (.inl rfl) rfl (fun w es cm hM hh => c57 _ (taken_bd hV _) _) ?_; clear hf; clear a; intro a hf
    refine q_v hf (yv_bin rfl rfl rfl) (.inl rfl) rfl rfl ?_; clear hf; clear a; intro a hf
    refine q_end ?_
    rintro w ⟨es3, cm3, hM3, hh⟩; replace hh := hh.perm (List.perm_middle (l₁ := [_, _, _, _, _, _]) (l₂ := [_])).symm
    refine then_n ?_
    refine sy_cond hf rfl (fun hg12 => ?_) (fun hg12 => ?_)
    · have hG12 := hg12; try simp only [gS] at hG12
      refine sy_ops ?_
      refine ops_v hf hh (yv_move rfl) (.inl rfl) rfl rfl rfl ?_; clear hf; clear a; intro a hf
      first | refine ops_store (i := 0) hf hh rfl rfl rfl Tryd.sz_56 rfl rfl rfl (.inl rfl) fun w hh => ?_ | refine ops_store (i := 1) hf hh rfl rfl rfl Tryd.sz_56 rfl rfl rfl (.inl rfl) fun w hh => ?_ | refine ops_store (i := 2) hf hh rfl rfl rfl Tryd.sz_56 rfl rfl rfl (.inl rfl) fun w hh => ?_ | refine ops_store (i := 3) hf hh rfl rfl rfl Tryd.sz_56 rfl rfl rfl (.inl rfl) fun w hh => ?_ | refine ops_store (i := 4) hf hh rfl rfl rfl Tryd.sz_56 rfl rfl rfl (.inl rfl) fun w hh => ?_ | refine ops_store (i := 5) hf hh rfl rfl rfl Tryd.sz_56 rfl rfl rfl (.inl rfl) fun w hh => ?_ | refine ops_store (i := 6) hf hh rfl rfl rfl Tryd.sz_56 rfl rfl rfl (.inl rfl) fun w hh => ?_ | refine ops_store (i := 7) hf hh rfl rfl rfl Tryd.sz_56 rfl rfl rfl (.inl rfl) fun w hh => ?_ | refine ops_store (i := 8) hf hh rfl rfl rfl Tryd.sz_56 rfl rfl rfl (.inl rfl) fun w hh => ?_
      refine ops_end ?_
      refine blk_n ?_
      first
        | (rw [if_pos (by omega)] at hcs1
           refine ⟨_, ⟨es3, cm3, hM3, rfl⟩, ?_⟩
           rw [hcs1]; exact hh)
        | (rw [if_neg (by omega)] at hcs1
           refine ⟨_, ⟨es3, cm3, hM3, rfl⟩, ?_⟩
           rw [hcs1]; exact hh)
    · have hG12 := hg12; try simp only [gS] at hG12
      refine sy_skip ?_
      refine blk_n ?_
      first
        | (rw [if_pos (by omega)] at hcs1
           refine ⟨_, ⟨es3, cm3, hM3, rfl⟩, ?_⟩
           rw [hcs1]; exact hh)
        | (rw [if_neg (by omega)] at hcs1
           refine ⟨_, ⟨es3, cm3, hM3, rfl⟩, ?_⟩
           rw [hcs1]; exact hh)
  · rintro D H a w ⟨es2, cm2, hM2, rfl⟩ hf hh
    rw [List.length_map] at hh
    refine blk_n ?_
    refine then_n ?_
    refine sy_seq ?_
    have hbl := bstK_lt hV (plansL b).length
    have htb := taken_bd hV (bstK b (plansL b).length)
    refine sy_quiet (C := Mw .u64 .u64 (memF b) u [] [(D, .deferred (some [])), (Bq, .cells #[ptr bp 0] 50), (B6, .cells #[.int .u64 (bstK b (plansL b).length : Nat)] 56), (B5, .cells #[ptr bp 0] 50), (bp, .cells cs 90), (B1, .cells #[.int .i64 b.slots, .int .i64 b.pitch, .int .i64 b.broken, .int .i64 b.most, .slice sa b.scenes.length sc] 24)] bm) Tryd.follows (by kernel_rfl) (Mw.drawn (.of hM2 (hh.perm (List.perm_middle (l₁ := [_, _, _, _, _]) (l₂ := [_])))) _) ?_
    refine q_v hf (yv_load Tryd.sc_56 rfl (fun _ h => by first | exact h.at (i := 0) rfl | exact h.at (i := 1) rfl | exact h.at (i := 2) rfl | exact h.at (i := 3) rfl | exact h.at (i := 4) rfl | exact h.at (i := 5) rfl | exact h.at (i := 6) rfl | exact h.at (i := 7) rfl | exact h.at (i := 8) rfl) (by first | rfl | assumption)) (.inl rfl) rfl rfl ?_; clear hf; clear a; intro a hf
    first | refine q_v hf (yv_convx (.inl rfl) (by kernel_rfl) Tryd.un_3 rfl (by omega) (by simp only [IntKind.top]; omega)) (.inl rfl) rfl rfl ?_; clear hf; clear a; intro a hf | refine q_v hf (yv_conv (by kernel_rfl) Tryd.un_3 rfl) (.inl rfl) rfl rfl ?_; clear hf; clear a; intro a hf
    refine q_v hf (yv_load Tryd.sc_50 rfl (fun _ h => by first | exact h.at (i := 0) rfl | exact h.at (i := 1) rfl | exact h.at (i := 2) rfl | exact h.at (i := 3) rfl | exact h.at (i := 4) rfl | exact h.at (i := 5) rfl | exact h.at (i := 6) rfl | exact h.at (i := 7) rfl | exact h.at (i := 8) rfl) (by first | rfl | assumption)) (.inl rfl) rfl rfl ?_; clear hf; clear a; intro a hf
    refine q_v hf (yv_load Tryd.sc_56 rfl (fun _ h => by first | exact h.at (i := 0) rfl | exact h.at (i := 1) rfl | exact h.at (i := 2) rfl | exact h.at (i := 3) rfl | exact h.at (i := 4) rfl | exact h.at (i := 5) rfl | exact h.at (i := 6) rfl | exact h.at (i := 7) rfl | exact h.at (i := 8) rfl) (by first | rfl | assumption)) (.inl rfl) rfl rfl ?_; clear hf; clear a; intro a hf
    refine q_callM hf Tryd.en_37 rfl rfl rfl (.inl rfl) rfl (fun w es cm hM hh => c37 b sa sc bp bm (bstK b (plansL b).length) cm es _ hV (bstK_lt hV _) (mkBarA (i := 5) (j := 0) hh rfl rfl (by omega) hcs hS hT) (hh.at (i := 0) rfl) hM) ?_; clear hf; clear a; intro a hf
    first | refine q_v hf (yv_convx (.inl rfl) (by kernel_rfl) Tryd.un_3 rfl (by omega) (by simp only [IntKind.top]; omega)) (.inl rfl) rfl rfl ?_; clear hf; clear a; intro a hf | refine q_v hf (yv_conv (by kernel_rfl) Tryd.un_3 rfl) (.inl rfl) rfl rfl ?_; clear hf; clear a; intro a hf
    refine q_v hf (yv_assign rfl) (.inl rfl) rfl rfl ?_; clear hf; clear a; intro a hf
    refine q_v hf (yv_assign rfl) (.inl rfl) rfl rfl ?_; clear hf; clear a; intro a hf
    refine q_v hf (yv_assign rfl) (.inl rfl) rfl rfl ?_; clear hf; clear a; intro a hf
    refine q_end ?_
    rintro w ⟨es3, cm3, hM3, hh⟩; replace hh := hh.perm (List.perm_middle (l₁ := [_, _, _, _, _]) (l₂ := [_])).symm
    refine then_n ?_
    refine sy_ret ?_
    refine ret_m (Ds := [D]) (H := (Bq, .cells #[ptr bp 0] 50) :: (B6, .cells #[.int .u64 (bstK b (plansL b).length : Nat)] 56) :: (B5, .cells #[ptr bp 0] 50) :: (bp, .cells cs 90) :: (bm, .map es3 cm3) :: (B1, .cells #[.int .i64 b.slots, .int .i64 b.pitch, .int .i64 b.broken, .int .i64 b.most, .slice sa b.scenes.length sc] 24) :: []) hf hh fun w' hh => ?_
    exact ⟨[.int .i64 (bstK b (plansL b).length : Nat), .int .i64 (taken b (bstK b (plansL b).length) : Nat), .int .i64 0], ⟨rfl, rfl, rfl, True.intro⟩, rfl, hh.ext⟩
  · rintro k c D H a w hX hf hh
    exact hX.elim
end Go.Proofs.YtkolcbjghphjeaaDoor
