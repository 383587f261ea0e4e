/- The program's Needed, walked. -/
import Derived.Test.YtkolcbjghphjeaaDoorB13
import Derived.Test.YtkolcbjghphjeaaDoorE9
namespace Go.Proofs.YtkolcbjghphjeaaDoor
open Go Go.Sy Go.BarM
def ndStep (b : BarD) (set : Nat) (m : Nat × Nat) (p : Nat) : Nat × Nat := if takesB b set p then (m.1 &&& p, m.2 ||| p) else m
/-- What all, and some, of the first k plans that take a set have. -/
def ndK (b : BarD) (set k : Nat) : Nat × Nat := ((plansL b).take k).foldl (ndStep b set) (18446744073709551615, 0)
def ndF (b : BarD) (set f : Nat) : Nat × Nat := ((plansL b).takeWhile fun p => decide (pc p ≤ pc f)).foldl (ndStep b set) (18446744073709551615, 0)
theorem ndK_zero (b : BarD) (set : Nat) : ndK b set 0 = (18446744073709551615, 0) := by unfold ndK; rfl
theorem ndK_step {b : BarD} {set k y : Nat} (h : (plansL b)[k]? = some y) : ndK b set (k + 1) = ndStep b set (ndK b set k) y := by
  unfold ndK; rw [List.take_add_one, h, List.foldl_append]; rfl
theorem ndK_bd {b : BarD} (hV : Valid b) (set : Nat) : ∀ k, (ndK b set k).1 ≤ 18446744073709551615 ∧ (ndK b set k).2 ≤ 65535
  | 0 => by rw [ndK_zero]; simp
  | k + 1 => by
    have ih := ndK_bd hV set k
    cases h : (plansL b)[k]? with
    | none =>
      have e : ndK b set (k + 1) = ndK b set k := by unfold ndK; rw [List.take_add_one, h]; simp
      rw [e]; exact ih
    | some y =>
      rw [ndK_step h]; unfold ndStep; split
      · have hy := pl_lt hV h
        have hs1 := hV.s1; have hs2 := hV.s2
        have hpw := shl_bd hs1 hs2
        have e1 := @Nat.and_le_left (ndK b set k).1 y
        have e2 := @Nat.or_lt_two_pow (ndK b set k).2 y 16 (by omega) (by omega)
        exact ⟨by simp only; omega, by simp only; omega⟩
      · exact ih
theorem takeWhile_take {L : List Nat} {q : Nat → Bool} : ∀ {k : Nat}, (∀ j y, j < k → L[j]? = some y → q y = true) → (k = L.length ∨ ∃ y, L[k]? = some y ∧ q y = false) → L.takeWhile q = L.take k := by
  induction L with
  | nil => intro k _ _; simp
  | cons x L ih =>
    intro k h1 h2
    cases k with
    | zero =>
      rcases h2 with h2 | ⟨y, h2, h3⟩
      · simp at h2
      · simp at h2; subst h2; simp [List.takeWhile_cons, h3]
    | succ k =>
      have hx : q x = true := h1 0 x (by omega) (by simp)
      rw [List.takeWhile_cons, if_pos hx, List.take_succ_cons]
      congr 1
      exact ih (fun j y hj hy => h1 (j + 1) y (by omega) (by simpa using hy)) (by
        rcases h2 with h2 | ⟨y, h2, h3⟩
        · left; simpa using h2
        · right; exact ⟨y, by simpa using h2, h3⟩)
theorem ndF_eq {b : BarD} {set f k : Nat} (h1 : ∀ j y, j < k → (plansL b)[j]? = some y → pc y ≤ pc f) (h2 : k = (plansL b).length ∨ ∃ y, (plansL b)[k]? = some y ∧ pc f < pc y) : ndK b set k = ndF b set f := by
  unfold ndK ndF
  rw [takeWhile_take (k := k) (fun j y hj hy => by simpa using h1 j y hj hy) (by
    rcases h2 with h2 | ⟨y, h2, h3⟩
    · exact .inl h2
    · exact .inr ⟨y, h2, by simpa using h3⟩)]
attribute [irreducible] ndK ndF
theorem c18s (b : BarD) (sa : Option Addr) (sc : Nat) (u : World) (hS : ScAt u sa b.scenes) (hT : GTab u) (hV : Valid b) (f : Nat) (hfe : firstP b (2 ^ b.scenes.length - 1) = some f) : Calls Tryd.prog 18 #[barV b sa sc] u (Ret fun v w' => v = .tuple #[.int .i64 (f : Nat), .int .i64 0] ∧ Ext [] u w') := by
  have h := c18v b sa sc u hS hT hV
  rw [hfe] at h; exact h
theorem c18x (b : BarD) (sa : Option Addr) (sc : Nat) (u : World) (hS : ScAt u sa b.scenes) (hT : GTab u) (hV : Valid b) (hfe : firstP b (2 ^ b.scenes.length - 1) = none) : Calls Tryd.prog 18 #[barV b sa sc] u (Ret fun v w' => v = .tuple #[.int .i64 0, .int .i64 11] ∧ Ext [] u w') := by
  have h := c18v b sa sc u hS hT hV
  rw [hfe] at h; exact h
theorem c22n (b : BarD) (sa : Option Addr) (sc : Nat) (u : World) (hS : ScAt u sa b.scenes) (hb : okBar b = false) : Calls Tryd.prog 22 #[barV b sa sc] u (Ret fun v w' => v = .tuple #[.int .i64 0, .int .i64 0, .int .i64 1] ∧ Ext [] u w') := by
  refine calls_ofM Tryd.func22 rfl rfl (fun a hf => ?_)
  have hh := Hp.init u []
  refine sy_seq ?_
  refine sy_ops ?_
  refine ops_box hf hh rfl (.inl rfl) rfl ?_; clear hf hh; clear a; intro B1 a w hf hh
  refine ops_v hf hh (yv_assign rfl) (.inl rfl) rfl rfl rfl ?_; clear hf; clear a; intro a hf
  refine ops_v hf hh (yv_assign rfl) (.inl rfl) rfl rfl rfl ?_; clear hf; clear a; intro a hf
  refine ops_v hf hh (yv_assign rfl) (.inl rfl) rfl rfl rfl ?_; clear hf; clear a; intro a hf
  refine ops_end ?_
  refine then_n ?_
  refine sy_seq ?_
  refine sy_ops ?_
  refine ops_v hf hh (yv_loads Tryd.ag_24 rfl (fun _ h => by first | exact h.at (i := 0) rfl | exact h.at (i := 1) rfl | exact h.at (i := 2) rfl | exact h.at (i := 3) rfl) (by first | assumption | rfl)) (.inl rfl) rfl rfl rfl ?_; clear hf; clear a; intro a hf
  refine ops_call hf Tryd.en_18 rfl rfl rfl (.inl rfl) rfl (c18n b sa sc _ (hS.ext hh.ext) hb) ?_; clear hf; clear a; intro v a w hR hf
  obtain ⟨rfl, hx⟩ := hR; replace hh := hh.more hx; clear hx
  refine ops_v hf hh (yv_move rfl) (.inl rfl) rfl rfl rfl ?_; clear hf; clear a; intro a hf
  refine ops_v hf hh (yv_extract rfl rfl) (.inl rfl) rfl rfl rfl ?_; clear hf; clear a; intro a hf
  refine ops_v hf hh (yv_extract rfl rfl) (.inl rfl) rfl rfl rfl ?_; clear hf; clear a; intro a hf
  refine ops_alloc hf hh Tryd.ze_3 (.inl rfl) rfl ?_; clear hf hh; clear a; intro B5 a w hf hh
  first | refine ops_store (i := 0) hf hh rfl rfl rfl Tryd.sz_3 rfl rfl rfl (.inl rfl) fun w hh => ?_ | refine ops_store (i := 1) hf hh rfl rfl rfl Tryd.sz_3 rfl rfl rfl (.inl rfl) fun w hh => ?_ | refine ops_store (i := 2) hf hh rfl rfl rfl Tryd.sz_3 rfl rfl rfl (.inl rfl) fun w hh => ?_ | refine ops_store (i := 3) hf hh rfl rfl rfl Tryd.sz_3 rfl rfl rfl (.inl rfl) fun w hh => ?_
  refine ops_v hf hh (yv_assign rfl) (.inl rfl) rfl rfl rfl ?_; clear hf; clear a; intro a hf
  refine ops_end ?_
  refine then_n ?_
  refine sy_seq ?_
  refine sy_seq ?_
  refine sy_ops ?_
  refine ops_v hf hh (yv_move rfl) (.inl rfl) rfl rfl rfl ?_; clear hf; clear a; intro a hf
  refine ops_v hf hh (yv_bin rfl rfl rfl) (.inl rfl) rfl rfl rfl ?_; clear hf; clear a; intro a hf
  refine ops_end ?_
  refine then_n ?_
  refine sy_ct hf rfl (by first | assumption | rfl | (simp; done)) ?_
  refine sy_seq ?_
  refine sy_ops ?_
  refine ops_v hf hh (yv_move rfl) (.inl rfl) rfl rfl rfl ?_; clear hf; clear a; intro a hf
  refine ops_v hf hh (yv_assign rfl) (.inl rfl) rfl rfl rfl ?_; clear hf; clear a; intro a hf
  refine ops_v hf hh (yv_assign rfl) (.inl rfl) rfl rfl rfl ?_; clear hf; clear a; intro a hf
  refine ops_v hf hh (yv_assign rfl) (.inl rfl) rfl rfl rfl ?_; clear hf; clear a; intro a hf
  refine ops_end ?_
  refine then_n ?_
  refine sy_ret ?_
  refine then_r ?_
  refine ret_mb (Ds := []) (H := [(B5, .cells #[.int .i64 0] 3), (B1, .cells #[.int .i64 b.slots, .int .i64 b.pitch, .int .i64 b.broken, .int .i64 b.most, .slice sa b.scenes.length sc] 24)]) hf hh fun w' hh => ?_
  exact ⟨[.int .i64 0, .int .i64 0, .int .i64 1], ⟨rfl, rfl, rfl, True.intro⟩, rfl, hh.ext⟩
theorem c22x (b : BarD) (sa : Option Addr) (sc : Nat) (u : World) (hS : ScAt u sa b.scenes) (hT : GTab u) (hV : Valid b) (hfe : firstP b (2 ^ b.scenes.length - 1) = none) : Calls Tryd.prog 22 #[barV b sa sc] u (Ret fun v w' => v = .tuple #[.int .i64 0, .int .i64 0, .int .i64 11] ∧ Ext [] u w') := by
  refine calls_ofM Tryd.func22 rfl rfl (fun a hf => ?_)
  have hh := Hp.init u []
  refine sy_seq ?_
  refine sy_ops ?_
  refine ops_box hf hh rfl (.inl rfl) rfl ?_; clear hf hh; clear a; intro B1 a w hf hh
  refine ops_v hf hh (yv_assign rfl) (.inl rfl) rfl rfl rfl ?_; clear hf; clear a; intro a hf
  refine ops_v hf hh (yv_assign rfl) (.inl rfl) rfl rfl rfl ?_; clear hf; clear a; intro a hf
  refine ops_v hf hh (yv_assign rfl) (.inl rfl) rfl rfl rfl ?_; clear hf; clear a; intro a hf
  refine ops_end ?_
  refine then_n ?_
  refine sy_seq ?_
  refine sy_ops ?_
  refine ops_v hf hh (yv_loads Tryd.ag_24 rfl (fun _ h => by first | exact h.at (i := 0) rfl | exact h.at (i := 1) rfl | exact h.at (i := 2) rfl | exact h.at (i := 3) rfl) (by first | assumption | rfl)) (.inl rfl) rfl rfl rfl ?_; clear hf; clear a; intro a hf
  refine ops_call hf Tryd.en_18 rfl rfl rfl (.inl rfl) rfl (c18x b sa sc _ (hS.ext hh.ext) (hT.ext hh.ext (by simp)) hV hfe) ?_; clear hf; clear a; intro v a w hR hf
  obtain ⟨rfl, hx⟩ := hR; replace hh := hh.more hx; clear hx
  refine ops_v hf hh (yv_move rfl) (.inl rfl) rfl rfl rfl ?_; clear hf; clear a; intro a hf
  refine ops_v hf hh (yv_extract rfl rfl) (.inl rfl) rfl rfl rfl ?_; clear hf; clear a; intro a hf
  refine ops_v hf hh (yv_extract rfl rfl) (.inl rfl) rfl rfl rfl ?_; clear hf; clear a; intro a hf
  refine ops_alloc hf hh Tryd.ze_3 (.inl rfl) rfl ?_; clear hf hh; clear a; intro B5 a w hf hh
  first | refine ops_store (i := 0) hf hh rfl rfl rfl Tryd.sz_3 rfl rfl rfl (.inl rfl) fun w hh => ?_ | refine ops_store (i := 1) hf hh rfl rfl rfl Tryd.sz_3 rfl rfl rfl (.inl rfl) fun w hh => ?_ | refine ops_store (i := 2) hf hh rfl rfl rfl Tryd.sz_3 rfl rfl rfl (.inl rfl) fun w hh => ?_ | refine ops_store (i := 3) hf hh rfl rfl rfl Tryd.sz_3 rfl rfl rfl (.inl rfl) fun w hh => ?_
  refine ops_v hf hh (yv_assign rfl) (.inl rfl) rfl rfl rfl ?_; clear hf; clear a; intro a hf
  refine ops_end ?_
  refine then_n ?_
  refine sy_seq ?_
  refine sy_seq ?_
  refine sy_ops ?_
  refine ops_v hf hh (yv_move rfl) (.inl rfl) rfl rfl rfl ?_; clear hf; clear a; intro a hf
  refine ops_v hf hh (yv_bin rfl rfl rfl) (.inl rfl) rfl rfl rfl ?_; clear hf; clear a; intro a hf
  refine ops_end ?_
  refine then_n ?_
  refine sy_ct hf rfl (by first | assumption | rfl | (simp; done)) ?_
  refine sy_seq ?_
  refine sy_ops ?_
  refine ops_v hf hh (yv_move rfl) (.inl rfl) rfl rfl rfl ?_; clear hf; clear a; intro a hf
  refine ops_v hf hh (yv_assign rfl) (.inl rfl) rfl rfl rfl ?_; clear hf; clear a; intro a hf
  refine ops_v hf hh (yv_assign rfl) (.inl rfl) rfl rfl rfl ?_; clear hf; clear a; intro a hf
  refine ops_v hf hh (yv_assign rfl) (.inl rfl) rfl rfl rfl ?_; clear hf; clear a; intro a hf
  refine ops_end ?_
  refine then_n ?_
  refine sy_ret ?_
  refine then_r ?_
  refine ret_mb (Ds := []) (H := [(B5, .cells #[.int .i64 0] 3), (B1, .cells #[.int .i64 b.slots, .int .i64 b.pitch, .int .i64 b.broken, .int .i64 b.most, .slice sa b.scenes.length sc] 24)]) hf hh fun w' hh => ?_
  exact ⟨[.int .i64 0, .int .i64 0, .int .i64 11], ⟨rfl, rfl, rfl, True.intro⟩, rfl, hh.ext⟩
theorem c22v (b : BarD) (sa : Option Addr) (sc : Nat) (u : World) (hS : ScAt u sa b.scenes) (hT : GTab u) (hV : Valid b) (f : Nat) (hfe : firstP b (2 ^ b.scenes.length - 1) = some f) : Calls Tryd.prog 22 #[barV b sa sc] u (Ret fun v w' => v = .tuple #[.int .i64 (IntKind.i64.wrap ((ndF b (2 ^ b.scenes.length - 1) f).1 : Nat)), .int .i64 ((ndF b (2 ^ b.scenes.length - 1) f).2 : Nat), .int .i64 0] ∧ Ext [] u w') := by
  refine calls_ofM Tryd.func22 rfl rfl (fun a hf => ?_)
  have hh := Hp.init u []
  have hn := hV.n
  have hm1 : 1 ≤ 2 ^ b.scenes.length := Nat.one_le_two_pow
  have hm2 : 2 ^ b.scenes.length ≤ 2 ^ 10 := Nat.pow_le_pow_right (by omega) hn
  have hs1 := hV.s1; have hs2 := hV.s2
  have hpw := shl_bd hs1 hs2
  have hfl : f < 2 ^ b.slots.toNat := by
    unfold firstP at hfe
    obtain ⟨j, hj⟩ := List.getElem?_of_mem (List.mem_of_find?_eq_some hfe)
    exact pl_lt hV hj
  refine sy_seq ?_
  refine sy_ops ?_
  refine ops_box hf hh rfl (.inl rfl) rfl ?_; clear hf hh; clear a; intro B1 a w hf hh
  refine ops_v hf hh (yv_assign rfl) (.inl rfl) rfl rfl rfl ?_; clear hf; clear a; intro a hf
  refine ops_v hf hh (yv_assign rfl) (.inl rfl) rfl rfl rfl ?_; clear hf; clear a; intro a hf
  refine ops_v hf hh (yv_assign rfl) (.inl rfl) rfl rfl rfl ?_; clear hf; clear a; intro a hf
  refine ops_end ?_
  refine then_n ?_
  refine sy_seq ?_
  refine sy_ops ?_
  refine ops_v hf hh (yv_loads Tryd.ag_24 rfl (fun _ h => by first | exact h.at (i := 0) rfl | exact h.at (i := 1) rfl | exact h.at (i := 2) rfl | exact h.at (i := 3) rfl | exact h.at (i := 4) rfl | exact h.at (i := 5) rfl | exact h.at (i := 6) rfl | exact h.at (i := 7) rfl | exact h.at (i := 8) rfl | exact h.at (i := 9) rfl | exact h.at (i := 10) rfl | exact h.at (i := 11) rfl | exact h.at (i := 12) rfl | exact h.at (i := 13) rfl) (by first | assumption | rfl)) (.inl rfl) rfl rfl rfl ?_; clear hf; clear a; intro a hf
  refine ops_call hf Tryd.en_18 rfl rfl rfl (.inl rfl) rfl (c18s b sa sc _ (hS.ext hh.ext) (hT.ext hh.ext (by simp)) hV f hfe) ?_; clear hf; clear a; intro v a w hR hf
  obtain ⟨rfl, hx⟩ := hR; replace hh := hh.more hx; clear hx
  refine ops_v hf hh (yv_move rfl) (.inl rfl) rfl rfl rfl ?_; clear hf; clear a; intro a hf
  refine ops_v hf hh (yv_extract rfl rfl) (.inl rfl) rfl rfl rfl ?_; clear hf; clear a; intro a hf
  refine ops_v hf hh (yv_extract rfl rfl) (.inl rfl) rfl rfl rfl ?_; clear hf; clear a; intro a hf
  refine ops_alloc hf hh Tryd.ze_3 (.inl rfl) rfl ?_; clear hf hh; clear a; intro B5 a w hf hh
  first | refine ops_store (i := 0) hf hh rfl rfl rfl Tryd.sz_3 rfl rfl rfl (.inl rfl) fun w hh => ?_ | refine ops_store (i := 1) hf hh rfl rfl rfl Tryd.sz_3 rfl rfl rfl (.inl rfl) fun w hh => ?_ | refine ops_store (i := 2) hf hh rfl rfl rfl Tryd.sz_3 rfl rfl rfl (.inl rfl) fun w hh => ?_ | refine ops_store (i := 3) hf hh rfl rfl rfl Tryd.sz_3 rfl rfl rfl (.inl rfl) fun w hh => ?_ | refine ops_store (i := 4) hf hh rfl rfl rfl Tryd.sz_3 rfl rfl rfl (.inl rfl) fun w hh => ?_ | refine ops_store (i := 5) hf hh rfl rfl rfl Tryd.sz_3 rfl rfl rfl (.inl rfl) fun w hh => ?_ | refine ops_store (i := 6) hf hh rfl rfl rfl Tryd.sz_3 rfl rfl rfl (.inl rfl) fun w hh => ?_ | refine ops_store (i := 7) hf hh rfl rfl rfl Tryd.sz_3 rfl rfl rfl (.inl rfl) fun w hh => ?_ | refine ops_store (i := 8) hf hh rfl rfl rfl Tryd.sz_3 rfl rfl rfl (.inl rfl) fun w hh => ?_ | refine ops_store (i := 9) hf hh rfl rfl rfl Tryd.sz_3 rfl rfl rfl (.inl rfl) fun w hh => ?_ | refine ops_store (i := 10) hf hh rfl rfl rfl Tryd.sz_3 rfl rfl rfl (.inl rfl) fun w hh => ?_ | refine ops_store (i := 11) hf hh rfl rfl rfl Tryd.sz_3 rfl rfl rfl (.inl rfl) fun w hh => ?_ | refine ops_store (i := 12) hf hh rfl rfl rfl Tryd.sz_3 rfl rfl rfl (.inl rfl) fun w hh => ?_ | refine ops_store (i := 13) hf hh rfl rfl rfl Tryd.sz_3 rfl rfl rfl (.inl rfl) fun w hh => ?_
  refine ops_v hf hh (yv_assign rfl) (.inl rfl) rfl rfl rfl ?_; clear hf; clear a; intro a hf
  refine ops_end ?_
  refine then_n ?_
  refine sy_seq ?_
  refine sy_seq ?_
  refine sy_ops ?_
  refine ops_v hf hh (yv_move rfl) (.inl rfl) rfl rfl rfl ?_; clear hf; clear a; intro a hf
  refine ops_v hf hh (yv_bin rfl rfl rfl) (.inl rfl) rfl rfl rfl ?_; clear hf; clear a; intro a hf
  refine ops_end ?_
  refine then_n ?_
  refine sy_cf hf rfl (by first | assumption | rfl | (simp; done)) ?_
  refine sy_skip ?_
  refine then_n ?_
  refine sy_seq ?_
  refine sy_ops ?_
  refine ops_v hf hh (yv_loads Tryd.ag_24 rfl (fun _ h => by first | exact h.at (i := 0) rfl | exact h.at (i := 1) rfl | exact h.at (i := 2) rfl | exact h.at (i := 3) rfl | exact h.at (i := 4) rfl | exact h.at (i := 5) rfl | exact h.at (i := 6) rfl | exact h.at (i := 7) rfl | exact h.at (i := 8) rfl | exact h.at (i := 9) rfl | exact h.at (i := 10) rfl | exact h.at (i := 11) rfl | exact h.at (i := 12) rfl | exact h.at (i := 13) rfl) (by first | assumption | rfl)) (.inl rfl) rfl rfl rfl ?_; clear hf; clear a; intro a hf
  refine ops_call hf Tryd.en_35 rfl rfl rfl (.inl rfl) rfl (c35 b sa sc _ (hS.ext hh.ext) hV) ?_; clear hf; clear a; intro v a w hR hf
  obtain ⟨bp, bm, cs, rfl, hcs, hx⟩ := hR; replace hh := hh.join hx; clear hx
  refine ops_v hf hh (yv_move rfl) (.inl rfl) rfl rfl rfl ?_; clear hf; clear a; intro a hf
  refine ops_v hf hh (yv_extract rfl rfl) (.inl rfl) rfl rfl rfl ?_; clear hf; clear a; intro a hf
  refine ops_v hf hh (yv_extract rfl rfl) (.inl rfl) rfl rfl rfl ?_; clear hf; clear a; intro a hf
  refine ops_v hf hh (yv_assign rfl) (.inl rfl) rfl rfl rfl ?_; clear hf; clear a; intro a hf
  refine ops_v hf hh (yv_assign rfl) (.inl rfl) rfl rfl rfl ?_; clear hf; clear a; intro a hf
  refine ops_end ?_
  refine then_n ?_
  refine sy_seq ?_
  refine sy_ops ?_
  refine ops_v hf hh (yv_move rfl) (.inl rfl) rfl rfl rfl ?_; clear hf; clear a; intro a hf
  refine ops_v hf hh (yv_move rfl) (.inl rfl) rfl rfl rfl ?_; clear hf; clear a; intro a hf
  refine ops_call hf Tryd.en_49 rfl rfl rfl (.inl rfl) rfl (c49 b sa sc bp bm _ hV ⟨cs, hh.at (i := 0) rfl, hcs⟩) ?_; clear hf; clear a; intro v a w hR hf
  obtain ⟨rfl, hx⟩ := hR; replace hh := hh.more hx; clear hx
  refine ops_call hf Tryd.en_48 rfl rfl rfl (.inl rfl) rfl (c48 bp (2 ^ b.scenes.length - 1) _) ?_; clear hf; clear a; intro v a w hR hf
  obtain ⟨Bs, Bb, rfl, hx⟩ := hR; replace hh := hh.join hx; clear hx
  refine ops_alloc hf hh Tryd.ze_74 (.inl rfl) rfl ?_; clear hf hh; clear a; intro B8 a w hf hh
  first | refine ops_store (i := 0) hf hh rfl rfl rfl Tryd.sz_74 rfl rfl rfl (.inl rfl) fun w hh => ?_ | refine ops_store (i := 1) hf hh rfl rfl rfl Tryd.sz_74 rfl rfl rfl (.inl rfl) fun w hh => ?_ | refine ops_store (i := 2) hf hh rfl rfl rfl Tryd.sz_74 rfl rfl rfl (.inl rfl) fun w hh => ?_ | refine ops_store (i := 3) hf hh rfl rfl rfl Tryd.sz_74 rfl rfl rfl (.inl rfl) fun w hh => ?_ | refine ops_store (i := 4) hf hh rfl rfl rfl Tryd.sz_74 rfl rfl rfl (.inl rfl) fun w hh => ?_ | refine ops_store (i := 5) hf hh rfl rfl rfl Tryd.sz_74 rfl rfl rfl (.inl rfl) fun w hh => ?_ | refine ops_store (i := 6) hf hh rfl rfl rfl Tryd.sz_74 rfl rfl rfl (.inl rfl) fun w hh => ?_ | refine ops_store (i := 7) hf hh rfl rfl rfl Tryd.sz_74 rfl rfl rfl (.inl rfl) fun w hh => ?_ | refine ops_store (i := 8) hf hh rfl rfl rfl Tryd.sz_74 rfl rfl rfl (.inl rfl) fun w hh => ?_ | refine ops_store (i := 9) hf hh rfl rfl rfl Tryd.sz_74 rfl rfl rfl (.inl rfl) fun w hh => ?_ | refine ops_store (i := 10) hf hh rfl rfl rfl Tryd.sz_74 rfl rfl rfl (.inl rfl) fun w hh => ?_ | refine ops_store (i := 11) hf hh rfl rfl rfl Tryd.sz_74 rfl rfl rfl (.inl rfl) fun w hh => ?_ | refine ops_store (i := 12) hf hh rfl rfl rfl Tryd.sz_74 rfl rfl rfl (.inl rfl) fun w hh => ?_ | refine ops_store (i := 13) hf hh rfl rfl rfl Tryd.sz_74 rfl rfl rfl (.inl rfl) fun w hh => ?_
  refine ops_end ?_
  refine then_n ?_
  refine sy_seq ?_
  refine sy_ops ?_
  refine ops_alloc hf hh Tryd.ze_80 (.inl rfl) rfl ?_; clear hf hh; clear a; intro B9 a w hf hh
  first | refine ops_store (i := 0) hf hh rfl rfl rfl Tryd.sz_80 rfl rfl rfl (.inl rfl) fun w hh => ?_ | refine ops_store (i := 1) hf hh rfl rfl rfl Tryd.sz_80 rfl rfl rfl (.inl rfl) fun w hh => ?_ | refine ops_store (i := 2) hf hh rfl rfl rfl Tryd.sz_80 rfl rfl rfl (.inl rfl) fun w hh => ?_ | refine ops_store (i := 3) hf hh rfl rfl rfl Tryd.sz_80 rfl rfl rfl (.inl rfl) fun w hh => ?_ | refine ops_store (i := 4) hf hh rfl rfl rfl Tryd.sz_80 rfl rfl rfl (.inl rfl) fun w hh => ?_ | refine ops_store (i := 5) hf hh rfl rfl rfl Tryd.sz_80 rfl rfl rfl (.inl rfl) fun w hh => ?_ | refine ops_store (i := 6) hf hh rfl rfl rfl Tryd.sz_80 rfl rfl rfl (.inl rfl) fun w hh => ?_ | refine ops_store (i := 7) hf hh rfl rfl rfl Tryd.sz_80 rfl rfl rfl (.inl rfl) fun w hh => ?_ | refine ops_store (i := 8) hf hh rfl rfl rfl Tryd.sz_80 rfl rfl rfl (.inl rfl) fun w hh => ?_ | refine ops_store (i := 9) hf hh rfl rfl rfl Tryd.sz_80 rfl rfl rfl (.inl rfl) fun w hh => ?_ | refine ops_store (i := 10) hf hh rfl rfl rfl Tryd.sz_80 rfl rfl rfl (.inl rfl) fun w hh => ?_ | refine ops_store (i := 11) hf hh rfl rfl rfl Tryd.sz_80 rfl rfl rfl (.inl rfl) fun w hh => ?_ | refine ops_store (i := 12) hf hh rfl rfl rfl Tryd.sz_80 rfl rfl rfl (.inl rfl) fun w hh => ?_ | refine ops_store (i := 13) hf hh rfl rfl rfl Tryd.sz_80 rfl rfl rfl (.inl rfl) fun w hh => ?_
  refine ops_end ?_
  refine then_n ?_
  refine sy_seq ?_
  refine sy_ops ?_
  refine ops_alloc hf hh Tryd.ze_56 (.inl rfl) rfl ?_; clear hf hh; clear a; intro B10 a w hf hh
  refine ops_alloc hf hh Tryd.ze_56 (.inl rfl) rfl ?_; clear hf hh; clear a; intro B11 a w hf hh
  first | refine ops_store (i := 0) hf hh rfl rfl rfl Tryd.sz_56 rfl rfl rfl (.inl rfl) fun w hh => ?_ | refine ops_store (i := 1) hf hh rfl rfl rfl Tryd.sz_56 rfl rfl rfl (.inl rfl) fun w hh => ?_ | refine ops_store (i := 2) hf hh rfl rfl rfl Tryd.sz_56 rfl rfl rfl (.inl rfl) fun w hh => ?_ | refine ops_store (i := 3) hf hh rfl rfl rfl Tryd.sz_56 rfl rfl rfl (.inl rfl) fun w hh => ?_ | refine ops_store (i := 4) hf hh rfl rfl rfl Tryd.sz_56 rfl rfl rfl (.inl rfl) fun w hh => ?_ | refine ops_store (i := 5) hf hh rfl rfl rfl Tryd.sz_56 rfl rfl rfl (.inl rfl) fun w hh => ?_ | refine ops_store (i := 6) hf hh rfl rfl rfl Tryd.sz_56 rfl rfl rfl (.inl rfl) fun w hh => ?_ | refine ops_store (i := 7) hf hh rfl rfl rfl Tryd.sz_56 rfl rfl rfl (.inl rfl) fun w hh => ?_ | refine ops_store (i := 8) hf hh rfl rfl rfl Tryd.sz_56 rfl rfl rfl (.inl rfl) fun w hh => ?_ | refine ops_store (i := 9) hf hh rfl rfl rfl Tryd.sz_56 rfl rfl rfl (.inl rfl) fun w hh => ?_ | refine ops_store (i := 10) hf hh rfl rfl rfl Tryd.sz_56 rfl rfl rfl (.inl rfl) fun w hh => ?_ | refine ops_store (i := 11) hf hh rfl rfl rfl Tryd.sz_56 rfl rfl rfl (.inl rfl) fun w hh => ?_ | refine ops_store (i := 12) hf hh rfl rfl rfl Tryd.sz_56 rfl rfl rfl (.inl rfl) fun w hh => ?_ | refine ops_store (i := 13) hf hh rfl rfl rfl Tryd.sz_56 rfl rfl rfl (.inl rfl) fun w hh => ?_
  first | refine ops_store (i := 0) hf hh rfl rfl rfl Tryd.sz_56 rfl rfl rfl (.inl rfl) fun w hh => ?_ | refine ops_store (i := 1) hf hh rfl rfl rfl Tryd.sz_56 rfl rfl rfl (.inl rfl) fun w hh => ?_ | refine ops_store (i := 2) hf hh rfl rfl rfl Tryd.sz_56 rfl rfl rfl (.inl rfl) fun w hh => ?_ | refine ops_store (i := 3) hf hh rfl rfl rfl Tryd.sz_56 rfl rfl rfl (.inl rfl) fun w hh => ?_ | refine ops_store (i := 4) hf hh rfl rfl rfl Tryd.sz_56 rfl rfl rfl (.inl rfl) fun w hh => ?_ | refine ops_store (i := 5) hf hh rfl rfl rfl Tryd.sz_56 rfl rfl rfl (.inl rfl) fun w hh => ?_ | refine ops_store (i := 6) hf hh rfl rfl rfl Tryd.sz_56 rfl rfl rfl (.inl rfl) fun w hh => ?_ | refine ops_store (i := 7) hf hh rfl rfl rfl Tryd.sz_56 rfl rfl rfl (.inl rfl) fun w hh => ?_ | refine ops_store (i := 8) hf hh rfl rfl rfl Tryd.sz_56 rfl rfl rfl (.inl rfl) fun w hh => ?_ | refine ops_store (i := 9) hf hh rfl rfl rfl Tryd.sz_56 rfl rfl rfl (.inl rfl) fun w hh => ?_ | refine ops_store (i := 10) hf hh rfl rfl rfl Tryd.sz_56 rfl rfl rfl (.inl rfl) fun w hh => ?_ | refine ops_store (i := 11) hf hh rfl rfl rfl Tryd.sz_56 rfl rfl rfl (.inl rfl) fun w hh => ?_ | refine ops_store (i := 12) hf hh rfl rfl rfl Tryd.sz_56 rfl rfl rfl (.inl rfl) fun w hh => ?_ | refine ops_store (i := 13) hf hh rfl rfl rfl Tryd.sz_56 rfl rfl rfl (.inl rfl) fun w hh => ?_
  refine ops_end ?_
  refine then_n ?_
  refine sy_seq ?_
  refine sy_seq ?_
  refine sy_ops ?_
  refine ops_v hf hh (yv_move rfl) (.inl rfl) rfl rfl rfl ?_; clear hf; clear a; intro a hf
  refine ops_call hf Tryd.en_47 rfl rfl rfl (.inl rfl) rfl (c47 bp _) ?_; clear hf; clear a; intro v a w hR hf
  obtain ⟨Bq, rfl, hx⟩ := hR; replace hh := hh.join hx; clear hx
  refine ops_end ?_
  refine then_n ?_
  refine sy_block ?_
  refine sy_range (I := fun k H => (∀ j y, j < k → (plansL b)[j]? = some y → pc y ≤ pc f) ∧ ∃ es2 cm2, Memo .u64 .u64 (memF b) es2 ∧ H = (Bq, .cells #[ptr bp 0] 50) :: (B11, .cells #[.int .u64 ((ndK b (2 ^ b.scenes.length - 1) k).2 : Nat)] 56) :: (B10, .cells #[.int .u64 ((ndK b (2 ^ b.scenes.length - 1) k).1 : Nat)] 56) :: (B9, .cells #[.func (.func 53) #[] #[]] 80) :: (B8, .cells #[.func (.func 70) #[] #[ptr Bs 0, ptr Bb 0]] 74) :: (Bs, .cells #[.int .u64 ((2 ^ b.scenes.length - 1) : Nat)] 54) :: (Bb, .cells #[ptr bp 0] 50) :: (bp, .cells cs 90) :: (bm, .map es2 cm2) :: (B5, .cells #[.int .i64 (f : Nat)] 3) :: (B1, .cells #[.int .i64 b.slots, .int .i64 b.pitch, .int .i64 b.broken, .int .i64 b.most, .slice sa b.scenes.length sc] 24) :: []) (X := fun k c H => c = .exit 0 ∧ (∃ y, (plansL b)[k]? = some y ∧ pc f < pc y) ∧ (∀ j y, j < k → (plansL b)[j]? = some y → pc y ≤ pc f) ∧ ∃ es2 cm2, Memo .u64 .u64 (memF b) es2 ∧ H = (Bq, .cells #[ptr bp 0] 50) :: (B11, .cells #[.int .u64 ((ndK b (2 ^ b.scenes.length - 1) k).2 : Nat)] 56) :: (B10, .cells #[.int .u64 ((ndK b (2 ^ b.scenes.length - 1) k).1 : Nat)] 56) :: (B9, .cells #[.func (.func 53) #[] #[]] 80) :: (B8, .cells #[.func (.func 70) #[] #[ptr Bs 0, ptr Bb 0]] 74) :: (Bs, .cells #[.int .u64 ((2 ^ b.scenes.length - 1) : Nat)] 54) :: (Bb, .cells #[ptr bp 0] 50) :: (bp, .cells cs 90) :: (bm, .map es2 cm2) :: (B5, .cells #[.int .i64 (f : Nat)] 3) :: (B1, .cells #[.int .i64 b.slots, .int .i64 b.pitch, .int .i64 b.broken, .int .i64 b.most, .slice sa b.scenes.length sc] 24) :: []) hf hh Tryd.en_69 rfl (it69 b sa sc bp bm Bq hV) rfl (by intro x hx; obtain ⟨y, _, rfl⟩ := List.mem_map.1 hx; rfl) ?_ ?_ ?_ ?_ ?_
  · refine ⟨fun j y hj => absurd hj (Nat.not_lt_zero _), #[], 0, memo_nil b, ?_⟩
    rw [ndK_zero]; rfl
  · rintro _ _ l D o w ⟨_, es2, cm2, _, rfl⟩ h
    exact ⟨h.at (i := 2) rfl, ⟨cs, h.at (i := 9) rfl, hcs⟩⟩
  · rintro k x fn D l H w a tm hx ⟨hI, es2, cm2, hM2, rfl⟩ hh hf
    obtain ⟨y, hy1, rfl⟩ := tq_of hx
    have hyl := pl_lt hV hy1
    have hst := ndK_step (set := (2 ^ b.scenes.length - 1)) hy1
    have hbd := ndK_bd hV (2 ^ b.scenes.length - 1) k
    refine sy_ops ?_
    refine ops_v hf hh (yv_assign rfl) (.inl rfl) rfl rfl rfl ?_; clear hf; clear a; intro a hf
    refine ops_end ?_
    refine then_n (Go.Sy.begun (i := 0) hh rfl fun w hh => ?_)
    refine sy_block ?_
    refine sy_seq ?_
    refine sy_seq ?_
    refine sy_quiet (C := Hp _ _ _) Tryd.follows (by kernel_rfl) (hh.drawn _) ?_
    refine q_v hf (yv_load Tryd.sc_80 rfl (fun _ h => by first | exact h.at (i := 0) rfl | exact h.at (i := 1) rfl | exact h.at (i := 2) rfl | exact h.at (i := 3) rfl | exact h.at (i := 4) rfl | exact h.at (i := 5) rfl | exact h.at (i := 6) rfl | exact h.at (i := 7) rfl | exact h.at (i := 8) rfl | exact h.at (i := 9) rfl | exact h.at (i := 10) rfl | exact h.at (i := 11) rfl | exact h.at (i := 12) rfl | exact h.at (i := 13) rfl) (by first | rfl | assumption)) (.inl rfl) rfl rfl ?_; clear hf; clear a; intro a hf
    refine q_v hf (yv_move rfl) (.inl rfl) rfl rfl ?_; clear hf; clear a; intro a hf
    refine q_callE hf Tryd.en_53 rfl rfl rfl (.inl rfl) rfl (fun w hh => c53 y (by omega) _) ?_; clear hf; clear a; intro a hf
    refine q_v hf (yv_load Tryd.sc_80 rfl (fun _ h => by first | exact h.at (i := 0) rfl | exact h.at (i := 1) rfl | exact h.at (i := 2) rfl | exact h.at (i := 3) rfl | exact h.at (i := 4) rfl | exact h.at (i := 5) rfl | exact h.at (i := 6) rfl | exact h.at (i := 7) rfl | exact h.at (i := 8) rfl | exact h.at (i := 9) rfl | exact h.at (i := 10) rfl | exact h.at (i := 11) rfl | exact h.at (i := 12) rfl | exact h.at (i := 13) rfl) (by first | rfl | assumption)) (.inl rfl) rfl rfl ?_; clear hf; clear a; intro a hf
    refine q_v hf (yv_load Tryd.sc_3 rfl (fun _ h => by first | exact h.at (i := 0) rfl | exact h.at (i := 1) rfl | exact h.at (i := 2) rfl | exact h.at (i := 3) rfl | exact h.at (i := 4) rfl | exact h.at (i := 5) rfl | exact h.at (i := 6) rfl | exact h.at (i := 7) rfl | exact h.at (i := 8) rfl | exact h.at (i := 9) rfl | exact h.at (i := 10) rfl | exact h.at (i := 11) rfl | exact h.at (i := 12) rfl | exact h.at (i := 13) rfl) (by first | rfl | assumption)) (.inl rfl) rfl rfl ?_; clear hf; clear a; intro a hf
    first | refine q_v hf (yv_convx (.inr rfl) (by kernel_rfl) Tryd.un_56 rfl (by omega) (by simp only [IntKind.top]; omega)) (.inl rfl) rfl rfl ?_; clear hf; clear a; intro a hf | refine q_v hf (yv_conv (by kernel_rfl) Tryd.un_56 rfl) (.inl rfl) rfl rfl ?_; clear hf; clear a; intro a hf
    refine q_callE hf Tryd.en_53 rfl rfl rfl (.inl rfl) rfl (fun w hh => c53 f (by omega) _) ?_; clear hf; clear a; intro a hf
    refine q_v hf (yv_bin rfl rfl rfl) (.inl rfl) rfl rfl ?_; clear hf; clear a; intro a hf
    refine q_end fun w hh => ?_
    refine then_n ?_
    refine sy_cond hf rfl (fun hg15 => ?_) (fun hg15 => ?_)
    · have hG15 := hg15; try simp only [gS] at hG15
      refine sy_exit ?_
      refine then_e ?_
      refine blk_x rfl ?_
      exact ⟨_, ⟨rfl, ⟨y, hy1, by omega⟩, hI, es2, cm2, hM2, rfl⟩, hh⟩
    · have hG15 := hg15; try simp only [gS] at hG15
      refine sy_skip ?_
      refine then_n ?_
      refine sy_seq ?_
      refine sy_ops ?_
      refine ops_v hf hh (yv_load Tryd.sc_74 rfl (fun _ h => by first | exact h.at (i := 0) rfl | exact h.at (i := 1) rfl | exact h.at (i := 2) rfl | exact h.at (i := 3) rfl | exact h.at (i := 4) rfl | exact h.at (i := 5) rfl | exact h.at (i := 6) rfl | exact h.at (i := 7) rfl | exact h.at (i := 8) rfl | exact h.at (i := 9) rfl | exact h.at (i := 10) rfl | exact h.at (i := 11) rfl | exact h.at (i := 12) rfl | exact h.at (i := 13) rfl) (by first | rfl | assumption)) (.inl rfl) rfl rfl rfl ?_; clear hf; clear a; intro a hf
      refine ops_v hf hh (yv_move rfl) (.inl rfl) rfl rfl rfl ?_; clear hf; clear a; intro a hf
      refine ops_call hf Tryd.en_70 rfl rfl rfl (.inl rfl) rfl (c70 b sa sc bp bm (2 ^ b.scenes.length - 1) Bs Bb y cm2 es2 _ hV (pl_lt hV hy1) (by omega) ⟨mkBarA (i := 9) (j := 10) hh rfl rfl (by omega) hcs hS hT, hh.at (i := 7) rfl, hh.at (i := 8) rfl, by simpa using hh.diff (i := 7) (j := 10) rfl rfl (by omega), by simpa using hh.diff (i := 8) (j := 10) rfl rfl (by omega)⟩ (hh.at (i := 10) rfl) hM2) ?_; clear hf; clear a; intro v a w hR hf
      obtain ⟨rfl, es3, cm3, hM3, hx⟩ := hR; replace hh := hh.turn (i := 10) rfl hx.ext (hx.at (i := 0) rfl); clear hx
      refine ops_end ?_
      refine then_n ?_
      refine sy_cond hf rfl (fun hg17 => ?_) (fun hg17 => ?_)
      · have hG17 := hg17; try simp only [gS] at hG17
        refine sy_mixH [0, 1, 2, 3, 4, 5, 6, 7, 8] [0, 1, 2, 3, 4] [7, 8] Tryd.follows (by kernel_rfl) hh (fun w hh => ?_)
        refine mx_v rfl rfl hh hf (yv_load Tryd.sc_56 rfl (fun _ h => by first | exact h.at (i := 0) rfl | exact h.at (i := 1) rfl | exact h.at (i := 2) rfl | exact h.at (i := 3) rfl | exact h.at (i := 4) rfl | exact h.at (i := 5) rfl | exact h.at (i := 6) rfl | exact h.at (i := 7) rfl | exact h.at (i := 8) rfl | exact h.at (i := 9) rfl | exact h.at (i := 10) rfl | exact h.at (i := 11) rfl | exact h.at (i := 12) rfl | exact h.at (i := 13) rfl) (by first | rfl | assumption)) (.inl rfl) rfl rfl ?_; clear hf; clear a; intro a hf
        refine mx_v rfl rfl hh hf (yv_move rfl) (.inl rfl) rfl rfl ?_; clear hf; clear a; intro a hf
        refine mx_v rfl rfl hh hf (yv_cast (yv_and (.inr rfl) rfl rfl (by omega) (by simp only [IntKind.top]; omega) (by omega) (by simp only [IntKind.top]; omega)) (intv (b := (((ndK b (2 ^ b.scenes.length - 1) k).1 &&& y : Nat) : Int)) rfl)) (.inl rfl) rfl rfl ?_; clear hf; clear a; intro a hf
        refine mx_v rfl rfl hh hf (yv_load Tryd.sc_56 rfl (fun _ h => by first | exact h.at (i := 0) rfl | exact h.at (i := 1) rfl | exact h.at (i := 2) rfl | exact h.at (i := 3) rfl | exact h.at (i := 4) rfl | exact h.at (i := 5) rfl | exact h.at (i := 6) rfl | exact h.at (i := 7) rfl | exact h.at (i := 8) rfl | exact h.at (i := 9) rfl | exact h.at (i := 10) rfl | exact h.at (i := 11) rfl | exact h.at (i := 12) rfl | exact h.at (i := 13) rfl) (by first | rfl | assumption)) (.inl rfl) rfl rfl ?_; clear hf; clear a; intro a hf
        refine mx_v rfl rfl hh hf (yv_move rfl) (.inl rfl) rfl rfl ?_; clear hf; clear a; intro a hf
        refine mx_e rfl rfl fun Q1 => ?_
        refine ops_buildSl hf hh Tryd.bl_97_2 rfl rfl (.inl rfl) rfl ?_; clear hf hh; clear a; intro B49 a w hf hh
        refine ops_end ?_
        refine then_n ⟨fun _ => (hh.less (.cons _ (List.Sublist.refl _))), ?_⟩
        refine mx_e rfl rfl fun Q1 => ?_
        refine ops_call hf Tryd.en_54 rfl rfl rfl (.inl rfl) rfl (c54 (ndK b (2 ^ b.scenes.length - 1) k).2 y (by omega) (by omega) _ _ _ _ (hh.at (i := 0) rfl)) ?_; clear hf; clear a; intro v a w hR hf
        obtain ⟨rfl, hx⟩ := hR; replace hh := hh.more hx; clear hx
        refine ops_end ?_
        refine then_n ⟨fun _ => (hh.less (.cons _ (List.Sublist.refl _))), ?_⟩
        refine mx_e rfl rfl fun Q1 => ?_
        first | refine ops_store (i := 0) hf hh rfl rfl rfl Tryd.sz_56 rfl rfl rfl (.inl rfl) fun w hh => ?_ | refine ops_store (i := 1) hf hh rfl rfl rfl Tryd.sz_56 rfl rfl rfl (.inl rfl) fun w hh => ?_ | refine ops_store (i := 2) hf hh rfl rfl rfl Tryd.sz_56 rfl rfl rfl (.inl rfl) fun w hh => ?_ | refine ops_store (i := 3) hf hh rfl rfl rfl Tryd.sz_56 rfl rfl rfl (.inl rfl) fun w hh => ?_ | refine ops_store (i := 4) hf hh rfl rfl rfl Tryd.sz_56 rfl rfl rfl (.inl rfl) fun w hh => ?_ | refine ops_store (i := 5) hf hh rfl rfl rfl Tryd.sz_56 rfl rfl rfl (.inl rfl) fun w hh => ?_ | refine ops_store (i := 6) hf hh rfl rfl rfl Tryd.sz_56 rfl rfl rfl (.inl rfl) fun w hh => ?_ | refine ops_store (i := 7) hf hh rfl rfl rfl Tryd.sz_56 rfl rfl rfl (.inl rfl) fun w hh => ?_ | refine ops_store (i := 8) hf hh rfl rfl rfl Tryd.sz_56 rfl rfl rfl (.inl rfl) fun w hh => ?_ | refine ops_store (i := 9) hf hh rfl rfl rfl Tryd.sz_56 rfl rfl rfl (.inl rfl) fun w hh => ?_ | refine ops_store (i := 10) hf hh rfl rfl rfl Tryd.sz_56 rfl rfl rfl (.inl rfl) fun w hh => ?_ | refine ops_store (i := 11) hf hh rfl rfl rfl Tryd.sz_56 rfl rfl rfl (.inl rfl) fun w hh => ?_ | refine ops_store (i := 12) hf hh rfl rfl rfl Tryd.sz_56 rfl rfl rfl (.inl rfl) fun w hh => ?_ | refine ops_store (i := 13) hf hh rfl rfl rfl Tryd.sz_56 rfl rfl rfl (.inl rfl) fun w hh => ?_
        refine ops_end ?_
        refine then_n ⟨fun h => absurd h (by decide), ?_⟩
        refine mx_e rfl rfl fun Q1 => ?_
        first | refine ops_store (i := 0) hf hh rfl rfl rfl Tryd.sz_56 rfl rfl rfl (.inl rfl) fun w hh => ?_ | refine ops_store (i := 1) hf hh rfl rfl rfl Tryd.sz_56 rfl rfl rfl (.inl rfl) fun w hh => ?_ | refine ops_store (i := 2) hf hh rfl rfl rfl Tryd.sz_56 rfl rfl rfl (.inl rfl) fun w hh => ?_ | refine ops_store (i := 3) hf hh rfl rfl rfl Tryd.sz_56 rfl rfl rfl (.inl rfl) fun w hh => ?_ | refine ops_store (i := 4) hf hh rfl rfl rfl Tryd.sz_56 rfl rfl rfl (.inl rfl) fun w hh => ?_ | refine ops_store (i := 5) hf hh rfl rfl rfl Tryd.sz_56 rfl rfl rfl (.inl rfl) fun w hh => ?_ | refine ops_store (i := 6) hf hh rfl rfl rfl Tryd.sz_56 rfl rfl rfl (.inl rfl) fun w hh => ?_ | refine ops_store (i := 7) hf hh rfl rfl rfl Tryd.sz_56 rfl rfl rfl (.inl rfl) fun w hh => ?_ | refine ops_store (i := 8) hf hh rfl rfl rfl Tryd.sz_56 rfl rfl rfl (.inl rfl) fun w hh => ?_ | refine ops_store (i := 9) hf hh rfl rfl rfl Tryd.sz_56 rfl rfl rfl (.inl rfl) fun w hh => ?_ | refine ops_store (i := 10) hf hh rfl rfl rfl Tryd.sz_56 rfl rfl rfl (.inl rfl) fun w hh => ?_ | refine ops_store (i := 11) hf hh rfl rfl rfl Tryd.sz_56 rfl rfl rfl (.inl rfl) fun w hh => ?_ | refine ops_store (i := 12) hf hh rfl rfl rfl Tryd.sz_56 rfl rfl rfl (.inl rfl) fun w hh => ?_ | refine ops_store (i := 13) hf hh rfl rfl rfl Tryd.sz_56 rfl rfl rfl (.inl rfl) fun w hh => ?_
        refine ops_end ?_
        refine then_n ⟨fun h => absurd h (by decide), ?_⟩
        refine mx_end ?_
        refine blk_n ?_
        have hI2 : ∀ j z, j < k + 1 → (plansL b)[j]? = some z → pc z ≤ pc f := fun j z hj hz => by
          by_cases hjk : j = k
          · subst hjk; rw [hy1] at hz; cases hz; omega
          · exact hI j z (by omega) hz
        refine ⟨_, ⟨hI2, es3, cm3, hM3, rfl⟩, ?_⟩
        unfold ndStep at hst
        first
          | (rw [if_pos (by assumption)] at hst; rw [hst]; exact (hh.less (.cons _ (List.Sublist.refl _))))
          | (rw [if_neg (by simp_all)] at hst; rw [hst]; exact (hh.less (.cons _ (List.Sublist.refl _))))
      · have hG17 := hg17; try simp only [gS] at hG17
        refine sy_skip ?_
        refine blk_n ?_
        have hI2 : ∀ j z, j < k + 1 → (plansL b)[j]? = some z → pc z ≤ pc f := fun j z hj hz => by
          by_cases hjk : j = k
          · subst hjk; rw [hy1] at hz; cases hz; omega
          · exact hI j z (by omega) hz
        refine ⟨_, ⟨hI2, es3, cm3, hM3, rfl⟩, ?_⟩
        unfold ndStep at hst
        first
          | (rw [if_pos (by assumption)] at hst; rw [hst]; exact hh)
          | (rw [if_neg (by simp_all)] at hst; rw [hst]; exact hh)
  · rintro D H a w ⟨hI, es2, cm2, hM2, rfl⟩ hf hh
    rw [List.length_map] at hh hI
    have hbd := ndK_bd hV (2 ^ b.scenes.length - 1) (plansL b).length
    have hnd := ndF_eq (set := (2 ^ b.scenes.length - 1)) hI (.inl rfl)
    rw [hnd] at hh hbd
    refine blk_n ?_
    refine then_n ?_
    refine sy_seq ?_
    refine sy_quiet (C := Hp _ _ _) Tryd.follows (by kernel_rfl) (hh.drawn _) ?_
    refine q_v hf (yv_load Tryd.sc_56 rfl (fun _ h => by first | exact h.at (i := 0) rfl | exact h.at (i := 1) rfl | exact h.at (i := 2) rfl | exact h.at (i := 3) rfl | exact h.at (i := 4) rfl | exact h.at (i := 5) rfl | exact h.at (i := 6) rfl | exact h.at (i := 7) rfl | exact h.at (i := 8) rfl | exact h.at (i := 9) rfl | exact h.at (i := 10) rfl | exact h.at (i := 11) rfl | exact h.at (i := 12) rfl | exact h.at (i := 13) rfl) (by first | rfl | assumption)) (.inl rfl) rfl rfl ?_; clear hf; clear a; intro a hf
    first | refine q_v hf (yv_convx (.inl rfl) (by kernel_rfl) Tryd.un_3 rfl (by omega) (by simp only [IntKind.top]; omega)) (.inl rfl) rfl rfl ?_; clear hf; clear a; intro a hf | refine q_v hf (yv_conv (by kernel_rfl) Tryd.un_3 rfl) (.inl rfl) rfl rfl ?_; clear hf; clear a; intro a hf
    refine q_v hf (yv_load Tryd.sc_56 rfl (fun _ h => by first | exact h.at (i := 0) rfl | exact h.at (i := 1) rfl | exact h.at (i := 2) rfl | exact h.at (i := 3) rfl | exact h.at (i := 4) rfl | exact h.at (i := 5) rfl | exact h.at (i := 6) rfl | exact h.at (i := 7) rfl | exact h.at (i := 8) rfl | exact h.at (i := 9) rfl | exact h.at (i := 10) rfl | exact h.at (i := 11) rfl | exact h.at (i := 12) rfl | exact h.at (i := 13) rfl) (by first | rfl | assumption)) (.inl rfl) rfl rfl ?_; clear hf; clear a; intro a hf
    first | refine q_v hf (yv_convx (.inl rfl) (by kernel_rfl) Tryd.un_3 rfl (by omega) (by simp only [IntKind.top]; omega)) (.inl rfl) rfl rfl ?_; clear hf; clear a; intro a hf | refine q_v hf (yv_conv (by kernel_rfl) Tryd.un_3 rfl) (.inl rfl) rfl rfl ?_; clear hf; clear a; intro a hf
    refine q_v hf (yv_assign rfl) (.inl rfl) rfl rfl ?_; clear hf; clear a; intro a hf
    refine q_v hf (yv_assign rfl) (.inl rfl) rfl rfl ?_; clear hf; clear a; intro a hf
    refine q_v hf (yv_assign rfl) (.inl rfl) rfl rfl ?_; clear hf; clear a; intro a hf
    refine q_end fun w hh => ?_
    refine then_n ?_
    refine sy_ret ?_
    refine ret_m (Ds := [D]) (H := (Bq, .cells #[ptr bp 0] 50) :: (B11, .cells #[.int .u64 ((ndF b (2 ^ b.scenes.length - 1) f).2 : Nat)] 56) :: (B10, .cells #[.int .u64 ((ndF b (2 ^ b.scenes.length - 1) f).1 : Nat)] 56) :: (B9, .cells #[.func (.func 53) #[] #[]] 80) :: (B8, .cells #[.func (.func 70) #[] #[ptr Bs 0, ptr Bb 0]] 74) :: (Bs, .cells #[.int .u64 ((2 ^ b.scenes.length - 1) : Nat)] 54) :: (Bb, .cells #[ptr bp 0] 50) :: (bp, .cells cs 90) :: (bm, .map es2 cm2) :: (B5, .cells #[.int .i64 (f : Nat)] 3) :: (B1, .cells #[.int .i64 b.slots, .int .i64 b.pitch, .int .i64 b.broken, .int .i64 b.most, .slice sa b.scenes.length sc] 24) :: []) hf hh fun w' hh => ?_
    exact ⟨[.int .i64 (IntKind.i64.wrap ((ndF b (2 ^ b.scenes.length - 1) f).1 : Nat)), .int .i64 ((ndF b (2 ^ b.scenes.length - 1) f).2 : Nat), .int .i64 0], ⟨rfl, rfl, rfl, True.intro⟩, rfl, hh.ext⟩
  · rintro k c D H a w hX hf hh
    obtain ⟨rfl, hy, hI, es2, cm2, hM2, rfl⟩ := hX
    have hbd := ndK_bd hV (2 ^ b.scenes.length - 1) k
    have hnd := ndF_eq (set := (2 ^ b.scenes.length - 1)) hI (.inr hy)
    rw [hnd] at hh hbd
    refine sy_exit ?_
    refine blk_e ?_
    refine then_n ?_
    refine sy_seq ?_
    refine sy_quiet (C := Hp _ _ _) Tryd.follows (by kernel_rfl) (hh.drawn _) ?_
    refine q_v hf (yv_load Tryd.sc_56 rfl (fun _ h => by first | exact h.at (i := 0) rfl | exact h.at (i := 1) rfl | exact h.at (i := 2) rfl | exact h.at (i := 3) rfl | exact h.at (i := 4) rfl | exact h.at (i := 5) rfl | exact h.at (i := 6) rfl | exact h.at (i := 7) rfl | exact h.at (i := 8) rfl | exact h.at (i := 9) rfl | exact h.at (i := 10) rfl | exact h.at (i := 11) rfl | exact h.at (i := 12) rfl | exact h.at (i := 13) rfl) (by first | rfl | assumption)) (.inl rfl) rfl rfl ?_; clear hf; clear a; intro a hf
    first | refine q_v hf (yv_convx (.inl rfl) (by kernel_rfl) Tryd.un_3 rfl (by omega) (by simp only [IntKind.top]; omega)) (.inl rfl) rfl rfl ?_; clear hf; clear a; intro a hf | refine q_v hf (yv_conv (by kernel_rfl) Tryd.un_3 rfl) (.inl rfl) rfl rfl ?_; clear hf; clear a; intro a hf
    refine q_v hf (yv_load Tryd.sc_56 rfl (fun _ h => by first | exact h.at (i := 0) rfl | exact h.at (i := 1) rfl | exact h.at (i := 2) rfl | exact h.at (i := 3) rfl | exact h.at (i := 4) rfl | exact h.at (i := 5) rfl | exact h.at (i := 6) rfl | exact h.at (i := 7) rfl | exact h.at (i := 8) rfl | exact h.at (i := 9) rfl | exact h.at (i := 10) rfl | exact h.at (i := 11) rfl | exact h.at (i := 12) rfl | exact h.at (i := 13) rfl) (by first | rfl | assumption)) (.inl rfl) rfl rfl ?_; clear hf; clear a; intro a hf
    first | refine q_v hf (yv_convx (.inl rfl) (by kernel_rfl) Tryd.un_3 rfl (by omega) (by simp only [IntKind.top]; omega)) (.inl rfl) rfl rfl ?_; clear hf; clear a; intro a hf | refine q_v hf (yv_conv (by kernel_rfl) Tryd.un_3 rfl) (.inl rfl) rfl rfl ?_; clear hf; clear a; intro a hf
    refine q_v hf (yv_assign rfl) (.inl rfl) rfl rfl ?_; clear hf; clear a; intro a hf
    refine q_v hf (yv_assign rfl) (.inl rfl) rfl rfl ?_; clear hf; clear a; intro a hf
    refine q_v hf (yv_assign rfl) (.inl rfl) rfl rfl ?_; clear hf; clear a; intro a hf
    refine q_end fun w hh => ?_
    refine then_n ?_
    refine sy_ret ?_
    refine ret_m (Ds := [D]) (H := (Bq, .cells #[ptr bp 0] 50) :: (B11, .cells #[.int .u64 ((ndF b (2 ^ b.scenes.length - 1) f).2 : Nat)] 56) :: (B10, .cells #[.int .u64 ((ndF b (2 ^ b.scenes.length - 1) f).1 : Nat)] 56) :: (B9, .cells #[.func (.func 53) #[] #[]] 80) :: (B8, .cells #[.func (.func 70) #[] #[ptr Bs 0, ptr Bb 0]] 74) :: (Bs, .cells #[.int .u64 ((2 ^ b.scenes.length - 1) : Nat)] 54) :: (Bb, .cells #[ptr bp 0] 50) :: (bp, .cells cs 90) :: (bm, .map es2 cm2) :: (B5, .cells #[.int .i64 (f : Nat)] 3) :: (B1, .cells #[.int .i64 b.slots, .int .i64 b.pitch, .int .i64 b.broken, .int .i64 b.most, .slice sa b.scenes.length sc] 24) :: []) hf hh fun w' hh => ?_
    exact ⟨[.int .i64 (IntKind.i64.wrap ((ndF b (2 ^ b.scenes.length - 1) f).1 : Nat)), .int .i64 ((ndF b (2 ^ b.scenes.length - 1) f).2 : Nat), .int .i64 0], ⟨rfl, rfl, rfl, True.intro⟩, rfl, hh.ext⟩
end Go.Proofs.YtkolcbjghphjeaaDoor
