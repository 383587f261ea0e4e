/- The program's Why, walked. -/
import Derived.Test.YtkolcbjghphjeaaDoorB14
namespace Go.Proofs.YtkolcbjghphjeaaDoor
open Go Go.Sy Go.BarM
theorem rowTo_pre (i k : Nat) (h : i < k) : ∀ m, k ≤ m → ∃ bs, rowTo i m = rowTo i k ++ bs
  | 0, hm => by omega
  | m + 1, hm => by
    by_cases hk : k = m + 1
    · subst hk; exact ⟨[], by simp⟩
    · obtain ⟨bs, e⟩ := rowTo_pre i k h m (by omega)
      exact ⟨bs ++ [(i, m)], by rw [rowTo_step i m (by omega), e, List.append_assoc]⟩
theorem pairsTo_pre (n i : Nat) : ∀ m, i ≤ m → ∃ bs, pairsTo n m = pairsTo n i ++ bs
  | 0, hm => by have : i = 0 := by omega
                subst this; exact ⟨[], by simp⟩
  | m + 1, hm => by
    by_cases hk : i = m + 1
    · subst hk; exact ⟨[], by simp⟩
    · obtain ⟨bs, e⟩ := pairsTo_pre n i m (by omega)
      exact ⟨bs ++ rowTo m n, by rw [pairsTo_step, e, List.append_assoc]⟩
theorem pairs_split {n i k : Nat} (h1 : i < k) (h2 : k < n) : ∃ bs, pairsTo n n = (pairsTo n i ++ rowTo i k) ++ (i, k) :: bs := by
  obtain ⟨b1, e1⟩ := pairsTo_pre n (i + 1) n (by omega)
  obtain ⟨b2, e2⟩ := rowTo_pre i (k + 1) (by omega) n (by omega)
  refine ⟨b2 ++ b1, ?_⟩
  rw [e1, pairsTo_step, e2, rowTo_step i k h1]
  simp
/-- Does no plan take all scenes of a set? -/
def neverB (b : BarD) (set : Nat) : Bool := !(firstP b set).isSome
def oneB (b : BarD) : Option Nat := (List.range b.scenes.length).find? fun i => neverB b (2 ^ i)
def twoB (b : BarD) : Option (Nat × Nat) := (pairsTo b.scenes.length b.scenes.length).find? fun x => neverB b (2 ^ x.1 ||| 2 ^ x.2)
def whyV (b : BarD) : Value :=
  if neverB b (2 ^ b.scenes.length - 1) then
    match oneB b with
    | some i => .tuple #[.int .i64 1, .int .i64 i, .int .i64 0, .int .i64 11]
    | none => match twoB b with
      | some x => .tuple #[.int .i64 2, .int .i64 x.1, .int .i64 x.2, .int .i64 11]
      | none => .tuple #[.int .i64 3, .int .i64 0, .int .i64 0, .int .i64 11]
  else .tuple #[.int .i64 0, .int .i64 0, .int .i64 0, .int .i64 0]
theorem why_ok {b : BarD} (h : neverB b (2 ^ b.scenes.length - 1) = false) : whyV b = .tuple #[.int .i64 0, .int .i64 0, .int .i64 0, .int .i64 0] := by unfold whyV; rw [h]; rfl
theorem oneB_none {b : BarD} {k : Nat} (h : ∀ j, j < k → neverB b (2 ^ j) = false) (hk : b.scenes.length ≤ k) : oneB b = none := by
  unfold oneB; rw [List.find?_eq_none]; intro x hx; rw [List.mem_range] at hx; rw [h x (by omega)]; simp
theorem why_one {b : BarD} {k : Nat} (h0 : neverB b (2 ^ b.scenes.length - 1) = true) (hk : k < b.scenes.length) (h : ∀ j, j < k → neverB b (2 ^ j) = false) (hn : neverB b (2 ^ k) = true) : whyV b = .tuple #[.int .i64 1, .int .i64 k, .int .i64 0, .int .i64 11] := by
  have : oneB b = some k := by
    unfold oneB; rw [List.find?_eq_some_iff_getElem]
    refine ⟨hn, k, by simpa using hk, by simp, fun j hj => ?_⟩
    rw [List.getElem_range, h j hj]; rfl
  unfold whyV; rw [h0, this]; rfl
theorem why_two {b : BarD} {i k : Nat} (h0 : neverB b (2 ^ b.scenes.length - 1) = true) (h1 : oneB b = none) (hik : i < k) (hk : k < b.scenes.length) (h : ∀ c ∈ pairsTo b.scenes.length i ++ rowTo i k, neverB b (2 ^ c.1 ||| 2 ^ c.2) = false) (hn : neverB b (2 ^ i ||| 2 ^ k) = true) :
    whyV b = .tuple #[.int .i64 2, .int .i64 i, .int .i64 k, .int .i64 11] := by
  have : twoB b = some (i, k) := by
    unfold twoB; rw [List.find?_eq_some_iff_append]
    obtain ⟨bs, e⟩ := pairs_split hik hk
    exact ⟨hn, _, bs, e, fun c hc => by rw [h c hc]; rfl⟩
  unfold whyV; rw [h0, h1, this]; rfl
theorem why_all {b : BarD} (h0 : neverB b (2 ^ b.scenes.length - 1) = true) (h1 : oneB b = none) (h : ∀ c ∈ pairsTo b.scenes.length b.scenes.length, neverB b (2 ^ c.1 ||| 2 ^ c.2) = false) : whyV b = .tuple #[.int .i64 3, .int .i64 0, .int .i64 0, .int .i64 11] := by
  have : twoB b = none := by
    unfold twoB; rw [List.find?_eq_none]; intro c hc; rw [h c hc]; simp
  unfold whyV; rw [h0, h1, this]; rfl
attribute [irreducible] neverB whyV
theorem c58 (b : BarD) (sa : Option Addr) (sc bp bm set Bv cm : Nat) (es : Array MapEntry) (u : World) (hV : Valid b) (hset : set ≤ 65536) (hA : BarA u b sa sc bp bm) (hv : u.heap[Bv]? = some (.cells #[ptr bp 0] 50 (0, 0))) (hnv : Bv ∉ [bm])
    (hm : u.heap[bm]? = some (.map es cm)) (hM : Memo .u64 .u64 (memF b) es) : Calls Tryd.prog 58 #[.int .u64 set, ptr Bv 0] u
    (Ret fun v w' => v = .bool (neverB b set) ∧ ∃ es' c', Memo .u64 .u64 (memF b) es' ∧ Hp u [bm] [(bm, .map es' c')] w') := by
  refine calls_of Tryd.func58 rfl rfl (fun a hf => ?_)
  have hh := Hp.init1 hm
  refine sy_seq ?_
  refine sy_ops ?_
  refine ops_v hf hh (yv_assign rfl) (.inl rfl) rfl rfl rfl ?_; clear hf; clear a; intro a hf
  refine ops_end ?_
  refine then_n ?_
  refine sy_seq ?_
  refine sy_mix (C := Hp u [bm] []) [0, 2, 3, 1, 4, 5, 6, 7, 8, 9, 10] [0, 2, 3, 6, 7, 8, 9, 10] [] Tryd.follows (by kernel_rfl) hh (fun w hh => ?_)
  refine mx_v rfl rfl (hh.less (List.nil_sublist _)) hf (yv_load Tryd.sc_50 rfl (fun _ h => by first | exact h.at (i := 0) rfl | exact h.oldM hv hnv) (by first | rfl | assumption)) (.inl rfl) rfl rfl ?_; clear hf; clear a; intro a hf
  refine mx_v rfl rfl (hh.less (List.nil_sublist _)) hf (yv_load Tryd.sc_50 rfl (fun _ h => by first | exact h.at (i := 0) rfl | exact h.oldM hv hnv) (by first | rfl | assumption)) (.inl rfl) rfl rfl ?_; clear hf; clear a; intro a hf
  refine mx_v rfl rfl (hh.less (List.nil_sublist _)) hf (yv_move rfl) (.inl rfl) rfl rfl ?_; clear hf; clear a; intro a hf
  refine mx_e rfl rfl fun Q1 => ?_
  refine ops_call hf Tryd.en_47 rfl rfl rfl (.inl rfl) rfl (c47 bp _) ?_; clear hf; clear a; intro v a w hR hf
  obtain ⟨Bq, rfl, hx⟩ := hR; replace hh := hh.join hx; clear hx
  refine ops_end ?_
  refine then_n ⟨fun _ => (hh.less (List.nil_sublist _)), ?_⟩
  refine mx_e rfl rfl fun Q1 => ?_
  refine ops_call hf Tryd.en_48 rfl rfl rfl (.inl rfl) rfl (c48 bp set _) ?_; clear hf; clear a; intro v a w hR hf
  obtain ⟨Bs, Bb, rfl, hx⟩ := hR; replace hh := hh.join hx; clear hx
  refine ops_end ?_
  refine then_n ⟨fun _ => (hh.less (List.nil_sublist _)), ?_⟩
  refine mx_e rfl rfl fun Q1 => ?_
  refine ops_call hf Tryd.en_46 rfl rfl rfl (.inl rfl) rfl (c46 b sa sc bp bm set Bq Bs Bb cm es _ hV hset ⟨hA.ext hh.ext (by simp), hh.at (i := 0) rfl, hh.at (i := 1) rfl, by simpa using hh.diff (i := 0) (j := 3) rfl rfl (by omega), by simpa using hh.diff (i := 1) (j := 3) rfl rfl (by omega)⟩
        (hh.at (i := 2) rfl) (by simpa using hh.diff (i := 2) (j := 3) rfl rfl (by omega)) (hh.at (i := 3) rfl) hM) ?_; clear hf; clear a; intro v a w hR hf
  obtain ⟨rfl, es2, cm2, hM2, hx⟩ := hR; replace hh := hh.turn (i := 3) rfl hx.ext (hx.at (i := 0) rfl); clear hx
  refine ops_end ?_
  refine then_n ⟨fun _ => (hh.less (List.nil_sublist _)), ?_⟩
  refine mx_v rfl rfl (hh.less (List.nil_sublist _)) hf (yv_move rfl) (.inl rfl) rfl rfl ?_; clear hf; clear a; intro a hf
  refine mx_v rfl rfl (hh.less (List.nil_sublist _)) hf (yv_extract rfl rfl) (.inl rfl) rfl rfl ?_; clear hf; clear a; intro a hf
  refine mx_v rfl rfl (hh.less (List.nil_sublist _)) hf (yv_extract rfl rfl) (.inl rfl) rfl rfl ?_; clear hf; clear a; intro a hf
  refine mx_v rfl rfl (hh.less (List.nil_sublist _)) hf (yv_assign rfl) (.inl rfl) rfl rfl ?_; clear hf; clear a; intro a hf
  refine mx_v rfl rfl (hh.less (List.nil_sublist _)) hf (yv_assign rfl) (.inl rfl) rfl rfl ?_; clear hf; clear a; intro a hf
  refine mx_end ?_
  refine then_n ?_
  refine sy_seq ?_
  refine sy_ops ?_
  refine ops_v hf hh (yv_move rfl) (.inl rfl) rfl rfl rfl ?_; clear hf; clear a; intro a hf
  refine ops_v hf hh (yv_not rfl) (.inl rfl) rfl rfl rfl ?_; clear hf; clear a; intro a hf
  refine ops_v hf hh (yv_assign rfl) (.inl rfl) rfl rfl rfl ?_; clear hf; clear a; intro a hf
  refine ops_end ?_
  refine then_n ?_
  refine sy_ret ?_
  refine ret_r hf rfl rfl ?_
  exact ⟨by unfold neverB; rfl, es2, cm2, hM2, hh.less (.cons _ (.cons _ (.cons _ (.refl _))))⟩
theorem c26n (b : BarD) (sa : Option Addr) (sc : Nat) (u : World) (hS : ScAt u sa b.scenes) (hb : okBar b = false) : Calls Tryd.prog 26 #[barV b sa sc] u (Ret fun v w' => v = .tuple #[.int .i64 0, .int .i64 0, .int .i64 0, .int .i64 1] ∧ Ext [] u w') := by
  refine calls_of Tryd.func26 rfl rfl (fun a hf => ?_)
  have hh := Hp.init u []
  refine sy_seq ?_
  refine sy_ops ?_
  refine ops_box hf hh rfl (.inl rfl) rfl ?_; clear hf hh; clear a; intro B1 a w hf hh
  refine ops_v hf hh (yv_assign rfl) (.inl rfl) rfl rfl rfl ?_; clear hf; clear a; intro a hf
  refine ops_v hf hh (yv_assign rfl) (.inl rfl) rfl rfl rfl ?_; clear hf; clear a; intro a hf
  refine ops_v hf hh (yv_assign rfl) (.inl rfl) rfl rfl rfl ?_; clear hf; clear a; intro a hf
  refine ops_v hf hh (yv_assign rfl) (.inl rfl) rfl rfl rfl ?_; clear hf; clear a; intro a hf
  refine ops_end ?_
  refine then_n ?_
  refine sy_seq ?_
  refine sy_ops ?_
  refine ops_v hf hh (yv_loads Tryd.ag_24 rfl (fun _ h => by first | exact h.at (i := 0) rfl | exact h.at (i := 1) rfl | exact h.at (i := 2) rfl | exact h.at (i := 3) rfl) (by first | assumption | rfl)) (.inl rfl) rfl rfl rfl ?_; clear hf; clear a; intro a hf
  refine ops_call hf Tryd.en_35 rfl rfl rfl (.inl rfl) rfl (c35n b sa sc _ (hS.ext hh.ext) hb) ?_; clear hf; clear a; intro v a w hR hf
  obtain ⟨rfl, hx⟩ := hR; replace hh := hh.more hx; clear hx
  refine ops_v hf hh (yv_move rfl) (.inl rfl) rfl rfl rfl ?_; clear hf; clear a; intro a hf
  refine ops_v hf hh (yv_extract rfl rfl) (.inl rfl) rfl rfl rfl ?_; clear hf; clear a; intro a hf
  refine ops_v hf hh (yv_extract rfl rfl) (.inl rfl) rfl rfl rfl ?_; clear hf; clear a; intro a hf
  refine ops_alloc hf hh Tryd.ze_50 (.inl rfl) rfl ?_; clear hf hh; clear a; intro B6 a w hf hh
  first | refine ops_store (i := 0) hf hh rfl rfl rfl Tryd.sz_50 rfl rfl rfl (.inl rfl) fun w hh => ?_ | refine ops_store (i := 1) hf hh rfl rfl rfl Tryd.sz_50 rfl rfl rfl (.inl rfl) fun w hh => ?_ | refine ops_store (i := 2) hf hh rfl rfl rfl Tryd.sz_50 rfl rfl rfl (.inl rfl) fun w hh => ?_ | refine ops_store (i := 3) hf hh rfl rfl rfl Tryd.sz_50 rfl rfl rfl (.inl rfl) fun w hh => ?_
  refine ops_v hf hh (yv_assign rfl) (.inl rfl) rfl rfl rfl ?_; clear hf; clear a; intro a hf
  refine ops_end ?_
  refine then_n ?_
  refine sy_seq ?_
  refine sy_seq ?_
  refine sy_ops ?_
  refine ops_v hf hh (yv_move rfl) (.inl rfl) rfl rfl rfl ?_; clear hf; clear a; intro a hf
  refine ops_v hf hh (yv_bin rfl rfl rfl) (.inl rfl) rfl rfl rfl ?_; clear hf; clear a; intro a hf
  refine ops_end ?_
  refine then_n ?_
  refine sy_ct hf rfl (by first | assumption | rfl | (simp; done)) ?_
  refine sy_seq ?_
  refine sy_ops ?_
  refine ops_v hf hh (yv_move rfl) (.inl rfl) rfl rfl rfl ?_; clear hf; clear a; intro a hf
  refine ops_v hf hh (yv_assign rfl) (.inl rfl) rfl rfl rfl ?_; clear hf; clear a; intro a hf
  refine ops_v hf hh (yv_assign rfl) (.inl rfl) rfl rfl rfl ?_; clear hf; clear a; intro a hf
  refine ops_v hf hh (yv_assign rfl) (.inl rfl) rfl rfl rfl ?_; clear hf; clear a; intro a hf
  refine ops_v hf hh (yv_assign rfl) (.inl rfl) rfl rfl rfl ?_; clear hf; clear a; intro a hf
  refine ops_end ?_
  refine then_n ?_
  refine sy_ret ?_
  refine then_r ?_
  refine ret_r hf rfl rfl ?_
  exact ⟨rfl, hh.ext⟩
theorem c26v (b : BarD) (sa : Option Addr) (sc : Nat) (u : World) (hS : ScAt u sa b.scenes) (hT : GTab u) (hV : Valid b) : Calls Tryd.prog 26 #[barV b sa sc] u (Ret fun v w' => v = whyV b ∧ Ext [] u w') := by
  refine calls_of Tryd.func26 rfl rfl (fun a hf => ?_)
  have hh := Hp.init u []
  have hn := hV.n
  have hm1 : 1 ≤ 2 ^ b.scenes.length := Nat.one_le_two_pow
  have hm2 : 2 ^ b.scenes.length ≤ 2 ^ 10 := Nat.pow_le_pow_right (by omega) hn
  have hs1 := hV.s1; have hs2 := hV.s2
  have hpw := shl_bd hs1 hs2
  refine sy_seq ?_
  refine sy_ops ?_
  refine ops_box hf hh rfl (.inl rfl) rfl ?_; clear hf hh; clear a; intro B1 a w hf hh
  refine ops_v hf hh (yv_assign rfl) (.inl rfl) rfl rfl rfl ?_; clear hf; clear a; intro a hf
  refine ops_v hf hh (yv_assign rfl) (.inl rfl) rfl rfl rfl ?_; clear hf; clear a; intro a hf
  refine ops_v hf hh (yv_assign rfl) (.inl rfl) rfl rfl rfl ?_; clear hf; clear a; intro a hf
  refine ops_v hf hh (yv_assign rfl) (.inl rfl) rfl rfl rfl ?_; clear hf; clear a; intro a hf
  refine ops_end ?_
  refine then_n ?_
  refine sy_seq ?_
  refine sy_ops ?_
  refine ops_v hf hh (yv_loads Tryd.ag_24 rfl (fun _ h => by first | exact h.at (i := 0) rfl | exact h.at (i := 1) rfl | exact h.at (i := 2) rfl | exact h.at (i := 3) rfl) (by first | assumption | rfl)) (.inl rfl) rfl rfl rfl ?_; clear hf; clear a; intro a hf
  refine ops_call hf Tryd.en_35 rfl rfl rfl (.inl rfl) rfl (c35 b sa sc _ (hS.ext hh.ext) hV) ?_; clear hf; clear a; intro v a w hR hf
  obtain ⟨bp, bm, cs, rfl, hcs, hx⟩ := hR; replace hh := hh.join hx; clear hx
  refine ops_v hf hh (yv_move rfl) (.inl rfl) rfl rfl rfl ?_; clear hf; clear a; intro a hf
  refine ops_v hf hh (yv_extract rfl rfl) (.inl rfl) rfl rfl rfl ?_; clear hf; clear a; intro a hf
  refine ops_v hf hh (yv_extract rfl rfl) (.inl rfl) rfl rfl rfl ?_; clear hf; clear a; intro a hf
  refine ops_alloc hf hh Tryd.ze_50 (.inl rfl) rfl ?_; clear hf hh; clear a; intro B6 a w hf hh
  first | refine ops_store (i := 0) hf hh rfl rfl rfl Tryd.sz_50 rfl rfl rfl (.inl rfl) fun w hh => ?_ | refine ops_store (i := 1) hf hh rfl rfl rfl Tryd.sz_50 rfl rfl rfl (.inl rfl) fun w hh => ?_ | refine ops_store (i := 2) hf hh rfl rfl rfl Tryd.sz_50 rfl rfl rfl (.inl rfl) fun w hh => ?_ | refine ops_store (i := 3) hf hh rfl rfl rfl Tryd.sz_50 rfl rfl rfl (.inl rfl) fun w hh => ?_
  refine ops_v hf hh (yv_assign rfl) (.inl rfl) rfl rfl rfl ?_; clear hf; clear a; intro a hf
  refine ops_end ?_
  refine then_n ?_
  refine sy_seq ?_
  refine sy_seq ?_
  refine sy_ops ?_
  refine ops_v hf hh (yv_move rfl) (.inl rfl) rfl rfl rfl ?_; clear hf; clear a; intro a hf
  refine ops_v hf hh (yv_bin rfl rfl rfl) (.inl rfl) rfl rfl rfl ?_; clear hf; clear a; intro a hf
  refine ops_end ?_
  refine then_n ?_
  refine sy_cf hf rfl (by first | assumption | rfl | (simp; done)) ?_
  refine sy_skip ?_
  refine then_n ?_
  refine sy_seq ?_
  have c4 := hcs.c4
  refine sy_ops ?_
  refine ops_v hf hh (yv_makeFunc rfl rfl) (.inl rfl) rfl rfl rfl ?_; clear hf; clear a; intro a hf
  refine ops_v hf hh (yv_assign rfl) (.inl rfl) rfl rfl rfl ?_; clear hf; clear a; intro a hf
  refine ops_end ?_
  refine then_n ?_
  refine sy_seq ?_
  refine sy_seq ?_
  refine sy_ops ?_
  refine ops_v hf hh (yv_move rfl) (.inl rfl) rfl rfl rfl ?_; clear hf; clear a; intro a hf
  refine ops_v hf hh (yv_load Tryd.sc_50 rfl (fun _ h => by first | exact h.at (i := 0) rfl | exact h.at (i := 1) rfl | exact h.at (i := 2) rfl | exact h.at (i := 3) rfl) (by first | rfl | assumption)) (.inl rfl) rfl rfl rfl ?_; clear hf; clear a; intro a hf
  refine ops_call hf Tryd.en_49 rfl rfl rfl (.inl rfl) rfl (c49 b sa sc bp bm _ hV ⟨cs, hh.at (i := 1) rfl, hcs⟩) ?_; clear hf; clear a; intro v a w hR hf
  obtain ⟨rfl, hx⟩ := hR; replace hh := hh.more hx; clear hx
  refine ops_call hf Tryd.en_58 rfl rfl rfl (.inl rfl) rfl (c58 b sa sc bp bm (2 ^ b.scenes.length - 1) B6 0 #[] _ hV (by omega) (mkBarA (i := 1) (j := 2) hh rfl rfl (by omega) hcs hS hT) (hh.at (i := 0) rfl) (by simpa using hh.diff (i := 0) (j := 2) rfl rfl (by omega)) (hh.at (i := 2) rfl) (memo_nil b)) ?_; clear hf; clear a; intro v a w hR hf
  obtain ⟨rfl, es3, cm3, hM3, hx⟩ := hR; replace hh := hh.turn (i := 2) rfl hx.ext (hx.at (i := 0) rfl); clear hx
  refine ops_v hf hh (yv_not rfl) (.inl rfl) rfl rfl rfl ?_; clear hf; clear a; intro a hf
  refine ops_end ?_
  refine then_n ?_
  refine sy_cond hf rfl (fun hg7 => ?_) (fun hg7 => ?_)
  · have hG7 := hg7; try simp only [gS] at hG7
    refine sy_seq ?_
    refine sy_ops ?_
    refine ops_v hf hh (yv_assign rfl) (.inl rfl) rfl rfl rfl ?_; clear hf; clear a; intro a hf
    refine ops_v hf hh (yv_assign rfl) (.inl rfl) rfl rfl rfl ?_; clear hf; clear a; intro a hf
    refine ops_v hf hh (yv_assign rfl) (.inl rfl) rfl rfl rfl ?_; clear hf; clear a; intro a hf
    refine ops_v hf hh (yv_assign rfl) (.inl rfl) rfl rfl rfl ?_; clear hf; clear a; intro a hf
    refine ops_end ?_
    refine then_n ?_
    refine sy_ret ?_
    refine then_r ?_
    refine ret_r hf rfl rfl ?_
    exact ⟨(why_ok (by assumption)).symm, hh.ext⟩
  · have hG7 := hg7; try simp only [gS] at hG7
    refine sy_skip ?_
    refine then_n ?_
    refine sy_seq ?_
    refine sy_seq ?_
    refine sy_ops ?_
    refine ops_v hf hh (yv_load Tryd.sc_50 rfl (fun _ h => by first | exact h.at (i := 0) rfl | exact h.at (i := 1) rfl | exact h.at (i := 2) rfl | exact h.at (i := 3) rfl) (by first | rfl | assumption)) (.inl rfl) rfl rfl rfl ?_; clear hf; clear a; intro a hf
    refine ops_v hf hh (yv_nilCheck rfl) (.inl rfl) rfl rfl rfl ?_; clear hf; clear a; intro a hf
    refine ops_v hf hh (yv_fieldAddr Tryd.fo_90_0 rfl) (.inl rfl) rfl rfl rfl ?_; clear hf; clear a; intro a hf
    refine ops_v hf hh (yv_fieldAddr Tryd.fo_24_4 rfl) (.inl rfl) rfl rfl rfl ?_; clear hf; clear a; intro a hf
    refine ops_v hf hh (yv_load Tryd.sc_22 rfl (fun _ h => by first | exact h.at (i := 0) rfl | exact h.at (i := 1) rfl | exact h.at (i := 2) rfl | exact h.at (i := 3) rfl) (by first | rfl | assumption)) (.inl rfl) rfl rfl rfl ?_; clear hf; clear a; intro a hf
    refine ops_v hf hh (yv_len Tryd.se_22 rfl) (.inl rfl) rfl rfl rfl ?_; clear hf; clear a; intro a hf
    refine ops_v hf hh (yv_move rfl) (.inl rfl) rfl rfl rfl ?_; clear hf; clear a; intro a hf
    refine ops_end ?_
    refine then_n ?_
    refine sy_block ?_
    refine sy_loopH (σ := Nat) [2, 3, 4, 5, 8, 31, 32, 33, 34, 35, 36, 37, 38, 39] (fun k => [(31, .int .i64 k)]) (fun k => fun w' => (k ≤ b.scenes.length ∧ ∀ j, j < k → neverB b (2 ^ j) = false) ∧ ∃ es2 cm2, Memo .u64 .u64 (memF b) es2 ∧ Hp u [] [(B6, .cells #[ptr bp 0] 50), (bp, .cells cs 90), (bm, .map es2 cm2), (B1, .cells #[.int .i64 b.slots, .int .i64 b.pitch, .int .i64 b.broken, .int .i64 b.most, .slice sa b.scenes.length sc] 24)] w') (fun k => b.scenes.length - k) (0) hf ?_ ?_ ?_
    · repeat' (first | exact True.intro | refine And.intro rfl ?_)
    · exact ⟨⟨by omega, fun j hj => absurd hj (Nat.not_lt_zero _)⟩, es3, cm3, hM3, hh⟩
    · rintro k a w ⟨⟨hk, hk2⟩, es2, cm2, hM2, hh⟩ hf
      refine sy_seq ?_
      refine sy_ops ?_
      refine ops_v hf hh (yv_bin rfl rfl rfl) (.inl rfl) rfl rfl rfl ?_; clear hf; clear a; intro a hf
      refine ops_end ?_
      refine then_n ?_
      refine sy_seq ?_
      refine sy_cond hf rfl (fun hg9 => ?_) (fun hg9 => ?_)
      · have hG9 := hg9; try simp only [gS] at hG9
        refine sy_skip ?_
        refine then_n ?_
        refine sy_seq ?_
        refine sy_block ?_
        refine sy_seq ?_
        refine sy_ops ?_
        refine ops_v hf hh (yv_move rfl) (.inl rfl) rfl rfl rfl ?_; clear hf; clear a; intro a hf
        refine ops_v hf hh (yv_assign rfl) (.inl rfl) rfl rfl rfl ?_; clear hf; clear a; intro a hf
        refine ops_end ?_
        refine then_n ?_
        refine sy_seq ?_
        have hpk : 2 ^ k ≤ 2 ^ 10 := Nat.pow_le_pow_right (by omega) (by omega)
        refine sy_ops ?_
        refine ops_v hf hh (yv_move rfl) (.inl rfl) rfl rfl rfl ?_; clear hf; clear a; intro a hf
        refine ops_v hf hh (yv_move rfl) (.inl rfl) rfl rfl rfl ?_; clear hf; clear a; intro a hf
        refine ops_v hf hh (yv_cast (yv_shl1 (.inr rfl) rfl rfl (by omega) (by omega)) (intv (b := ((2 ^ k : Nat) : Int)) rfl)) (.inl rfl) rfl rfl rfl ?_; clear hf; clear a; intro a hf
        refine ops_call hf Tryd.en_58 rfl rfl rfl (.inl rfl) rfl (c58 b sa sc bp bm (2 ^ k) B6 cm2 es2 _ hV (by omega) (mkBarA (i := 1) (j := 2) hh rfl rfl (by omega) hcs hS hT) (hh.at (i := 0) rfl) (by simpa using hh.diff (i := 0) (j := 2) rfl rfl (by omega)) (hh.at (i := 2) rfl) hM2) ?_; clear hf; clear a; intro v a w hR hf
        obtain ⟨rfl, es3, cm3, hM3, hx⟩ := hR; replace hh := hh.turn (i := 2) rfl hx.ext (hx.at (i := 0) rfl); clear hx
        refine ops_end ?_
        refine then_n ?_
        refine sy_cond hf rfl (fun hg12 => ?_) (fun hg12 => ?_)
        · have hG12 := hg12; try simp only [gS] at hG12
          refine sy_seq ?_
          refine sy_ops ?_
          refine ops_v hf hh (yv_move rfl) (.inl rfl) rfl rfl rfl ?_; clear hf; clear a; intro a hf
          refine ops_v hf hh (yv_assign rfl) (.inl rfl) rfl rfl rfl ?_; clear hf; clear a; intro a hf
          refine ops_v hf hh (yv_assign rfl) (.inl rfl) rfl rfl rfl ?_; clear hf; clear a; intro a hf
          refine ops_v hf hh (yv_assign rfl) (.inl rfl) rfl rfl rfl ?_; clear hf; clear a; intro a hf
          refine ops_v hf hh (yv_assign rfl) (.inl rfl) rfl rfl rfl ?_; clear hf; clear a; intro a hf
          refine ops_end ?_
          refine then_n ?_
          refine sy_ret ?_
          refine blk_r ?_
          refine then_r ?_
          refine then_r ?_
          refine blk_r ?_
          refine then_r ?_
          refine ret_r hf rfl rfl ?_
          exact ⟨(why_one (by assumption) (by omega) hk2 (by assumption)).symm, hh.ext⟩
        · have hG12 := hg12; try simp only [gS] at hG12
          refine sy_skip ?_
          refine blk_n ?_
          refine then_n ?_
          refine sy_ops ?_
          first | refine ops_v hf hh (yv_add rfl rfl (by omega) (by omega)) (.inl rfl) rfl rfl rfl ?_; clear hf; clear a; intro a hf | refine ops_v hf hh (yv_bin rfl rfl rfl) (.inl rfl) rfl rfl rfl ?_; clear hf; clear a; intro a hf
          refine ops_v hf hh (yv_move rfl) (.inl rfl) rfl rfl rfl ?_; clear hf; clear a; intro a hf
          refine ops_end ?_
          refine then_n ?_
          refine ⟨k + 1, ⟨⟨⟨by omega, fun j hj => ?_⟩, es3, cm3, hM3, hh⟩, hf.head ⟨rfl, True.intro⟩ (Keep.cons rfl (Keep.cons rfl (Keep.cons rfl (Keep.cons rfl (Keep.cons rfl (Keep.cons rfl (Keep.cons rfl (Keep.cons rfl (Keep.cons rfl (Keep.app rfl (Keep.rm rfl Keep.base)))))))))))⟩, by omega⟩
          by_cases hjk : j = k
          · subst hjk; assumption
          · exact hk2 j (by omega)
      · have hG9 := hg9; try simp only [gS] at hG9
        refine sy_exit ?_
        refine then_e ?_
        refine then_e ?_
        refine blk_e ?_
        refine then_n ?_
        refine sy_seq ?_
        refine sy_seq ?_
        refine sy_ops ?_
        refine ops_v hf hh (yv_load Tryd.sc_50 rfl (fun _ h => by first | exact h.at (i := 0) rfl | exact h.at (i := 1) rfl | exact h.at (i := 2) rfl | exact h.at (i := 3) rfl) (by first | rfl | assumption)) (.inl rfl) rfl rfl rfl ?_; clear hf; clear a; intro a hf
        refine ops_v hf hh (yv_nilCheck rfl) (.inl rfl) rfl rfl rfl ?_; clear hf; clear a; intro a hf
        refine ops_v hf hh (yv_fieldAddr Tryd.fo_90_0 rfl) (.inl rfl) rfl rfl rfl ?_; clear hf; clear a; intro a hf
        refine ops_v hf hh (yv_fieldAddr Tryd.fo_24_4 rfl) (.inl rfl) rfl rfl rfl ?_; clear hf; clear a; intro a hf
        refine ops_v hf hh (yv_load Tryd.sc_22 rfl (fun _ h => by first | exact h.at (i := 0) rfl | exact h.at (i := 1) rfl | exact h.at (i := 2) rfl | exact h.at (i := 3) rfl) (by first | rfl | assumption)) (.inl rfl) rfl rfl rfl ?_; clear hf; clear a; intro a hf
        refine ops_v hf hh (yv_len Tryd.se_22 rfl) (.inl rfl) rfl rfl rfl ?_; clear hf; clear a; intro a hf
        refine ops_v hf hh (yv_move rfl) (.inl rfl) rfl rfl rfl ?_; clear hf; clear a; intro a hf
        refine ops_end ?_
        refine then_n ?_
        refine sy_block ?_
        refine sy_loopH (σ := Nat) [2, 3, 4, 5, 9, 10, 46, 47, 48, 49, 50, 51, 52, 53, 54, 55, 56, 57, 58, 59, 60, 61, 62, 63, 64, 65, 66, 67, 68, 69, 70] (fun i => [(46, .int .i64 i)]) (fun i => fun w' => (i ≤ b.scenes.length ∧ ∀ c ∈ pairsTo b.scenes.length i, neverB b (2 ^ c.1 ||| 2 ^ c.2) = false) ∧ ∃ es2 cm2, Memo .u64 .u64 (memF b) es2 ∧ Hp u [] [(B6, .cells #[ptr bp 0] 50), (bp, .cells cs 90), (bm, .map es2 cm2), (B1, .cells #[.int .i64 b.slots, .int .i64 b.pitch, .int .i64 b.broken, .int .i64 b.most, .slice sa b.scenes.length sc] 24)] w') (fun i => b.scenes.length - i) (0) hf ?_ ?_ ?_
        · repeat' (first | exact True.intro | refine And.intro rfl ?_)
        · exact ⟨⟨by omega, fun c hc => by simp [pairsTo] at hc⟩, es2, cm2, hM2, hh⟩
        · rintro i a w ⟨⟨hi, hi2⟩, es2, cm2, hM2, hh⟩ hf
          refine sy_seq ?_
          refine sy_ops ?_
          refine ops_v hf hh (yv_bin rfl rfl rfl) (.inl rfl) rfl rfl rfl ?_; clear hf; clear a; intro a hf
          refine ops_end ?_
          refine then_n ?_
          refine sy_seq ?_
          refine sy_cond hf rfl (fun hg14 => ?_) (fun hg14 => ?_)
          · have hG14 := hg14; try simp only [gS] at hG14
            refine sy_skip ?_
            refine then_n ?_
            refine sy_seq ?_
            refine sy_block ?_
            refine sy_seq ?_
            refine sy_ops ?_
            refine ops_v hf hh (yv_move rfl) (.inl rfl) rfl rfl rfl ?_; clear hf; clear a; intro a hf
            refine ops_v hf hh (yv_assign rfl) (.inl rfl) rfl rfl rfl ?_; clear hf; clear a; intro a hf
            refine ops_end ?_
            refine then_n ?_
            refine sy_seq ?_
            refine sy_ops ?_
            refine ops_v hf hh (yv_move rfl) (.inl rfl) rfl rfl rfl ?_; clear hf; clear a; intro a hf
            first | refine ops_v hf hh (yv_add rfl rfl (by omega) (by omega)) (.inl rfl) rfl rfl rfl ?_; clear hf; clear a; intro a hf | refine ops_v hf hh (yv_bin rfl rfl rfl) (.inl rfl) rfl rfl rfl ?_; clear hf; clear a; intro a hf
            refine ops_v hf hh (yv_assign rfl) (.inl rfl) rfl rfl rfl ?_; clear hf; clear a; intro a hf
            refine ops_end ?_
            refine then_n ?_
            refine sy_block ?_
            refine sy_loopH (σ := Nat) [2, 3, 4, 5, 10, 51, 52, 53, 54, 55, 56, 57, 58, 59, 60, 61, 62, 63, 64, 65, 66, 67, 68, 69] (fun k2 => [(10, .int .i64 k2)]) (fun k2 => fun w' => (i < k2 ∧ k2 ≤ b.scenes.length ∧ ∀ c ∈ pairsTo b.scenes.length i ++ rowTo i k2, neverB b (2 ^ c.1 ||| 2 ^ c.2) = false) ∧ ∃ es2 cm2, Memo .u64 .u64 (memF b) es2 ∧ Hp u [] [(B6, .cells #[ptr bp 0] 50), (bp, .cells cs 90), (bm, .map es2 cm2), (B1, .cells #[.int .i64 b.slots, .int .i64 b.pitch, .int .i64 b.broken, .int .i64 b.most, .slice sa b.scenes.length sc] 24)] w') (fun k2 => b.scenes.length - k2) (i + 1) hf ?_ ?_ ?_
            · repeat' (first | exact True.intro | refine And.intro rfl ?_)
            · exact ⟨⟨by omega, by omega, fun c hc => by rw [rowTo_start, List.append_nil] at hc; exact hi2 c hc⟩, es2, cm2, hM2, hh⟩
            · rintro k2 a w ⟨⟨hj0, hj1, hj2⟩, es2, cm2, hM2, hh⟩ hf
              refine sy_seq ?_
              refine sy_seq ?_
              refine sy_ops ?_
              refine ops_v hf hh (yv_move rfl) (.inl rfl) rfl rfl rfl ?_; clear hf; clear a; intro a hf
              refine ops_v hf hh (yv_load Tryd.sc_50 rfl (fun _ h => by first | exact h.at (i := 0) rfl | exact h.at (i := 1) rfl | exact h.at (i := 2) rfl | exact h.at (i := 3) rfl) (by first | rfl | assumption)) (.inl rfl) rfl rfl rfl ?_; clear hf; clear a; intro a hf
              refine ops_v hf hh (yv_nilCheck rfl) (.inl rfl) rfl rfl rfl ?_; clear hf; clear a; intro a hf
              refine ops_v hf hh (yv_fieldAddr Tryd.fo_90_0 rfl) (.inl rfl) rfl rfl rfl ?_; clear hf; clear a; intro a hf
              refine ops_v hf hh (yv_fieldAddr Tryd.fo_24_4 rfl) (.inl rfl) rfl rfl rfl ?_; clear hf; clear a; intro a hf
              refine ops_v hf hh (yv_load Tryd.sc_22 rfl (fun _ h => by first | exact h.at (i := 0) rfl | exact h.at (i := 1) rfl | exact h.at (i := 2) rfl | exact h.at (i := 3) rfl) (by first | rfl | assumption)) (.inl rfl) rfl rfl rfl ?_; clear hf; clear a; intro a hf
              refine ops_v hf hh (yv_len Tryd.se_22 rfl) (.inl rfl) rfl rfl rfl ?_; clear hf; clear a; intro a hf
              refine ops_v hf hh (yv_bin rfl rfl rfl) (.inl rfl) rfl rfl rfl ?_; clear hf; clear a; intro a hf
              refine ops_end ?_
              refine then_n ?_
              refine sy_cond hf rfl (fun hg16 => ?_) (fun hg16 => ?_)
              · have hG16 := hg16; try simp only [gS] at hG16
                refine sy_skip ?_
                refine then_n ?_
                refine sy_seq ?_
                refine sy_block ?_
                refine sy_seq ?_
                have hpi : 2 ^ i ≤ 2 ^ 10 := Nat.pow_le_pow_right (by omega) (by omega)
                have hpk : 2 ^ k2 ≤ 2 ^ 10 := Nat.pow_le_pow_right (by omega) (by omega)
                have hpo := @Nat.or_lt_two_pow (2 ^ i) (2 ^ k2) 16 (by omega) (by omega)
                have hrs := rowTo_step i k2 (by omega)
                refine sy_tail (C := Hp _ _ _) 6 Tryd.follows (by kernel_rfl) rfl rfl (hh.drawn _) ?_
                refine q_v hf (yv_move rfl) (.inl rfl) rfl rfl ?_; clear hf; clear a; intro a hf
                refine q_v hf (yv_move rfl) (.inl rfl) rfl rfl ?_; clear hf; clear a; intro a hf
                refine q_v hf (yv_cast (yv_shl1 (.inr rfl) rfl rfl (by omega) (by omega)) (intv (b := ((2 ^ i : Nat) : Int)) rfl)) (.inl rfl) rfl rfl ?_; clear hf; clear a; intro a hf
                refine q_v hf (yv_move rfl) (.inl rfl) rfl rfl ?_; clear hf; clear a; intro a hf
                refine q_v hf (yv_cast (yv_shl1 (.inr rfl) rfl rfl (by omega) (by omega)) (intv (b := ((2 ^ k2 : Nat) : Int)) rfl)) (.inl rfl) rfl rfl ?_; clear hf; clear a; intro a hf
                refine q_v hf (yv_cast (yv_or (.inr rfl) rfl rfl (Int.natCast_nonneg _) (by simp only [IntKind.top]; omega) (Int.natCast_nonneg _) (by simp only [IntKind.top]; omega)) (intv (b := ((2 ^ i ||| 2 ^ k2 : Nat) : Int)) rfl)) (.inl rfl) rfl rfl ?_; clear hf; clear a; intro a hf
                refine q_end fun w hh => ?_
                refine ops_call hf Tryd.en_58 rfl rfl rfl (.inl rfl) rfl (c58 b sa sc bp bm (2 ^ i ||| 2 ^ k2) B6 cm2 es2 _ hV (by omega) (mkBarA (i := 1) (j := 2) hh rfl rfl (by omega) hcs hS hT) (hh.at (i := 0) rfl) (by simpa using hh.diff (i := 0) (j := 2) rfl rfl (by omega)) (hh.at (i := 2) rfl) hM2) ?_; clear hf; clear a; intro v a w hR hf
                obtain ⟨rfl, es3, cm3, hM3, hx⟩ := hR; replace hh := hh.turn (i := 2) rfl hx.ext (hx.at (i := 0) rfl); clear hx
                refine ops_end ?_
                refine then_n ?_
                refine sy_cond hf rfl (fun hg21 => ?_) (fun hg21 => ?_)
                · have hG21 := hg21; try simp only [gS] at hG21
                  refine sy_seq ?_
                  refine sy_ops ?_
                  refine ops_v hf hh (yv_move rfl) (.inl rfl) rfl rfl rfl ?_; clear hf; clear a; intro a hf
                  refine ops_v hf hh (yv_move rfl) (.inl rfl) rfl rfl rfl ?_; clear hf; clear a; intro a hf
                  refine ops_v hf hh (yv_assign rfl) (.inl rfl) rfl rfl rfl ?_; clear hf; clear a; intro a hf
                  refine ops_v hf hh (yv_assign rfl) (.inl rfl) rfl rfl rfl ?_; clear hf; clear a; intro a hf
                  refine ops_v hf hh (yv_assign rfl) (.inl rfl) rfl rfl rfl ?_; clear hf; clear a; intro a hf
                  refine ops_v hf hh (yv_assign rfl) (.inl rfl) rfl rfl rfl ?_; clear hf; clear a; intro a hf
                  refine ops_end ?_
                  refine then_n ?_
                  refine sy_ret ?_
                  refine blk_r ?_
                  refine then_r ?_
                  refine then_r ?_
                  refine blk_r ?_
                  refine blk_r ?_
                  refine then_r ?_
                  refine then_r ?_
                  refine blk_r ?_
                  refine then_r ?_
                  refine ret_r hf rfl rfl ?_
                  exact ⟨(why_two (by assumption) (oneB_none hk2 (by omega)) hj0 (by omega) hj2 (by assumption)).symm, hh.ext⟩
                · have hG21 := hg21; try simp only [gS] at hG21
                  refine sy_skip ?_
                  refine blk_n ?_
                  refine then_n ?_
                  refine sy_ops ?_
                  refine ops_v hf hh (yv_move rfl) (.inl rfl) rfl rfl rfl ?_; clear hf; clear a; intro a hf
                  first | refine ops_v hf hh (yv_add rfl rfl (by omega) (by omega)) (.inl rfl) rfl rfl rfl ?_; clear hf; clear a; intro a hf | refine ops_v hf hh (yv_bin rfl rfl rfl) (.inl rfl) rfl rfl rfl ?_; clear hf; clear a; intro a hf
                  refine ops_v hf hh (yv_assign rfl) (.inl rfl) rfl rfl rfl ?_; clear hf; clear a; intro a hf
                  refine ops_end ?_
                  refine then_n ?_
                  refine ⟨k2 + 1, ⟨⟨⟨by omega, by omega, fun c hc => ?_⟩, es3, cm3, hM3, hh⟩, hf.head ⟨rfl, True.intro⟩ (Keep.cons rfl (Keep.cons rfl (Keep.cons rfl (Keep.cons rfl (Keep.cons rfl (Keep.cons rfl (Keep.cons rfl (Keep.cons rfl (Keep.cons rfl (Keep.cons rfl (Keep.cons rfl (Keep.cons rfl (Keep.cons rfl (Keep.cons rfl (Keep.cons rfl (Keep.cons rfl (Keep.cons rfl (Keep.cons rfl (Keep.app rfl (Keep.rm rfl Keep.base))))))))))))))))))))⟩, by omega⟩
                  rw [hrs, ← List.append_assoc] at hc
                  rcases List.mem_append.1 hc with hc | hc
                  · exact hj2 c hc
                  · simp at hc; subst hc; assumption
              · have hG16 := hg16; try simp only [gS] at hG16
                refine sy_exit ?_
                refine then_e ?_
                refine then_e ?_
                refine blk_e ?_
                refine blk_n ?_
                refine then_n ?_
                refine sy_ops ?_
                first | refine ops_v hf hh (yv_add rfl rfl (by omega) (by omega)) (.inl rfl) rfl rfl rfl ?_; clear hf; clear a; intro a hf | refine ops_v hf hh (yv_bin rfl rfl rfl) (.inl rfl) rfl rfl rfl ?_; clear hf; clear a; intro a hf
                refine ops_v hf hh (yv_move rfl) (.inl rfl) rfl rfl rfl ?_; clear hf; clear a; intro a hf
                refine ops_end ?_
                refine then_n ?_
                have hkk : k2 = b.scenes.length := by omega
                subst hkk
                refine ⟨i + 1, ⟨⟨⟨by omega, fun c hc => ?_⟩, es2, cm2, hM2, hh⟩, hf.head ⟨rfl, True.intro⟩ (Keep.cons rfl (Keep.cons rfl (Keep.cons rfl (Keep.cons rfl (Keep.cons rfl (Keep.cons rfl (Keep.cons rfl (Keep.cons rfl (Keep.cons rfl (Keep.cons rfl (Keep.app rfl (Keep.rm rfl (Keep.cons rfl (Keep.cons rfl (Keep.cons rfl (Keep.cons rfl (Keep.cons rfl (Keep.cons rfl (Keep.app rfl (Keep.rm rfl Keep.base))))))))))))))))))))⟩, by omega⟩
                rw [pairsTo_step] at hc
                exact hj2 c hc
          · have hG14 := hg14; try simp only [gS] at hG14
            refine sy_exit ?_
            refine then_e ?_
            refine then_e ?_
            refine blk_e ?_
            refine then_n ?_
            refine sy_seq ?_
            refine sy_ops ?_
            refine ops_v hf hh (yv_assign rfl) (.inl rfl) rfl rfl rfl ?_; clear hf; clear a; intro a hf
            refine ops_v hf hh (yv_assign rfl) (.inl rfl) rfl rfl rfl ?_; clear hf; clear a; intro a hf
            refine ops_v hf hh (yv_assign rfl) (.inl rfl) rfl rfl rfl ?_; clear hf; clear a; intro a hf
            refine ops_v hf hh (yv_assign rfl) (.inl rfl) rfl rfl rfl ?_; clear hf; clear a; intro a hf
            refine ops_end ?_
            refine then_n ?_
            refine sy_ret ?_
            refine ret_r hf rfl rfl ?_
            have hii : i = b.scenes.length := by omega
            subst hii
            exact ⟨(why_all (by assumption) (oneB_none hk2 (by omega)) hi2).symm, hh.ext⟩
end Go.Proofs.YtkolcbjghphjeaaDoor
