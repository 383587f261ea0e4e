/- The program's collecting of pairs, walked. -/
import Derived.Test.YtkolcbjghphjeaaDoorB11
namespace Go.Proofs.YtkolcbjghphjeaaDoor
open Go Go.Sy Go.BarM
/-- The cells of pairs of slots. -/
def encL (L : List (Nat × Nat × Nat)) : List Value := L.flatMap fun x => [.int .i64 x.1, .int .i64 x.2.1, .int .i64 x.2.2]
theorem encL_len : ∀ L, (encL L).length = L.length * 3
  | [] => rfl
  | x :: L => by have := encL_len L; unfold encL at *; rw [List.flatMap_cons, List.length_append, this]; simp; omega
theorem encL_take {L : List (Nat × Nat × Nat)} {k : Nat} {y : Nat × Nat × Nat} (h : L[k]? = some y) : encL (L.take (k + 1)) = encL (L.take k) ++ [.int .i64 y.1, .int .i64 y.2.1, .int .i64 y.2.2] := by
  unfold encL; rw [List.take_add_one, h, List.flatMap_append]; rfl
theorem encL_get : ∀ (L : List (Nat × Nat × Nat)) (k j : Nat) (y : Nat × Nat × Nat), L[k]? = some y → j < 3 → (encL L)[k * 3 + j]? = [Value.int .i64 y.1, .int .i64 y.2.1, .int .i64 y.2.2][j]?
  | [], k, j, y, h, _ => by simp at h
  | x :: L, 0, j, y, h, hj => by
    simp at h; subst h
    unfold encL; rw [List.flatMap_cons, Nat.zero_mul, Nat.zero_add, List.getElem?_append_left (by simpa using hj)]
  | x :: L, k + 1, j, y, h, hj => by
    have ih := encL_get L k j y (by simpa using h) hj
    unfold encL at *
    rw [List.flatMap_cons, List.getElem?_append_right (by simp; omega), ← ih]
    congr 1; simp; omega
theorem OwnSl.form {e size m : Nat} {v : Value} {xs : List Value} {X : List (Nat × Obj)} (h : OwnSl e size v m xs X) : ∃ oa cap, v = .slice oa m cap := by
  rcases h.2 with ⟨rfl, rfl, _⟩ | ⟨B, cap, _, rfl, _⟩
  · exact ⟨none, 0, rfl⟩
  · exact ⟨_, cap, rfl⟩
theorem pairsP_len {b : BarD} {p : Nat} {s : Scn} (hV : Valid b) (hO : OkS s) : (pairsP b p s).length ≤ 16 * 16 := by
  have h1 := hiS_bd hV hO; have h2 := loS_bd hV hO; have hs2 := hV.s2
  unfold pairsP restD
  have h := flat_len (n := 16) (f := rowD p s) (List.range' (loS b s).toNat ((hiS b s).toNat + 1 - (loS b s).toNat)) (fun d _ => by
    unfold rowD bitsOf
    refine Nat.le_trans (List.length_filterMap_le _ _) (Nat.le_trans (List.length_filter_le _ _) (by simp)))
  rw [List.length_range'] at h
  exact Nat.le_trans h (Nat.mul_le_mul_right _ (by omega))
theorem MemP.ext {b : BarD} {sa : Option Addr} {sc bp bm p i B1 B2 B3 : Nat} {w w' : World} (h : MemP b sa sc bp bm p i B1 B2 B3 w) (e : Ext [] w w') : MemP b sa sc bp bm p i B1 B2 B3 w' :=
  ⟨e.get h.1, e.get h.2.1, e.get h.2.2.1, h.2.2.2.1.ext e (by simp), h.2.2.2.2.1.ext e, h.2.2.2.2.2.ext e (by simp)⟩
theorem tw_of {L : List (Nat × Nat × Nat)} {j : Nat} {x : Array Value} (h : (L.map tw)[j]? = some x) : ∃ y, L[j]? = some y ∧ x = tw y := by
  rw [List.getElem?_map] at h
  cases hy : L[j]? with
  | none => rw [hy] at h; cases h
  | some y => rw [hy] at h; exact ⟨y, rfl, (Option.some.inj h).symm⟩
theorem c61 (b : BarD) (sa : Option Addr) (sc bp bm p i Ba Bi Bp : Nat) (s : Scn) (u : World) (hV : Valid b) (hs : b.scenes[i]? = some s) (hp : p < 65536) (hMem : MemP b sa sc bp bm p i Ba Bi Bp u) : Calls Tryd.prog 61 #[.slice none 0 0, .func (.func 62) #[] #[ptr Ba 0, ptr Bi 0, ptr Bp 0]] u (Ret fun v w' => ∃ X, OwnSl 62 3 v (pairsP b p s).length (encL (pairsP b p s)) X ∧ Hp u [] X w') := by
  refine calls_ofM Tryd.func61 rfl rfl (fun a hf => ?_)
  have hh := Hp.init u []
  have hO := hV.sc s (List.mem_of_getElem? hs)
  have hpl := pairsP_len (p := p) hV hO
  refine sy_seq ?_
  refine sy_ops ?_
  refine ops_box hf hh rfl (.inl rfl) rfl ?_; clear hf hh; clear a; intro B2 a w hf hh
  refine ops_v hf hh (yv_assign rfl) (.inl rfl) rfl rfl rfl ?_; clear hf; clear a; intro a hf
  refine ops_end ?_
  refine then_n ?_
  refine sy_seq ?_
  refine sy_seq ?_
  refine sy_ops ?_
  refine ops_v hf hh (yv_move rfl) (.inl rfl) rfl rfl rfl ?_; clear hf; clear a; intro a hf
  refine ops_end ?_
  refine then_n ?_
  refine sy_block ?_
  refine sy_range (I := fun k H => ∃ v X, OwnSl 62 3 v k (encL ((pairsP b p s).take k)) X ∧ H = (B2, .cells #[v] 59) :: X) (X := fun _ _ _ => False) hf hh Tryd.en_62 rfl (it62 b sa sc bp bm p i Ba Bi Bp s hV hs hp) rfl (by intro x hx; obtain ⟨y, _, rfl⟩ := List.mem_map.1 hx; rfl) ?_ ?_ ?_ ?_ ?_
  · exact ⟨.slice none 0 0, [], OwnSl.nil _ _, rfl⟩
  · rintro _ _ l D o w ⟨_, _, _, rfl⟩ h
    exact hMem.ext h.ext
  · rintro k x fn D l H w a tm hx ⟨v, X, hown, rfl⟩ hh hf
    obtain ⟨y, hy1, rfl⟩ := tw_of hx
    have hkl := (List.getElem?_eq_some_iff.1 hy1).1
    refine sy_ops ?_
    refine ops_alloc hf hh Tryd.ze_62 (.inl rfl) rfl ?_; clear hf hh; clear a; intro B5 a w hf hh
    first | refine ops_store (i := 0) hf hh rfl rfl rfl Tryd.sz_62 rfl rfl rfl (.inl rfl) fun w hh => ?_ | refine ops_store (i := 1) hf hh rfl rfl rfl Tryd.sz_62 rfl rfl rfl (.inl rfl) fun w hh => ?_ | refine ops_store (i := 2) hf hh rfl rfl rfl Tryd.sz_62 rfl rfl rfl (.inl rfl) fun w hh => ?_ | refine ops_store (i := 3) hf hh rfl rfl rfl Tryd.sz_62 rfl rfl rfl (.inl rfl) fun w hh => ?_ | refine ops_store (i := 4) hf hh rfl rfl rfl Tryd.sz_62 rfl rfl rfl (.inl rfl) fun w hh => ?_ | refine ops_store (i := 5) hf hh rfl rfl rfl Tryd.sz_62 rfl rfl rfl (.inl rfl) fun w hh => ?_
    refine ops_end ?_
    refine then_n (Go.Sy.begun (i := 1) hh rfl fun w hh => ?_)
    refine sy_block ?_
    refine sy_ops ?_
    refine ops_v hf hh (yv_load Tryd.sc_59 rfl (fun _ h => by first | exact h.at (i := 0) rfl | exact h.at (i := 1) rfl | exact h.at (i := 2) rfl | exact h.at (i := 3) rfl | exact h.at (i := 4) rfl | exact h.at (i := 5) rfl) (by first | rfl | assumption)) (.inl rfl) rfl rfl rfl ?_; clear hf; clear a; intro a hf
    refine ops_v hf hh (yv_loads Tryd.ag_62 rfl (fun _ h => by first | exact h.at (i := 0) rfl | exact h.at (i := 1) rfl | exact h.at (i := 2) rfl | exact h.at (i := 3) rfl | exact h.at (i := 4) rfl | exact h.at (i := 5) rfl) (by first | assumption | rfl)) (.inl rfl) rfl rfl rfl ?_; clear hf; clear a; intro a hf
    refine ops_buildSl hf hh Tryd.bl_59_1 rfl rfl (.inl rfl) rfl ?_; clear hf hh; clear a; intro B10 a w hf hh
    replace hh := hh.perm (H' := (B10, .cells #[.int .i64 y.1, .int .i64 y.2.1, .int .i64 y.2.2] 62) :: (X ++ [_, _, _, _])) (List.Perm.cons _ (List.perm_append_comm (l₁ := [_, _, _, _])))
    refine ops_append (e := 62) (size := 3) (xs := encL ((pairsP b p s).take k)) hf hh Tryd.eb_59 rfl rfl hown rfl rfl rfl (by simp only [maxLen]; omega) (by omega) (.inl rfl) rfl ?_; clear hf hh; clear a; intro v2 X2 a w hown2 hf hh
    replace hh := hh.perm (H' := [_, _, _, _] ++ X2) List.perm_append_comm
    obtain ⟨oa2, cap2, rfl⟩ := OwnSl.form hown2
    first | refine ops_store (i := 0) hf hh rfl rfl rfl Tryd.sz_59 rfl rfl rfl (.inl rfl) fun w hh => ?_ | refine ops_store (i := 1) hf hh rfl rfl rfl Tryd.sz_59 rfl rfl rfl (.inl rfl) fun w hh => ?_ | refine ops_store (i := 2) hf hh rfl rfl rfl Tryd.sz_59 rfl rfl rfl (.inl rfl) fun w hh => ?_ | refine ops_store (i := 3) hf hh rfl rfl rfl Tryd.sz_59 rfl rfl rfl (.inl rfl) fun w hh => ?_ | refine ops_store (i := 4) hf hh rfl rfl rfl Tryd.sz_59 rfl rfl rfl (.inl rfl) fun w hh => ?_ | refine ops_store (i := 5) hf hh rfl rfl rfl Tryd.sz_59 rfl rfl rfl (.inl rfl) fun w hh => ?_
    refine ops_end ?_
    refine blk_n ?_
    rw [← encL_take hy1] at hown2
    exact ⟨_, ⟨_, X2, hown2, rfl⟩, hh.less (.cons _ (.refl _))⟩
  · rintro D H a w ⟨v, X, hown, rfl⟩ hf hh
    rw [List.length_map, List.take_length] at hown
    refine blk_n ?_
    refine then_n ?_
    refine sy_seq ?_
    refine sy_ops ?_
    refine ops_v hf hh (yv_load Tryd.sc_59 rfl (fun _ h => by first | exact h.at (i := 0) rfl | exact h.at (i := 1) rfl | exact h.at (i := 2) rfl | exact h.at (i := 3) rfl | exact h.at (i := 4) rfl | exact h.at (i := 5) rfl) (by first | rfl | assumption)) (.inl rfl) rfl rfl rfl ?_; clear hf; clear a; intro a hf
    refine ops_v hf hh (yv_assign rfl) (.inl rfl) rfl rfl rfl ?_; clear hf; clear a; intro a hf
    refine ops_end ?_
    refine then_n ?_
    refine sy_ret ?_
    refine ret_m (Ds := [D]) (H := (B2, .cells #[v] 59) :: X) hf hh fun w' hh => ?_
    exact ⟨[v], ⟨rfl, True.intro⟩, X, hown, hh.less (.cons _ (.refl _))⟩
  · rintro k c D H a w hX hf hh
    exact hX.elim
theorem c41 (b : BarD) (sa : Option Addr) (sc bp bm p i Ba Bi Bp : Nat) (s : Scn) (u : World) (hV : Valid b) (hs : b.scenes[i]? = some s) (hp : p < 65536) (hMem : MemP b sa sc bp bm p i Ba Bi Bp u) : Calls Tryd.prog 41 #[.func (.func 62) #[] #[ptr Ba 0, ptr Bi 0, ptr Bp 0]] u (Ret fun v w' => ∃ X, OwnSl 62 3 v (pairsP b p s).length (encL (pairsP b p s)) X ∧ Hp u [] X w') := by
  refine calls_of Tryd.func41 rfl rfl (fun a hf => ?_)
  have hh := Hp.init u []
  refine sy_seq ?_
  refine sy_ops ?_
  refine ops_v hf hh (yv_assign rfl) (.inl rfl) rfl rfl rfl ?_; clear hf; clear a; intro a hf
  refine ops_end ?_
  refine then_n ?_
  refine sy_seq ?_
  refine sy_ops ?_
  refine ops_v hf hh (yv_move rfl) (.inl rfl) rfl rfl rfl ?_; clear hf; clear a; intro a hf
  refine ops_call hf Tryd.en_61 rfl rfl rfl (.inl rfl) rfl (c61 b sa sc bp bm p i Ba Bi Bp s _ hV hs hp (hMem.ext hh.ext)) ?_; clear hf; clear a; intro v a w hR hf
  obtain ⟨X, hown, hx⟩ := hR; replace hh := hh.join hx; clear hx
  refine ops_v hf hh (yv_assign rfl) (.inl rfl) rfl rfl rfl ?_; clear hf; clear a; intro a hf
  refine ops_end ?_
  refine then_n ?_
  refine sy_ret ?_
  refine ret_r hf rfl rfl ?_
  exact ⟨X, hown, by simpa using hh⟩
end Go.Proofs.YtkolcbjghphjeaaDoor
