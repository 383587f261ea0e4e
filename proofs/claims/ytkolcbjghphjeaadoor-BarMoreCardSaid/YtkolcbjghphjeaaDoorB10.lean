/- The program's Taken and Fewest, walked. -/
import Derived.Test.YtkolcbjghphjeaaDoorB9
namespace Go.Proofs.YtkolcbjghphjeaaDoor
open Go Go.Sy Go.BarM
theorem findq_none {L : List Nat} {f : Nat → Bool} (h : ∀ j p, j < L.length → L[j]? = some p → f p = false) : L.find? f = none := by
  rw [List.find?_eq_none]
  intro x hx
  obtain ⟨j, hj⟩ := List.getElem?_of_mem hx
  rw [h j x (List.getElem?_eq_some_iff.1 hj).1 hj]; simp
theorem findq_at {L : List Nat} {f : Nat → Bool} {k p : Nat} (hk : L[k]? = some p) (hp : f p = true) (h : ∀ j q, j < k → L[j]? = some q → f q = false) : L.find? f = some p := by
  obtain ⟨hl, he⟩ := List.getElem?_eq_some_iff.1 hk
  rw [List.find?_eq_some_iff_getElem]
  refine ⟨hp, k, hl, he, fun j hj => ?_⟩
  rw [h j (L[j]'(by omega)) hj (by simp)]; rfl
theorem sc4 : scalB Tryd.prog 4 = true := by kernel_rfl
/-- The first plan that takes all scenes of a set. -/
def firstP (b : BarD) (set : Nat) : Option Nat := (plansL b).find? (takesB b set)
theorem pl_lt {b : BarD} (hV : Valid b) {j y : Nat} (h : (plansL b)[j]? = some y) : y < 2 ^ b.slots.toNat := ((isPlan_land b y).1 ((mem_plansL hV).1 (List.mem_of_getElem? h))).1
theorem tq_of {L : List Nat} {j : Nat} {x : Array Value} (h : (L.map tq)[j]? = some x) : ∃ y, L[j]? = some y ∧ x = tq y := by
  rw [List.getElem?_map] at h
  cases hy : L[j]? with
  | none => rw [hy] at h; cases h
  | some y => rw [hy] at h; exact ⟨y, rfl, (Option.some.inj h).symm⟩
end Go.Proofs.YtkolcbjghphjeaaDoor
namespace Go.Sy
open Go Go.Proofs.YtkolcbjghphjeaaDoor
theorem Hp.newer {u w : World} {H : List (Nat × Obj)} {i b c : Nat} {o o' : Obj} (h : Hp u [] H w) (hi : H[i]? = some (b, o)) (hc : u.heap[c]? = some o') : c ≠ b := by
  have h1 := h.mine _ (List.mem_of_getElem? hi)
  have h2 := (Array.getElem?_eq_some_iff.1 hc).1
  rintro rfl
  rcases h1 with h1 | h1
  · exact absurd h2 (by show ¬ c < _; exact Nat.not_lt.2 h1)
  · simp at h1
end Go.Sy
namespace Go.Proofs.YtkolcbjghphjeaaDoor
open Go Go.Sy Go.BarM
end Go.Proofs.YtkolcbjghphjeaaDoor
namespace Go.Sy
open Go Go.Proofs.YtkolcbjghphjeaaDoor
theorem Hp.diff {u w : World} {M : List Nat} {H : List (Nat × Obj)} {i j b c : Nat} {o o' : Obj} (h : Hp u M H w) (hi : H[i]? = some (b, o)) (hj : H[j]? = some (c, o')) (hij : i ≠ j) : b ≠ c := by
  rintro rfl
  have hn := h.nodup
  have e1 : (H.map Prod.fst)[i]? = some b := by rw [List.getElem?_map, hi]; rfl
  have e2 : (H.map Prod.fst)[j]? = some b := by rw [List.getElem?_map, hj]; rfl
  obtain ⟨l1, f1⟩ := List.getElem?_eq_some_iff.1 e1
  obtain ⟨l2, f2⟩ := List.getElem?_eq_some_iff.1 e2
  rcases Nat.lt_or_gt_of_ne hij with hlt | hlt
  · exact (List.pairwise_iff_getElem.1 hn i j l1 l2 hlt) (f1.trans f2.symm)
  · exact (List.pairwise_iff_getElem.1 hn j i l2 l1 hlt) (f2.trans f1.symm)
end Go.Sy
namespace Go.Proofs.YtkolcbjghphjeaaDoor
open Go Go.Sy Go.BarM
theorem mkBarA {u w : World} {H : List (Nat × Obj)} {b : BarD} {sa : Option Addr} {sc bp bm i j cm : Nat} {cs : Array Value} {es : Array MapEntry} (hh : Hp u [] H w) (hi : H[i]? = some (bp, .cells cs 90 (0, 0))) (hj : H[j]? = some (bm, .map es cm)) (hij : i ≠ j)
    (hcs : BarC b sa sc bm b.scenes.length cs) (hS : ScAt u sa b.scenes) (hT : GTab u) : BarA w b sa sc bp bm :=
  ⟨⟨cs, hh.at hi, hcs⟩, hS.ext hh.ext, hT.ext hh.ext (by simp), hh.diff hi hj hij, by obtain ⟨c, T, fr, h1, _⟩ := hT; exact hh.newer hj h1,
    fun k s hs a ha => by obtain ⟨blk, off, c, T, fr, e, h1, _⟩ := hS k s hs; rw [e] at ha; cases ha; exact hh.newer hj h1⟩
theorem memo_nil (b : BarD) : Memo .u64 .u64 (memF b) #[] := by intro e he; simp at he
theorem c46 (b : BarD) (sa : Option Addr) (sc bp bm set Bq Bs Bb cm : Nat) (es : Array MapEntry) (u : World) (hV : Valid b) (hset : set ≤ 65536) (hC : TakC u b sa sc bp bm set Bs Bb) (hq : u.heap[Bq]? = some (.cells #[ptr bp 0] 50 (0, 0))) (hnq : Bq ∉ [bm])
    (hm : u.heap[bm]? = some (.map es cm)) (hM : Memo .u64 .u64 (memF b) es) : Calls Tryd.prog 46 #[.func (.func 69) #[] #[ptr Bq 0], .func (.func 70) #[] #[ptr Bs 0, ptr Bb 0]] u
    (Ret fun v w' => v = .tuple #[.int .u64 ((firstP b set).getD 0 : Nat), .bool (firstP b set).isSome] ∧ ∃ es' c', Memo .u64 .u64 (memF b) es' ∧ Hp u [bm] [(bm, .map es' c')] w') := by
  refine calls_ofM Tryd.func46 rfl rfl (fun a hf => ?_)
  have hh := Hp.init1 hm
  refine sy_seq ?_
  refine sy_ops ?_
  refine ops_box hf hh rfl (.inl rfl) rfl ?_; clear hf hh; clear a; intro B3 a w hf hh
  refine ops_alloc hf hh Tryd.ze_56 (.inl rfl) rfl ?_; clear hf hh; clear a; intro B4 a w hf hh
  refine ops_alloc hf hh Tryd.ze_4 (.inl rfl) rfl ?_; clear hf hh; clear a; intro B5 a w hf hh
  refine ops_end ?_
  refine then_n ?_
  refine sy_seq ?_
  refine sy_seq ?_
  refine sy_ops ?_
  refine ops_v hf hh (yv_move rfl) (.inl rfl) rfl rfl rfl ?_; clear hf; clear a; intro a hf
  refine ops_end ?_
  refine then_n ?_
  refine sy_block ?_
  refine sy_range (I := fun k H => (∀ j p, j < k → (plansL b)[j]? = some p → takesB b set p = false) ∧ ∃ es2 cm2, Memo .u64 .u64 (memF b) es2 ∧ H = (B5, .cells #[.bool false] 4) :: (B4, .cells #[.int .u64 (0 : Nat)] 56) :: (B3, .cells #[.func (.func 70) #[] #[ptr Bs 0, ptr Bb 0]] 74) :: (bm, .map es2 cm2) :: []) (X := fun k c H => c = .ret ∧ ∃ p es2 cm2, (plansL b)[k]? = some p ∧ takesB b set p = true ∧ (∀ j p, j < k → (plansL b)[j]? = some p → takesB b set p = false) ∧ Memo .u64 .u64 (memF b) es2 ∧ H = (B5, .cells #[.bool true] 4) :: (B4, .cells #[.int .u64 (p : Nat)] 56) :: (B3, .cells #[.func (.func 70) #[] #[ptr Bs 0, ptr Bb 0]] 74) :: (bm, .map es2 cm2) :: []) hf hh Tryd.en_69 rfl (it69 b sa sc bp bm Bq hV) rfl (by intro x hx; obtain ⟨y, _, rfl⟩ := List.mem_map.1 hx; rfl) ?_ ?_ ?_ ?_ ?_
  · exact ⟨fun j p hj => absurd hj (Nat.not_lt_zero _), es, cm, hM, rfl⟩
  · rintro _ _ l D o w ⟨_, es2, cm2, _, rfl⟩ h
    exact ⟨h.oldM hq hnq, (hC.ba.ext h.ext (by simp)).bo⟩
  · rintro k x fn D l H w a tm hx ⟨hI, es2, cm2, hM2, rfl⟩ hh hf
    obtain ⟨y, hy1, rfl⟩ := tq_of hx
    refine sy_ops ?_
    refine ops_v hf hh (yv_assign rfl) (.inl rfl) rfl rfl rfl ?_; clear hf; clear a; intro a hf
    refine ops_end ?_
    refine then_n (Go.Sy.begun (i := 0) hh rfl fun w hh => ?_)
    refine sy_block ?_
    refine sy_seq ?_
    refine sy_ops ?_
    refine ops_v hf hh (yv_load Tryd.sc_74 rfl (fun _ h => by first | exact h.at (i := 0) rfl | exact h.at (i := 1) rfl | exact h.at (i := 2) rfl | exact h.at (i := 3) rfl | exact h.at (i := 4) rfl | exact h.at (i := 5) rfl | exact h.at (i := 6) rfl) (by first | rfl | assumption)) (.inl rfl) rfl rfl rfl ?_; clear hf; clear a; intro a hf
    refine ops_v hf hh (yv_move rfl) (.inl rfl) rfl rfl rfl ?_; clear hf; clear a; intro a hf
    refine ops_call hf Tryd.en_70 rfl rfl rfl (.inl rfl) rfl (c70 b sa sc bp bm set Bs Bb y cm2 es2 _ hV (pl_lt hV hy1) hset (hC.ext hh.ext) (hh.at (i := 5) rfl) hM2) ?_; clear hf; clear a; intro v a w hR hf
    obtain ⟨rfl, es3, cm3, hM3, hx2⟩ := hR; replace hh := hh.turn (i := 5) rfl hx2.ext (hx2.at (i := 0) rfl); clear hx2
    refine ops_end ?_
    refine then_n ?_
    refine sy_cond hf rfl (fun hg3 => ?_) (fun hg3 => ?_)
    · have hG3 := hg3; try simp only [gS] at hG3
      refine sy_seq ?_
      refine sy_ops ?_
      refine ops_v hf hh (yv_move rfl) (.inl rfl) rfl rfl rfl ?_; clear hf; clear a; intro a hf
      first | refine ops_store (i := 0) hf hh rfl rfl rfl Tryd.sz_56 rfl rfl rfl (.inl rfl) fun w hh => ?_ | refine ops_store (i := 1) hf hh rfl rfl rfl Tryd.sz_56 rfl rfl rfl (.inl rfl) fun w hh => ?_ | refine ops_store (i := 2) hf hh rfl rfl rfl Tryd.sz_56 rfl rfl rfl (.inl rfl) fun w hh => ?_ | refine ops_store (i := 3) hf hh rfl rfl rfl Tryd.sz_56 rfl rfl rfl (.inl rfl) fun w hh => ?_ | refine ops_store (i := 4) hf hh rfl rfl rfl Tryd.sz_56 rfl rfl rfl (.inl rfl) fun w hh => ?_ | refine ops_store (i := 5) hf hh rfl rfl rfl Tryd.sz_56 rfl rfl rfl (.inl rfl) fun w hh => ?_ | refine ops_store (i := 6) hf hh rfl rfl rfl Tryd.sz_56 rfl rfl rfl (.inl rfl) fun w hh => ?_
      first | refine ops_store (i := 0) hf hh rfl rfl rfl Tryd.sz_4 rfl rfl rfl (.inl rfl) fun w hh => ?_ | refine ops_store (i := 1) hf hh rfl rfl rfl Tryd.sz_4 rfl rfl rfl (.inl rfl) fun w hh => ?_ | refine ops_store (i := 2) hf hh rfl rfl rfl Tryd.sz_4 rfl rfl rfl (.inl rfl) fun w hh => ?_ | refine ops_store (i := 3) hf hh rfl rfl rfl Tryd.sz_4 rfl rfl rfl (.inl rfl) fun w hh => ?_ | refine ops_store (i := 4) hf hh rfl rfl rfl Tryd.sz_4 rfl rfl rfl (.inl rfl) fun w hh => ?_ | refine ops_store (i := 5) hf hh rfl rfl rfl Tryd.sz_4 rfl rfl rfl (.inl rfl) fun w hh => ?_ | refine ops_store (i := 6) hf hh rfl rfl rfl Tryd.sz_4 rfl rfl rfl (.inl rfl) fun w hh => ?_
      refine ops_end ?_
      refine then_n ?_
      refine sy_ret ?_
      refine blk_r ?_
      exact ⟨_, ⟨rfl, y, es3, cm3, hy1, by assumption, hI, hM3, rfl⟩, hh⟩
    · have hG3 := hg3; try simp only [gS] at hG3
      refine sy_skip ?_
      refine blk_n ?_
      refine ⟨_, ⟨fun j p hj hp => ?_, es3, cm3, hM3, rfl⟩, hh⟩
      by_cases hjk : j = k
      · subst hjk; rw [hy1] at hp; cases hp; assumption
      · exact hI j p (by omega) hp
  · rintro D H a w ⟨hI, es2, cm2, hM2, rfl⟩ hf hh
    have hnone : firstP b set = none := findq_none (fun j p hj hp => hI j p (by simpa using hj) hp)
    rw [hnone]
    refine blk_n ?_
    refine then_n ?_
    refine sy_seq ?_
    refine sy_ops ?_
    refine ops_v hf hh (yv_load Tryd.sc_56 rfl (fun _ h => by first | exact h.at (i := 0) rfl | exact h.at (i := 1) rfl | exact h.at (i := 2) rfl | exact h.at (i := 3) rfl | exact h.at (i := 4) rfl | exact h.at (i := 5) rfl | exact h.at (i := 6) rfl) (by first | rfl | assumption)) (.inl rfl) rfl rfl rfl ?_; clear hf; clear a; intro a hf
    first | refine ops_store (i := 0) hf hh rfl rfl rfl Tryd.sz_56 rfl rfl rfl (.inl rfl) fun w hh => ?_ | refine ops_store (i := 1) hf hh rfl rfl rfl Tryd.sz_56 rfl rfl rfl (.inl rfl) fun w hh => ?_ | refine ops_store (i := 2) hf hh rfl rfl rfl Tryd.sz_56 rfl rfl rfl (.inl rfl) fun w hh => ?_ | refine ops_store (i := 3) hf hh rfl rfl rfl Tryd.sz_56 rfl rfl rfl (.inl rfl) fun w hh => ?_ | refine ops_store (i := 4) hf hh rfl rfl rfl Tryd.sz_56 rfl rfl rfl (.inl rfl) fun w hh => ?_ | refine ops_store (i := 5) hf hh rfl rfl rfl Tryd.sz_56 rfl rfl rfl (.inl rfl) fun w hh => ?_ | refine ops_store (i := 6) hf hh rfl rfl rfl Tryd.sz_56 rfl rfl rfl (.inl rfl) fun w hh => ?_
    first | refine ops_store (i := 0) hf hh rfl rfl rfl Tryd.sz_4 rfl rfl rfl (.inl rfl) fun w hh => ?_ | refine ops_store (i := 1) hf hh rfl rfl rfl Tryd.sz_4 rfl rfl rfl (.inl rfl) fun w hh => ?_ | refine ops_store (i := 2) hf hh rfl rfl rfl Tryd.sz_4 rfl rfl rfl (.inl rfl) fun w hh => ?_ | refine ops_store (i := 3) hf hh rfl rfl rfl Tryd.sz_4 rfl rfl rfl (.inl rfl) fun w hh => ?_ | refine ops_store (i := 4) hf hh rfl rfl rfl Tryd.sz_4 rfl rfl rfl (.inl rfl) fun w hh => ?_ | refine ops_store (i := 5) hf hh rfl rfl rfl Tryd.sz_4 rfl rfl rfl (.inl rfl) fun w hh => ?_ | refine ops_store (i := 6) hf hh rfl rfl rfl Tryd.sz_4 rfl rfl rfl (.inl rfl) fun w hh => ?_
    refine ops_end ?_
    refine then_n ?_
    refine sy_ret ?_
    refine ret_m (Ds := [D]) (H := (B5, .cells #[.bool false] 4) :: (B4, .cells #[.int .u64 (0 : Nat)] 56) :: (B3, .cells #[.func (.func 70) #[] #[ptr Bs 0, ptr Bb 0]] 74) :: (bm, .map es2 cm2) :: []) hf hh fun w' hh => ?_
    exact ⟨[.int .u64 (0 : Nat), .bool false], ⟨⟨B4, 0, _, _, _, rfl, hh.at (i := 1) rfl, .inl ⟨Tryd.sc_56, rfl⟩⟩, ⟨B5, 0, _, _, _, rfl, hh.at (i := 0) rfl, .inl ⟨sc4, rfl⟩⟩, True.intro⟩, rfl, es2, cm2, hM2, hh.less (.cons _ (.cons _ (.cons _ (.refl _))))⟩
  · rintro k c D H a w hX hf hh
    obtain ⟨rfl, p, es2, cm2, hp1, hp2, hI, hM2, rfl⟩ := hX
    have hsome : firstP b set = some p := findq_at hp1 hp2 hI
    rw [hsome]
    refine sy_ret ?_
    refine blk_r ?_
    refine then_r ?_
    refine ret_m (Ds := [D]) (H := (B5, .cells #[.bool true] 4) :: (B4, .cells #[.int .u64 (p : Nat)] 56) :: (B3, .cells #[.func (.func 70) #[] #[ptr Bs 0, ptr Bb 0]] 74) :: (bm, .map es2 cm2) :: []) hf hh fun w' hh => ?_
    exact ⟨[.int .u64 (p : Nat), .bool true], ⟨⟨B4, 0, _, _, _, rfl, hh.at (i := 1) rfl, .inl ⟨Tryd.sc_56, rfl⟩⟩, ⟨B5, 0, _, _, _, rfl, hh.at (i := 0) rfl, .inl ⟨sc4, rfl⟩⟩, True.intro⟩, rfl, es2, cm2, hM2, hh.less (.cons _ (.cons _ (.cons _ (.refl _))))⟩
theorem c37i (b : BarD) (sa : Option Addr) (sc bp bm cm : Nat) (p : Int) (es : Array MapEntry) (u : World) (hV : Valid b) (hp0 : 0 ≤ p) (hp : p.toNat < 2 ^ b.slots.toNat) (hA : BarA u b sa sc bp bm)
    (hm : u.heap[bm]? = some (.map es cm)) (hM : Memo .u64 .u64 (memF b) es) : Calls Tryd.prog 37 #[ptr bp 0, .int .u64 p] u
    (Ret fun v w' => v = .int .u64 (taken b p.toNat) ∧ ∃ es' c', Memo .u64 .u64 (memF b) es' ∧ Hp u [bm] [(bm, .map es' c')] w') := by
  obtain ⟨q, rfl⟩ := Int.eq_ofNat_of_zero_le hp0
  exact c37 b sa sc bp bm q cm es u hV hp hA hm hM
theorem c13n (b : BarD) (sa : Option Addr) (sc : Nat) (u : World) (hS : ScAt u sa b.scenes) (hb : okBar b = false) (p : Int) : Calls Tryd.prog 13 #[barV b sa sc, .int .i64 p] u (Ret fun v w' => v = .tuple #[.int .i64 0, .int .i64 1] ∧ Ext [] u w') := by
  refine calls_of Tryd.func13 rfl rfl (fun a hf => ?_)
  have hh := Hp.init u []
  refine sy_seq ?_
  refine sy_ops ?_
  refine ops_box hf hh rfl (.inl rfl) rfl ?_; clear hf hh; clear a; intro B2 a w hf hh
  refine ops_v hf hh (yv_assign rfl) (.inl rfl) rfl rfl rfl ?_; clear hf; clear a; intro a hf
  refine ops_v hf hh (yv_assign rfl) (.inl rfl) rfl rfl rfl ?_; clear hf; clear a; intro a hf
  refine ops_end ?_
  refine then_n ?_
  refine sy_seq ?_
  refine sy_ops ?_
  refine ops_v hf hh (yv_loads Tryd.ag_24 rfl (fun _ h => by first | exact h.at (i := 0) rfl | exact h.at (i := 1) rfl | exact h.at (i := 2) rfl | exact h.at (i := 3) rfl) (by first | assumption | rfl)) (.inl rfl) rfl rfl rfl ?_; clear hf; clear a; intro a hf
  refine ops_call hf Tryd.en_35 rfl rfl rfl (.inl rfl) rfl (c35n b sa sc _ (hS.ext hh.ext) hb) ?_; clear hf; clear a; intro v a w hR hf
  obtain ⟨rfl, hx⟩ := hR; replace hh := hh.more hx; clear hx
  refine ops_v hf hh (yv_move rfl) (.inl rfl) rfl rfl rfl ?_; clear hf; clear a; intro a hf
  refine ops_v hf hh (yv_extract rfl rfl) (.inl rfl) rfl rfl rfl ?_; clear hf; clear a; intro a hf
  refine ops_v hf hh (yv_extract rfl rfl) (.inl rfl) rfl rfl rfl ?_; clear hf; clear a; intro a hf
  refine ops_v hf hh (yv_assign rfl) (.inl rfl) rfl rfl rfl ?_; clear hf; clear a; intro a hf
  refine ops_v hf hh (yv_assign rfl) (.inl rfl) rfl rfl rfl ?_; clear hf; clear a; intro a hf
  refine ops_end ?_
  refine then_n ?_
  refine sy_seq ?_
  refine sy_block ?_
  refine sy_seq ?_
  refine sy_ops ?_
  refine ops_v hf hh (yv_move rfl) (.inl rfl) rfl rfl rfl ?_; clear hf; clear a; intro a hf
  refine ops_v hf hh (yv_bin rfl rfl rfl) (.inl rfl) rfl rfl rfl ?_; clear hf; clear a; intro a hf
  refine ops_v hf hh (yv_assign rfl) (.inl rfl) rfl rfl rfl ?_; clear hf; clear a; intro a hf
  refine ops_end ?_
  refine then_n ?_
  refine sy_ct hf rfl (by first | assumption | rfl | (simp; done)) ?_
  refine sy_seq ?_
  refine sy_ops ?_
  refine ops_v hf hh (yv_move rfl) (.inl rfl) rfl rfl rfl ?_; clear hf; clear a; intro a hf
  refine ops_v hf hh (yv_assign rfl) (.inl rfl) rfl rfl rfl ?_; clear hf; clear a; intro a hf
  refine ops_v hf hh (yv_assign rfl) (.inl rfl) rfl rfl rfl ?_; clear hf; clear a; intro a hf
  refine ops_end ?_
  refine then_n ?_
  refine sy_ret ?_
  refine blk_r ?_
  refine then_r ?_
  refine ret_r hf rfl rfl ?_
  exact ⟨rfl, hh.ext⟩
theorem c13v (b : BarD) (sa : Option Addr) (sc : Nat) (u : World) (hS : ScAt u sa b.scenes) (hT : GTab u) (hV : Valid b) (p : Int) (hp1 : p ≤ 9223372036854775807) : Calls Tryd.prog 13 #[barV b sa sc, .int .i64 p] u (Ret fun v w' => v = .tuple #[.int .i64 (if isPlanI b p then taken b p.toNat else 0), .int .i64 (if isPlanI b p then 0 else 2)] ∧ Ext [] u w') := by
  refine calls_of Tryd.func13 rfl rfl (fun a hf => ?_)
  have hh := Hp.init u []
  have hn := hV.n
  have hm1 : 1 ≤ 2 ^ b.scenes.length := Nat.one_le_two_pow
  have hm2 : 2 ^ b.scenes.length ≤ 2 ^ 10 := Nat.pow_le_pow_right (by omega) hn
  have hs1 := hV.s1; have hs2 := hV.s2
  have hpw := shl_bd hs1 hs2
  refine sy_seq ?_
  refine sy_ops ?_
  refine ops_box hf hh rfl (.inl rfl) rfl ?_; clear hf hh; clear a; intro B2 a w hf hh
  refine ops_v hf hh (yv_assign rfl) (.inl rfl) rfl rfl rfl ?_; clear hf; clear a; intro a hf
  refine ops_v hf hh (yv_assign rfl) (.inl rfl) rfl rfl rfl ?_; clear hf; clear a; intro a hf
  refine ops_end ?_
  refine then_n ?_
  refine sy_seq ?_
  refine sy_ops ?_
  refine ops_v hf hh (yv_loads Tryd.ag_24 rfl (fun _ h => by first | exact h.at (i := 0) rfl | exact h.at (i := 1) rfl | exact h.at (i := 2) rfl | exact h.at (i := 3) rfl) (by first | assumption | rfl)) (.inl rfl) rfl rfl rfl ?_; clear hf; clear a; intro a hf
  refine ops_call hf Tryd.en_35 rfl rfl rfl (.inl rfl) rfl (c35 b sa sc _ (hS.ext hh.ext) hV) ?_; clear hf; clear a; intro v a w hR hf
  obtain ⟨bp, bm, cs, rfl, hcs, hx⟩ := hR; replace hh := hh.join hx; clear hx
  refine ops_v hf hh (yv_move rfl) (.inl rfl) rfl rfl rfl ?_; clear hf; clear a; intro a hf
  refine ops_v hf hh (yv_extract rfl rfl) (.inl rfl) rfl rfl rfl ?_; clear hf; clear a; intro a hf
  refine ops_v hf hh (yv_extract rfl rfl) (.inl rfl) rfl rfl rfl ?_; clear hf; clear a; intro a hf
  refine ops_v hf hh (yv_assign rfl) (.inl rfl) rfl rfl rfl ?_; clear hf; clear a; intro a hf
  refine ops_v hf hh (yv_assign rfl) (.inl rfl) rfl rfl rfl ?_; clear hf; clear a; intro a hf
  refine ops_end ?_
  refine then_n ?_
  refine sy_seq ?_
  refine sy_block ?_
  refine sy_seq ?_
  refine sy_ops ?_
  refine ops_v hf hh (yv_move rfl) (.inl rfl) rfl rfl rfl ?_; clear hf; clear a; intro a hf
  refine ops_v hf hh (yv_bin rfl rfl rfl) (.inl rfl) rfl rfl rfl ?_; clear hf; clear a; intro a hf
  refine ops_v hf hh (yv_assign rfl) (.inl rfl) rfl rfl rfl ?_; clear hf; clear a; intro a hf
  refine ops_end ?_
  refine then_n ?_
  refine sy_cf hf rfl (by first | assumption | rfl | (simp; done)) ?_
  refine sy_seq ?_
  refine sy_ops ?_
  refine ops_v hf hh (yv_move rfl) (.inl rfl) rfl rfl rfl ?_; clear hf; clear a; intro a hf
  refine ops_v hf hh (yv_move rfl) (.inl rfl) rfl rfl rfl ?_; clear hf; clear a; intro a hf
  refine ops_call hf Tryd.en_36 rfl rfl rfl (.inl rfl) rfl (c36 b sa sc bp bm p _ hV ⟨cs, hh.at (i := 0) rfl, hcs⟩) ?_; clear hf; clear a; intro v a w hR hf
  obtain ⟨rfl, hx⟩ := hR; replace hh := hh.more hx; clear hx
  refine ops_v hf hh (yv_not rfl) (.inl rfl) rfl rfl rfl ?_; clear hf; clear a; intro a hf
  refine ops_v hf hh (yv_assign rfl) (.inl rfl) rfl rfl rfl ?_; clear hf; clear a; intro a hf
  refine ops_end ?_
  refine then_n ?_
  refine sy_cond hf rfl (fun hg6 => ?_) (fun hg6 => ?_)
  · have hG6 := hg6; try simp only [gS] at hG6
    refine sy_seq ?_
    refine sy_ops ?_
    refine ops_v hf hh (yv_assign rfl) (.inl rfl) rfl rfl rfl ?_; clear hf; clear a; intro a hf
    refine ops_v hf hh (yv_assign rfl) (.inl rfl) rfl rfl rfl ?_; clear hf; clear a; intro a hf
    refine ops_end ?_
    refine then_n ?_
    refine sy_ret ?_
    refine blk_r ?_
    refine then_r ?_
    refine ret_r hf rfl rfl ?_
    have hpi : isPlanI b p = false := by first | assumption | (simp_all; done)
    rw [hpi]; exact ⟨rfl, hh.ext⟩
  · have hG6 := hg6; try simp only [gS] at hG6
    refine sy_skip ?_
    refine blk_n ?_
    refine then_n ?_
    refine sy_seq ?_
    have hpi : isPlanI b p = true := by assumption
    have hp0 : 0 ≤ p := isPlanI_nn hpi
    have hpi2 : isPlan b p.toNat = true := by unfold isPlanI at hpi; simp [hp0] at hpi; exact hpi
    have hpl := ((isPlan_land b p.toNat).1 hpi2).1
    have htl : taken b p.toNat < 2 ^ b.scenes.length := by have := takenTo_lt b p.toNat b.scenes.length; unfold taken; exact this
    refine sy_ops ?_
    refine ops_v hf hh (yv_move rfl) (.inl rfl) rfl rfl rfl ?_; clear hf; clear a; intro a hf
    refine ops_v hf hh (yv_move rfl) (.inl rfl) rfl rfl rfl ?_; clear hf; clear a; intro a hf
    first | refine ops_v hf hh (yv_convx (.inr rfl) (by kernel_rfl) Tryd.un_56 rfl (by omega) (by simp only [IntKind.top]; omega)) (.inl rfl) rfl rfl rfl ?_; clear hf; clear a; intro a hf | refine ops_v hf hh (yv_conv (by kernel_rfl) Tryd.un_56 rfl) (.inl rfl) rfl rfl rfl ?_; clear hf; clear a; intro a hf
    refine ops_call hf Tryd.en_37 rfl rfl rfl (.inl rfl) rfl (c37i b sa sc bp bm 0 p #[] _ hV hp0 hpl (mkBarA (i := 0) (j := 1) hh rfl rfl (by omega) hcs hS hT) (hh.at (i := 1) rfl) (memo_nil b)) ?_; clear hf; clear a; intro v a w hR hf
    obtain ⟨rfl, es2, cm2, hM2, hx⟩ := hR; replace hh := hh.turn (i := 1) rfl hx.ext (hx.at (i := 0) rfl); clear hx
    first | refine ops_v hf hh (yv_convx (.inl rfl) (by kernel_rfl) Tryd.un_3 rfl (by omega) (by simp only [IntKind.top]; omega)) (.inl rfl) rfl rfl rfl ?_; clear hf; clear a; intro a hf | refine ops_v hf hh (yv_conv (by kernel_rfl) Tryd.un_3 rfl) (.inl rfl) rfl rfl rfl ?_; clear hf; clear a; intro a hf
    refine ops_v hf hh (yv_assign rfl) (.inl rfl) rfl rfl rfl ?_; clear hf; clear a; intro a hf
    refine ops_v hf hh (yv_assign rfl) (.inl rfl) rfl rfl rfl ?_; clear hf; clear a; intro a hf
    refine ops_end ?_
    refine then_n ?_
    refine sy_ret ?_
    refine ret_r hf rfl rfl ?_
    rw [hpi]; exact ⟨rfl, hh.ext⟩
theorem c18n (b : BarD) (sa : Option Addr) (sc : Nat) (u : World) (hS : ScAt u sa b.scenes) (hb : okBar b = false) : Calls Tryd.prog 18 #[barV b sa sc] u (Ret fun v w' => v = .tuple #[.int .i64 0, .int .i64 1] ∧ Ext [] u w') := by
  refine calls_of Tryd.func18 rfl rfl (fun a hf => ?_)
  have hh := Hp.init u []
  refine sy_seq ?_
  refine sy_ops ?_
  refine ops_box hf hh rfl (.inl rfl) rfl ?_; clear hf hh; clear a; intro B1 a w hf hh
  refine ops_v hf hh (yv_assign rfl) (.inl rfl) rfl rfl rfl ?_; clear hf; clear a; intro a hf
  refine ops_v hf hh (yv_assign rfl) (.inl rfl) rfl rfl rfl ?_; clear hf; clear a; intro a hf
  refine ops_end ?_
  refine then_n ?_
  refine sy_seq ?_
  refine sy_ops ?_
  refine ops_v hf hh (yv_loads Tryd.ag_24 rfl (fun _ h => by first | exact h.at (i := 0) rfl | exact h.at (i := 1) rfl | exact h.at (i := 2) rfl | exact h.at (i := 3) rfl) (by first | assumption | rfl)) (.inl rfl) rfl rfl rfl ?_; clear hf; clear a; intro a hf
  refine ops_call hf Tryd.en_35 rfl rfl rfl (.inl rfl) rfl (c35n b sa sc _ (hS.ext hh.ext) hb) ?_; clear hf; clear a; intro v a w hR hf
  obtain ⟨rfl, hx⟩ := hR; replace hh := hh.more hx; clear hx
  refine ops_v hf hh (yv_move rfl) (.inl rfl) rfl rfl rfl ?_; clear hf; clear a; intro a hf
  refine ops_v hf hh (yv_extract rfl rfl) (.inl rfl) rfl rfl rfl ?_; clear hf; clear a; intro a hf
  refine ops_v hf hh (yv_extract rfl rfl) (.inl rfl) rfl rfl rfl ?_; clear hf; clear a; intro a hf
  refine ops_v hf hh (yv_assign rfl) (.inl rfl) rfl rfl rfl ?_; clear hf; clear a; intro a hf
  refine ops_v hf hh (yv_assign rfl) (.inl rfl) rfl rfl rfl ?_; clear hf; clear a; intro a hf
  refine ops_end ?_
  refine then_n ?_
  refine sy_seq ?_
  refine sy_seq ?_
  refine sy_ops ?_
  refine ops_v hf hh (yv_move rfl) (.inl rfl) rfl rfl rfl ?_; clear hf; clear a; intro a hf
  refine ops_v hf hh (yv_bin rfl rfl rfl) (.inl rfl) rfl rfl rfl ?_; clear hf; clear a; intro a hf
  refine ops_end ?_
  refine then_n ?_
  refine sy_ct hf rfl (by first | assumption | rfl | (simp; done)) ?_
  refine sy_seq ?_
  refine sy_ops ?_
  refine ops_v hf hh (yv_move rfl) (.inl rfl) rfl rfl rfl ?_; clear hf; clear a; intro a hf
  refine ops_v hf hh (yv_assign rfl) (.inl rfl) rfl rfl rfl ?_; clear hf; clear a; intro a hf
  refine ops_v hf hh (yv_assign rfl) (.inl rfl) rfl rfl rfl ?_; clear hf; clear a; intro a hf
  refine ops_end ?_
  refine then_n ?_
  refine sy_ret ?_
  refine then_r ?_
  refine ret_r hf rfl rfl ?_
  exact ⟨rfl, hh.ext⟩
theorem c18v (b : BarD) (sa : Option Addr) (sc : Nat) (u : World) (hS : ScAt u sa b.scenes) (hT : GTab u) (hV : Valid b) : Calls Tryd.prog 18 #[barV b sa sc] u (Ret fun v w' => v = .tuple #[.int .i64 ((firstP b (2 ^ b.scenes.length - 1)).getD 0 : Nat), .int .i64 (if (firstP b (2 ^ b.scenes.length - 1)).isSome then 0 else 11)] ∧ Ext [] u w') := by
  refine calls_of Tryd.func18 rfl rfl (fun a hf => ?_)
  have hh := Hp.init u []
  have hn := hV.n
  have hm1 : 1 ≤ 2 ^ b.scenes.length := Nat.one_le_two_pow
  have hm2 : 2 ^ b.scenes.length ≤ 2 ^ 10 := Nat.pow_le_pow_right (by omega) hn
  have hs1 := hV.s1; have hs2 := hV.s2
  have hpw := shl_bd hs1 hs2
  have hfb : (firstP b (2 ^ b.scenes.length - 1)).getD 0 < 65536 := by
    cases h : firstP b (2 ^ b.scenes.length - 1) with
    | none => simp
    | some p =>
      have h2 := List.mem_of_find?_eq_some h
      obtain ⟨j, hj⟩ := List.getElem?_of_mem h2
      have := pl_lt hV hj
      simp; omega
  refine sy_seq ?_
  refine sy_ops ?_
  refine ops_box hf hh rfl (.inl rfl) rfl ?_; clear hf hh; clear a; intro B1 a w hf hh
  refine ops_v hf hh (yv_assign rfl) (.inl rfl) rfl rfl rfl ?_; clear hf; clear a; intro a hf
  refine ops_v hf hh (yv_assign rfl) (.inl rfl) rfl rfl rfl ?_; clear hf; clear a; intro a hf
  refine ops_end ?_
  refine then_n ?_
  refine sy_seq ?_
  refine sy_ops ?_
  refine ops_v hf hh (yv_loads Tryd.ag_24 rfl (fun _ h => by first | exact h.at (i := 0) rfl | exact h.at (i := 1) rfl | exact h.at (i := 2) rfl | exact h.at (i := 3) rfl) (by first | assumption | rfl)) (.inl rfl) rfl rfl rfl ?_; clear hf; clear a; intro a hf
  refine ops_call hf Tryd.en_35 rfl rfl rfl (.inl rfl) rfl (c35 b sa sc _ (hS.ext hh.ext) hV) ?_; clear hf; clear a; intro v a w hR hf
  obtain ⟨bp, bm, cs, rfl, hcs, hx⟩ := hR; replace hh := hh.join hx; clear hx
  refine ops_v hf hh (yv_move rfl) (.inl rfl) rfl rfl rfl ?_; clear hf; clear a; intro a hf
  refine ops_v hf hh (yv_extract rfl rfl) (.inl rfl) rfl rfl rfl ?_; clear hf; clear a; intro a hf
  refine ops_v hf hh (yv_extract rfl rfl) (.inl rfl) rfl rfl rfl ?_; clear hf; clear a; intro a hf
  refine ops_v hf hh (yv_assign rfl) (.inl rfl) rfl rfl rfl ?_; clear hf; clear a; intro a hf
  refine ops_v hf hh (yv_assign rfl) (.inl rfl) rfl rfl rfl ?_; clear hf; clear a; intro a hf
  refine ops_end ?_
  refine then_n ?_
  refine sy_seq ?_
  refine sy_seq ?_
  refine sy_ops ?_
  refine ops_v hf hh (yv_move rfl) (.inl rfl) rfl rfl rfl ?_; clear hf; clear a; intro a hf
  refine ops_v hf hh (yv_bin rfl rfl rfl) (.inl rfl) rfl rfl rfl ?_; clear hf; clear a; intro a hf
  refine ops_end ?_
  refine then_n ?_
  refine sy_cf hf rfl (by first | assumption | rfl | (simp; done)) ?_
  refine sy_skip ?_
  refine then_n ?_
  refine sy_seq ?_
  refine sy_ops ?_
  refine ops_v hf hh (yv_move rfl) (.inl rfl) rfl rfl rfl ?_; clear hf; clear a; intro a hf
  refine ops_call hf Tryd.en_47 rfl rfl rfl (.inl rfl) rfl (c47 bp _) ?_; clear hf; clear a; intro v a w hR hf
  obtain ⟨Bq, rfl, hx⟩ := hR; replace hh := hh.join hx; clear hx
  refine ops_v hf hh (yv_move rfl) (.inl rfl) rfl rfl rfl ?_; clear hf; clear a; intro a hf
  refine ops_v hf hh (yv_move rfl) (.inl rfl) rfl rfl rfl ?_; clear hf; clear a; intro a hf
  refine ops_call hf Tryd.en_49 rfl rfl rfl (.inl rfl) rfl (c49 b sa sc bp bm _ hV ⟨cs, hh.at (i := 1) rfl, hcs⟩) ?_; clear hf; clear a; intro v a w hR hf
  obtain ⟨rfl, hx⟩ := hR; replace hh := hh.more hx; clear hx
  refine ops_call hf Tryd.en_48 rfl rfl rfl (.inl rfl) rfl (c48 bp (2 ^ b.scenes.length - 1) _) ?_; clear hf; clear a; intro v a w hR hf
  obtain ⟨Bs, Bb, rfl, hx⟩ := hR; replace hh := hh.join hx; clear hx
  refine ops_call hf Tryd.en_46 rfl rfl rfl (.inl rfl) rfl (c46 b sa sc bp bm (2 ^ b.scenes.length - 1) Bq Bs Bb 0 #[] _ hV (by omega) ⟨mkBarA (i := 3) (j := 4) hh rfl rfl (by omega) hcs hS hT, hh.at (i := 0) rfl, hh.at (i := 1) rfl, by simpa using hh.diff (i := 0) (j := 4) rfl rfl (by omega), by simpa using hh.diff (i := 1) (j := 4) rfl rfl (by omega)⟩
        (hh.at (i := 2) rfl) (by simpa using hh.diff (i := 2) (j := 4) rfl rfl (by omega)) (hh.at (i := 4) rfl) (memo_nil b)) ?_; clear hf; clear a; intro v a w hR hf
  obtain ⟨rfl, es2, cm2, hM2, hx⟩ := hR; replace hh := hh.turn (i := 4) rfl hx.ext (hx.at (i := 0) rfl); clear hx
  refine ops_v hf hh (yv_move rfl) (.inl rfl) rfl rfl rfl ?_; clear hf; clear a; intro a hf
  refine ops_v hf hh (yv_extract rfl rfl) (.inl rfl) rfl rfl rfl ?_; clear hf; clear a; intro a hf
  refine ops_v hf hh (yv_extract rfl rfl) (.inl rfl) rfl rfl rfl ?_; clear hf; clear a; intro a hf
  refine ops_v hf hh (yv_assign rfl) (.inl rfl) rfl rfl rfl ?_; clear hf; clear a; intro a hf
  refine ops_v hf hh (yv_assign rfl) (.inl rfl) rfl rfl rfl ?_; clear hf; clear a; intro a hf
  refine ops_end ?_
  refine then_n ?_
  refine sy_seq ?_
  refine sy_seq ?_
  refine sy_ops ?_
  refine ops_v hf hh (yv_move rfl) (.inl rfl) rfl rfl rfl ?_; clear hf; clear a; intro a hf
  refine ops_v hf hh (yv_not rfl) (.inl rfl) rfl rfl rfl ?_; clear hf; clear a; intro a hf
  refine ops_end ?_
  refine then_n ?_
  refine sy_cond hf rfl (fun hg11 => ?_) (fun hg11 => ?_)
  · have hG11 := hg11; try simp only [gS] at hG11
    refine sy_seq ?_
    refine sy_ops ?_
    refine ops_v hf hh (yv_assign rfl) (.inl rfl) rfl rfl rfl ?_; clear hf; clear a; intro a hf
    refine ops_v hf hh (yv_assign rfl) (.inl rfl) rfl rfl rfl ?_; clear hf; clear a; intro a hf
    refine ops_end ?_
    refine then_n ?_
    refine sy_ret ?_
    refine then_r ?_
    refine ret_r hf rfl rfl ?_
    first
      | (have hfn : (firstP b (2 ^ b.scenes.length - 1)).isSome = true := by first | assumption | (simp_all; done)
         rw [if_pos hfn]; exact ⟨rfl, hh.ext⟩)
      | (have hfn : (firstP b (2 ^ b.scenes.length - 1)).isSome = false := by first | assumption | (simp_all; done)
         have hfe : firstP b (2 ^ b.scenes.length - 1) = none := by simpa using hfn
         rw [hfe]; exact ⟨rfl, hh.ext⟩)
  · have hG11 := hg11; try simp only [gS] at hG11
    refine sy_skip ?_
    refine then_n ?_
    refine sy_seq ?_
    refine sy_ops ?_
    refine ops_v hf hh (yv_move rfl) (.inl rfl) rfl rfl rfl ?_; clear hf; clear a; intro a hf
    first | refine ops_v hf hh (yv_convx (.inl rfl) (by kernel_rfl) Tryd.un_3 rfl (by omega) (by simp only [IntKind.top]; omega)) (.inl rfl) rfl rfl rfl ?_; clear hf; clear a; intro a hf | refine ops_v hf hh (yv_conv (by kernel_rfl) Tryd.un_3 rfl) (.inl rfl) rfl rfl rfl ?_; clear hf; clear a; intro a hf
    refine ops_v hf hh (yv_assign rfl) (.inl rfl) rfl rfl rfl ?_; clear hf; clear a; intro a hf
    refine ops_v hf hh (yv_assign rfl) (.inl rfl) rfl rfl rfl ?_; clear hf; clear a; intro a hf
    refine ops_end ?_
    refine then_n ?_
    refine sy_ret ?_
    refine ret_r hf rfl rfl ?_
    first
      | (have hfn : (firstP b (2 ^ b.scenes.length - 1)).isSome = true := by first | assumption | (simp_all; done)
         rw [if_pos hfn]; exact ⟨rfl, hh.ext⟩)
      | (have hfn : (firstP b (2 ^ b.scenes.length - 1)).isSome = false := by first | assumption | (simp_all; done)
         have hfe : firstP b (2 ^ b.scenes.length - 1) = none := by simpa using hfn
         rw [hfe]; exact ⟨rfl, hh.ext⟩)
attribute [irreducible] firstP
end Go.Proofs.YtkolcbjghphjeaaDoor
