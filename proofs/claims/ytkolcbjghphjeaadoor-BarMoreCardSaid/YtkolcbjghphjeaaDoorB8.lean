/- The program's set of scenes that a plan takes, walked. -/
import Derived.Test.YtkolcbjghphjeaaDoorM4
namespace Go.Proofs.YtkolcbjghphjeaaDoor
open Go Go.Sy Go.BarM
/-- An opened bar, its scenes, the library's table, and where its memory of tries lies. -/
structure BarA (w : World) (b : BarD) (sa : Option Addr) (sc bp bm : Nat) : Prop where
  bo : BarO w b sa sc bp bm
  sn : ScAt w sa b.scenes
  gt : GTab w
  n1 : bp ≠ bm
  n2 : 1 ≠ bm
  n3 : ∀ (i : Nat) (s : Scn), b.scenes[i]? = some s → ∀ a, sa = some a → a.block ≠ bm
theorem BarA.ext {w w' : World} {b : BarD} {sa : Option Addr} {sc bp bm : Nat} {M : List Nat} (h : BarA w b sa sc bp bm) (e : Ext M w w') (hM : ∀ x ∈ M, x = bm) : BarA w' b sa sc bp bm :=
  ⟨h.bo.ext e (fun hm => h.n1 (hM _ hm)), fun i s hs => by
    obtain ⟨blk, off, c, T, fr, h1, h2, h3⟩ := h.sn i s hs
    exact ⟨blk, off, c, T, fr, h1, e.getM h2 (fun hm => h.n3 i s hs _ h1 (hM _ hm)), h3⟩, h.gt.ext e (fun hm => h.n2 (hM _ hm)), h.n1, h.n2, h.n3⟩
/-- What the memory of tries says of a plan. -/
def memF (b : BarD) : Int → Int := fun x => ((taken b x.toNat : Nat) : Int)
theorem taken_or (b : BarD) (p k : Nat) : takenTo b p k ||| 2 ^ k = takenTo b p k + 2 ^ k := by
  have h := Nat.two_pow_add_eq_or_of_lt (takenTo_lt b p k) 1
  rw [Nat.mul_one] at h
  rw [Nat.or_comm, ← h, Nat.add_comm]
theorem c37 (b : BarD) (sa : Option Addr) (sc bp bm p cm : Nat) (es : Array MapEntry) (u : World) (hV : Valid b) (hp : p < 2 ^ b.slots.toNat) (hA : BarA u b sa sc bp bm)
    (hm : u.heap[bm]? = some (.map es cm)) (hM : Memo .u64 .u64 (memF b) es) : Calls Tryd.prog 37 #[ptr bp 0, .int .u64 p] u
    (Ret fun v w' => v = .int .u64 (taken b p) ∧ ∃ es' c', Memo .u64 .u64 (memF b) es' ∧ Hp u [bm] [(bm, .map es' c')] w') := by
  refine calls_ofM Tryd.func37 rfl rfl (fun a hf => ?_)
  have hh := Hp.init1 hm
  obtain ⟨cs, hb, hcs⟩ := hA.bo
  have hn1 : bp ∉ [bm] := by simpa using hA.n1
  have c4 := hcs.c4; have c25 := hcs.c25
  have hs1 := hV.s1; have hs2 := hV.s2; have hn := hV.n
  have hpw := shl_bd hs1 hs2
  have hp16 : p < 65536 := by omega
  refine sy_seq ?_
  refine sy_ops ?_
  refine ops_alloc hf hh Tryd.ze_54 (.inl rfl) rfl ?_; clear hf hh; clear a; intro B4 a w hf hh
  refine ops_end ?_
  refine then_n ?_
  refine sy_scope ?_
  refine sy_seq ?_
  refine sy_seq ?_
  refine sy_ops ?_
  refine ops_v hf hh (yv_move rfl) (.inl rfl) rfl rfl rfl ?_; clear hf; clear a; intro a hf
  refine ops_v hf hh (yv_nilCheck rfl) (.inl rfl) rfl rfl rfl ?_; clear hf; clear a; intro a hf
  refine ops_v hf hh (yv_fieldAddr Tryd.fo_90_2 rfl) (.inl rfl) rfl rfl rfl ?_; clear hf; clear a; intro a hf
  refine ops_v hf hh (yv_load Tryd.sc_88 rfl (fun _ h => by first | exact h.at (i := 0) rfl | exact h.at (i := 1) rfl | exact h.at (i := 2) rfl | exact h.at (i := 3) rfl | exact h.at (i := 4) rfl | exact h.at (i := 5) rfl | exact h.at (i := 6) rfl | exact h.at (i := 7) rfl | exact h.at (i := 8) rfl | exact h.oldM hb hn1) (by first | rfl | assumption)) (.inl rfl) rfl rfl rfl ?_; clear hf; clear a; intro a hf
  refine ops_v hf hh (yv_move rfl) (.inl rfl) rfl rfl rfl ?_; clear hf; clear a; intro a hf
  refine ops_v hf hh (yv_cast (v' := .tuple #[.int .u64 (if memoHas es (p : Int) then ((taken b p : Nat) : Int) else 0), .bool (memoHas es (p : Int))]) (yv_lookup (F := memF b) Tryd.mt_88 Tryd.ze_54 rfl rfl (fun _ h => h.at (i := 1) rfl) hM) rfl) (.inl rfl) rfl rfl rfl ?_; clear hf; clear a; intro a hf
  refine ops_v hf hh (yv_move rfl) (.inl rfl) rfl rfl rfl ?_; clear hf; clear a; intro a hf
  refine ops_v hf hh (yv_extract rfl rfl) (.inl rfl) rfl rfl rfl ?_; clear hf; clear a; intro a hf
  refine ops_v hf hh (yv_extract rfl rfl) (.inl rfl) rfl rfl rfl ?_; clear hf; clear a; intro a hf
  refine ops_v hf hh (yv_assign rfl) (.inl rfl) rfl rfl rfl ?_; clear hf; clear a; intro a hf
  refine ops_v hf hh (yv_assign rfl) (.inl rfl) rfl rfl rfl ?_; clear hf; clear a; intro a hf
  refine ops_end ?_
  refine then_n ?_
  refine sy_seq ?_
  refine sy_ops ?_
  refine ops_v hf hh (yv_move rfl) (.inl rfl) rfl rfl rfl ?_; clear hf; clear a; intro a hf
  refine ops_end ?_
  refine then_n ?_
  refine sy_cond hf rfl (fun hg4 => ?_) (fun hg4 => ?_)
  · have hG4 := hg4; try simp only [gS] at hG4
    refine sy_seq ?_
    refine sy_ops ?_
    refine ops_v hf hh (yv_move rfl) (.inl rfl) rfl rfl rfl ?_; clear hf; clear a; intro a hf
    first | refine ops_store (i := 0) hf hh rfl rfl rfl Tryd.sz_54 rfl rfl rfl (.inl rfl) fun w hh => ?_ | refine ops_store (i := 1) hf hh rfl rfl rfl Tryd.sz_54 rfl rfl rfl (.inl rfl) fun w hh => ?_ | refine ops_store (i := 2) hf hh rfl rfl rfl Tryd.sz_54 rfl rfl rfl (.inl rfl) fun w hh => ?_ | refine ops_store (i := 3) hf hh rfl rfl rfl Tryd.sz_54 rfl rfl rfl (.inl rfl) fun w hh => ?_ | refine ops_store (i := 4) hf hh rfl rfl rfl Tryd.sz_54 rfl rfl rfl (.inl rfl) fun w hh => ?_ | refine ops_store (i := 5) hf hh rfl rfl rfl Tryd.sz_54 rfl rfl rfl (.inl rfl) fun w hh => ?_ | refine ops_store (i := 6) hf hh rfl rfl rfl Tryd.sz_54 rfl rfl rfl (.inl rfl) fun w hh => ?_ | refine ops_store (i := 7) hf hh rfl rfl rfl Tryd.sz_54 rfl rfl rfl (.inl rfl) fun w hh => ?_ | refine ops_store (i := 8) hf hh rfl rfl rfl Tryd.sz_54 rfl rfl rfl (.inl rfl) fun w hh => ?_
    refine ops_end ?_
    refine then_n ?_
    refine sy_ret ?_
    refine then_r ?_
    refine ng_r ?_
    rw [if_pos (by assumption)] at hh
    refine ret_mb (Ds := []) (H := [(B4, .cells #[.int .u64 (taken b p : Nat)] 54), (bm, .map es cm)]) hf hh fun w' hh => ?_
    exact ⟨[.int .u64 (taken b p : Nat)], ⟨⟨B4, 0, _, _, _, rfl, hh.at (i := 0) rfl, .inl ⟨Tryd.sc_54, rfl⟩⟩, True.intro⟩, rfl, es, cm, hM, hh.less (.cons _ (.refl _))⟩
  · have hG4 := hg4; try simp only [gS] at hG4
    refine sy_skip ?_
    refine then_n ?_
    refine sy_seq ?_
    refine sy_label ?_
    refine then_n ?_
    refine sy_seq ?_
    refine sy_seq ?_
    refine sy_ops ?_
    refine ops_v hf hh (yv_move rfl) (.inl rfl) rfl rfl rfl ?_; clear hf; clear a; intro a hf
    refine ops_v hf hh (yv_nilCheck rfl) (.inl rfl) rfl rfl rfl ?_; clear hf; clear a; intro a hf
    refine ops_v hf hh (yv_fieldAddr Tryd.fo_90_0 rfl) (.inl rfl) rfl rfl rfl ?_; clear hf; clear a; intro a hf
    refine ops_v hf hh (yv_fieldAddr Tryd.fo_24_4 rfl) (.inl rfl) rfl rfl rfl ?_; clear hf; clear a; intro a hf
    refine ops_v hf hh (yv_load Tryd.sc_22 rfl (fun _ h => by first | exact h.at (i := 0) rfl | exact h.at (i := 1) rfl | exact h.at (i := 2) rfl | exact h.at (i := 3) rfl | exact h.at (i := 4) rfl | exact h.at (i := 5) rfl | exact h.at (i := 6) rfl | exact h.at (i := 7) rfl | exact h.at (i := 8) rfl | exact h.oldM hb hn1) (by first | rfl | assumption)) (.inl rfl) rfl rfl rfl ?_; clear hf; clear a; intro a hf
    refine ops_v hf hh (yv_len Tryd.se_22 rfl) (.inl rfl) rfl rfl rfl ?_; clear hf; clear a; intro a hf
    refine ops_v hf hh (yv_move rfl) (.inl rfl) rfl rfl rfl ?_; clear hf; clear a; intro a hf
    refine ops_end ?_
    refine then_n ?_
    refine sy_block ?_
    refine sy_loopM (σ := Nat × List Nat) [7, 25, 26, 27, 28, 29, 30, 31, 38] (fun q => mkd (q.2)) (fun q => [(25, .int .i64 (q.1 : Nat))]) (fun q => fun w' => q.1 ≤ b.scenes.length ∧ Hp u [bm] ([(B4, .cells #[.int .u64 (takenTo b p q.1 : Nat)] 54), (bm, .map es cm)] ++ dls q.2) w') (fun q => b.scenes.length - q.1) ((0, [])) hf rfl ?_ ?_ ?_
    · repeat' (first | exact True.intro | refine And.intro rfl ?_)
    · refine ⟨Nat.zero_le _, ?_⟩
      show Hp u [bm] [(B4, .cells #[.int .u64 ((takenTo b p 0 : Nat) : Int)] 54), (bm, .map es cm)] w
      rw [takenTo_zero]; exact hh
    · rintro q a w ⟨hq1, hh⟩ hf
      refine sy_seq ?_
      refine sy_ops ?_
      refine ops_v hf hh (yv_bin rfl rfl rfl) (.inl rfl) rfl rfl rfl ?_; clear hf; clear a; intro a hf
      refine ops_end ?_
      refine then_n ?_
      refine sy_seq ?_
      refine sy_cond hf rfl (fun hg6 => ?_) (fun hg6 => ?_)
      · have hG6 := hg6; try simp only [gS] at hG6
        refine sy_skip ?_
        refine then_n ?_
        refine sy_seq ?_
        refine sy_block ?_
        refine sy_seq ?_
        obtain ⟨s, hs⟩ := scn_of (l := b.scenes) (i := q.1) (by omega)
        have hO := hV.sc s (List.mem_of_getElem? hs)
        have hst := takenTo_step b p q.1 s hs
        have hnil := pairsP_nil hV hO hp
        refine sy_ops ?_
        refine ops_v hf hh (yv_move rfl) (.inl rfl) rfl rfl rfl ?_; clear hf; clear a; intro a hf
        refine ops_alloc hf hh Tryd.ze_3 (.inl rfl) rfl ?_; clear hf hh; clear a; intro B7 a w hf hh
        first | refine ops_store (i := 0) hf hh rfl rfl rfl Tryd.sz_3 rfl rfl rfl (.inl rfl) fun w hh => ?_ | refine ops_store (i := 1) hf hh rfl rfl rfl Tryd.sz_3 rfl rfl rfl (.inl rfl) fun w hh => ?_ | refine ops_store (i := 2) hf hh rfl rfl rfl Tryd.sz_3 rfl rfl rfl (.inl rfl) fun w hh => ?_ | refine ops_store (i := 3) hf hh rfl rfl rfl Tryd.sz_3 rfl rfl rfl (.inl rfl) fun w hh => ?_ | refine ops_store (i := 4) hf hh rfl rfl rfl Tryd.sz_3 rfl rfl rfl (.inl rfl) fun w hh => ?_ | refine ops_store (i := 5) hf hh rfl rfl rfl Tryd.sz_3 rfl rfl rfl (.inl rfl) fun w hh => ?_ | refine ops_store (i := 6) hf hh rfl rfl rfl Tryd.sz_3 rfl rfl rfl (.inl rfl) fun w hh => ?_ | refine ops_store (i := 7) hf hh rfl rfl rfl Tryd.sz_3 rfl rfl rfl (.inl rfl) fun w hh => ?_ | refine ops_store (i := 8) hf hh rfl rfl rfl Tryd.sz_3 rfl rfl rfl (.inl rfl) fun w hh => ?_
        refine ops_end ?_
        refine then_n ?_
        refine sy_seq ?_
        refine sy_ops ?_
        refine ops_v hf hh (yv_move rfl) (.inl rfl) rfl rfl rfl ?_; clear hf; clear a; intro a hf
        refine ops_v hf hh (yv_move rfl) (.inl rfl) rfl rfl rfl ?_; clear hf; clear a; intro a hf
        refine ops_v hf hh (yv_load Tryd.sc_3 rfl (fun _ h => by first | exact h.at (i := 0) rfl | exact h.at (i := 1) rfl | exact h.at (i := 2) rfl | exact h.at (i := 3) rfl | exact h.at (i := 4) rfl | exact h.at (i := 5) rfl | exact h.at (i := 6) rfl | exact h.at (i := 7) rfl | exact h.at (i := 8) rfl | exact h.oldM hb hn1) (by first | rfl | assumption)) (.inl rfl) rfl rfl rfl ?_; clear hf; clear a; intro a hf
        refine ops_call hf Tryd.en_42 rfl rfl rfl (.inl rfl) rfl (c42 bp p q.1 _) ?_; clear hf; clear a; intro v a w hR hf
        obtain ⟨B1, B2, B3, rfl, hx⟩ := hR; replace hh := hh.join hx; clear hx
        refine ops_end ?_
        refine then_n ?_
        refine sy_block ?_
        refine sy_range (I := fun j H => j = 0 ∧ H = (B2, .cells #[.int .i64 ((q.1 : Nat) : Int)] 3) :: (B3, .cells #[.int .u64 p] 56) :: (B1, .cells #[ptr bp 0] 50) :: (B7, .cells #[.int .i64 ((q.1 : Nat) : Int)] 3) :: (B4, .cells #[.int .u64 (takenTo b p q.1 : Nat)] 54) :: (bm, .map es cm) :: dls q.2) (X := fun j c H => c = .exit 1 ∧ pairsP b p s ≠ [] ∧ H = (B2, .cells #[.int .i64 ((q.1 : Nat) : Int)] 3) :: (B3, .cells #[.int .u64 p] 56) :: (B1, .cells #[ptr bp 0] 50) :: (B7, .cells #[.int .i64 ((q.1 : Nat) : Int)] 3) :: (B4, .cells #[.int .u64 (takenTo b p (q.1 + 1) : Nat)] 54) :: (bm, .map es cm) :: dls q.2) hf hh Tryd.en_62 rfl (it62 b sa sc bp bm p q.1 B1 B2 B3 s hV hs hp16) rfl (by intro x hx; obtain ⟨y, _, rfl⟩ := List.mem_map.1 hx; rfl) ?_ ?_ ?_ ?_ ?_
        · exact ⟨rfl, rfl⟩
        · rintro _ _ l D o w ⟨rfl, rfl⟩ h
          have hA2 := hA.ext h.ext (by simp)
          exact ⟨h.at (i := 4) rfl, h.at (i := 2) rfl, h.at (i := 3) rfl, hA2.bo, hA2.sn, hA2.gt⟩
        · rintro j x fn D l H w a tm hx ⟨hz, rfl⟩ hh hf
          have hne : pairsP b p s ≠ [] := by intro e; rw [e] at hx; simp at hx
          obtain ⟨y, rfl⟩ : ∃ y, x = tw y := by
            obtain ⟨y, _, e⟩ := List.mem_map.1 (List.mem_of_getElem? hx)
            exact ⟨y, e.symm⟩
          refine sy_skip ?_
          refine then_n (Go.Sy.begun (i := 0) hh rfl fun w hh => ?_)
          refine sy_block ?_
          refine sy_seq ?_
          have htl := takenTo_lt b p q.1
          have hp10 : 2 ^ q.1 ≤ 2 ^ 10 := Nat.pow_le_pow_right (by omega) (by omega)
          refine sy_tail (C := Hp _ _ _) 3 Tryd.follows (by kernel_rfl) rfl rfl (hh.drawn _) ?_
          refine q_v hf (yv_load Tryd.sc_54 rfl (fun _ h => by first | exact h.at (i := 0) rfl | exact h.at (i := 1) rfl | exact h.at (i := 2) rfl | exact h.at (i := 3) rfl | exact h.at (i := 4) rfl | exact h.at (i := 5) rfl | exact h.at (i := 6) rfl | exact h.at (i := 7) rfl | exact h.at (i := 8) rfl | exact h.oldM hb hn1) (by first | rfl | assumption)) (.inl rfl) rfl rfl ?_; clear hf; clear a; intro a hf
          refine q_v hf (yv_load Tryd.sc_3 rfl (fun _ h => by first | exact h.at (i := 0) rfl | exact h.at (i := 1) rfl | exact h.at (i := 2) rfl | exact h.at (i := 3) rfl | exact h.at (i := 4) rfl | exact h.at (i := 5) rfl | exact h.at (i := 6) rfl | exact h.at (i := 7) rfl | exact h.at (i := 8) rfl | exact h.oldM hb hn1) (by first | rfl | assumption)) (.inl rfl) rfl rfl ?_; clear hf; clear a; intro a hf
          refine q_v hf (yv_cast (yv_shl1 (.inr rfl) rfl rfl (by omega) (by omega)) (intv (b := ((2 ^ q.1 : Nat) : Int)) rfl)) (.inl rfl) rfl rfl ?_; clear hf; clear a; intro a hf
          refine q_end fun w hh => ?_
          refine ops_buildSl hf hh Tryd.bl_104_2 rfl rfl (.inl rfl) rfl ?_; clear hf hh; clear a; intro B36 a w hf hh
          refine ops_call hf Tryd.en_60 rfl rfl rfl (.inl rfl) rfl (c60 (takenTo b p q.1) (2 ^ q.1) (by omega) (by omega) _ _ _ _ (hh.at (i := 0) rfl)) ?_; clear hf; clear a; intro v a w hR hf
          obtain ⟨rfl, hx⟩ := hR; replace hh := hh.more hx; clear hx
          first | refine ops_store (i := 0) hf hh rfl rfl rfl Tryd.sz_54 rfl rfl rfl (.inl rfl) fun w hh => ?_ | refine ops_store (i := 1) hf hh rfl rfl rfl Tryd.sz_54 rfl rfl rfl (.inl rfl) fun w hh => ?_ | refine ops_store (i := 2) hf hh rfl rfl rfl Tryd.sz_54 rfl rfl rfl (.inl rfl) fun w hh => ?_ | refine ops_store (i := 3) hf hh rfl rfl rfl Tryd.sz_54 rfl rfl rfl (.inl rfl) fun w hh => ?_ | refine ops_store (i := 4) hf hh rfl rfl rfl Tryd.sz_54 rfl rfl rfl (.inl rfl) fun w hh => ?_ | refine ops_store (i := 5) hf hh rfl rfl rfl Tryd.sz_54 rfl rfl rfl (.inl rfl) fun w hh => ?_ | refine ops_store (i := 6) hf hh rfl rfl rfl Tryd.sz_54 rfl rfl rfl (.inl rfl) fun w hh => ?_ | refine ops_store (i := 7) hf hh rfl rfl rfl Tryd.sz_54 rfl rfl rfl (.inl rfl) fun w hh => ?_ | refine ops_store (i := 8) hf hh rfl rfl rfl Tryd.sz_54 rfl rfl rfl (.inl rfl) fun w hh => ?_
          refine ops_end ?_
          refine then_n ?_
          refine sy_exit ?_
          refine blk_x rfl ?_
          have hu : takenTo b p q.1 ||| 2 ^ q.1 = takenTo b p (q.1 + 1) := by
            rw [taken_or, hst, if_pos]
            cases hbb : best b p s with
            | none => exact absurd (hnil.2 hbb) hne
            | some x => rfl
          rw [hu] at hh
          exact ⟨_, ⟨rfl, hne, rfl⟩, (hh.less (.cons _ (List.Sublist.refl _)))⟩
        · rintro D H a w ⟨hz, rfl⟩ hf hh
          have hz' : pairsP b p s = [] := by simpa using hz
          have hu : takenTo b p q.1 = takenTo b p (q.1 + 1) := by rw [hst, if_neg]; rw [hnil.1 hz']; simp
          rw [hu] at hh
          refine blk_n ?_
          refine blk_n ?_
          refine then_n ?_
          refine sy_ops ?_
          first | refine ops_v hf hh (yv_add rfl rfl (by omega) (by omega)) (.inl rfl) rfl rfl rfl ?_; clear hf; clear a; intro a hf | refine ops_v hf hh (yv_bin rfl rfl rfl) (.inl rfl) rfl rfl rfl ?_; clear hf; clear a; intro a hf
          refine ops_v hf hh (yv_move rfl) (.inl rfl) rfl rfl rfl ?_; clear hf; clear a; intro a hf
          refine ops_end ?_
          refine then_n ?_
          first
            | exact ⟨(q.1 + 1, D :: q.2), ⟨⟨by show q.1 + 1 ≤ _; omega, Hp.mark (X := [(B4, .cells #[.int .u64 (takenTo b p (q.1 + 1) : Nat)] 54), (bm, .map es cm)]) (hh.less (.cons_cons _ (.cons _ (.cons _ (.cons _ (.cons _ (.refl _)))))))⟩, hf.head ⟨rfl, True.intro⟩ (Keep.cons rfl (Keep.cons rfl (Keep.cons rfl (Keep.cons rfl (Keep.cons rfl (Keep.cons rfl (Keep.cons rfl (Keep.cons rfl (Keep.cons rfl (Keep.app rfl (Keep.rm rfl Keep.base)))))))))))⟩, by show b.scenes.length - (q.1 + 1) < _; omega⟩
        · rintro j c D H a w hX hf hh
          obtain ⟨rfl, hne, rfl⟩ := hX
          refine sy_exit ?_
          refine blk_x rfl ?_
          refine blk_e ?_
          refine then_n ?_
          refine sy_ops ?_
          first | refine ops_v hf hh (yv_add rfl rfl (by omega) (by omega)) (.inl rfl) rfl rfl rfl ?_; clear hf; clear a; intro a hf | refine ops_v hf hh (yv_bin rfl rfl rfl) (.inl rfl) rfl rfl rfl ?_; clear hf; clear a; intro a hf
          refine ops_v hf hh (yv_move rfl) (.inl rfl) rfl rfl rfl ?_; clear hf; clear a; intro a hf
          refine ops_end ?_
          refine then_n ?_
          first
            | exact ⟨(q.1 + 1, D :: q.2), ⟨⟨by show q.1 + 1 ≤ _; omega, Hp.mark (X := [(B4, .cells #[.int .u64 (takenTo b p (q.1 + 1) : Nat)] 54), (bm, .map es cm)]) (hh.less (.cons_cons _ (.cons _ (.cons _ (.cons _ (.cons _ (.refl _)))))))⟩, hf.head ⟨rfl, True.intro⟩ (Keep.cons rfl (Keep.cons rfl (Keep.cons rfl (Keep.cons rfl (Keep.cons rfl (Keep.cons rfl (Keep.cons rfl (Keep.cons rfl (Keep.cons rfl (Keep.app rfl (Keep.rm rfl Keep.base)))))))))))⟩, by show b.scenes.length - (q.1 + 1) < _; omega⟩
      · have hG6 := hg6; try simp only [gS] at hG6
        refine sy_exit ?_
        refine then_e ?_
        refine then_e ?_
        refine blk_e ?_
        refine then_n ?_
        refine sy_seq ?_
        have hkk : q.1 = b.scenes.length := by omega
        have ht : takenTo b p q.1 = taken b p := by rw [hkk]; unfold taken; rfl
        rw [ht] at hh
        refine sy_tail (C := Hp _ _ _) 6 Tryd.follows (by kernel_rfl) rfl rfl (hh.drawn _) ?_
        refine q_v hf (yv_move rfl) (.inl rfl) rfl rfl ?_; clear hf; clear a; intro a hf
        refine q_v hf (yv_nilCheck rfl) (.inl rfl) rfl rfl ?_; clear hf; clear a; intro a hf
        refine q_v hf (yv_fieldAddr Tryd.fo_90_2 rfl) (.inl rfl) rfl rfl ?_; clear hf; clear a; intro a hf
        refine q_v hf (yv_load Tryd.sc_88 rfl (fun _ h => by first | exact h.at (i := 0) rfl | exact h.at (i := 1) rfl | exact h.at (i := 2) rfl | exact h.at (i := 3) rfl | exact h.at (i := 4) rfl | exact h.at (i := 5) rfl | exact h.at (i := 6) rfl | exact h.at (i := 7) rfl | exact h.at (i := 8) rfl | exact h.oldM hb hn1) (by first | rfl | assumption)) (.inl rfl) rfl rfl ?_; clear hf; clear a; intro a hf
        refine q_v hf (yv_move rfl) (.inl rfl) rfl rfl ?_; clear hf; clear a; intro a hf
        refine q_v hf (yv_load Tryd.sc_54 rfl (fun _ h => by first | exact h.at (i := 0) rfl | exact h.at (i := 1) rfl | exact h.at (i := 2) rfl | exact h.at (i := 3) rfl | exact h.at (i := 4) rfl | exact h.at (i := 5) rfl | exact h.at (i := 6) rfl | exact h.at (i := 7) rfl | exact h.at (i := 8) rfl | exact h.oldM hb hn1) (by first | rfl | assumption)) (.inl rfl) rfl rfl ?_; clear hf; clear a; intro a hf
        refine q_end fun w hh => ?_
        refine ops_mapUpdate (i := 1) (F := memF b) hf hh Tryd.mt_88 rfl rfl rfl rfl hM (.inl rfl) fun es2 cm2 w hM2 hh => ?_
        refine ops_end ?_
        refine then_n ?_
        refine sy_seq ?_
        refine sy_ops ?_
        refine ops_v hf hh (yv_load Tryd.sc_54 rfl (fun _ h => by first | exact h.at (i := 0) rfl | exact h.at (i := 1) rfl | exact h.at (i := 2) rfl | exact h.at (i := 3) rfl | exact h.at (i := 4) rfl | exact h.at (i := 5) rfl | exact h.at (i := 6) rfl | exact h.at (i := 7) rfl | exact h.at (i := 8) rfl | exact h.oldM hb hn1) (by first | rfl | assumption)) (.inl rfl) rfl rfl rfl ?_; clear hf; clear a; intro a hf
        first | refine ops_store (i := 0) hf hh rfl rfl rfl Tryd.sz_54 rfl rfl rfl (.inl rfl) fun w hh => ?_ | refine ops_store (i := 1) hf hh rfl rfl rfl Tryd.sz_54 rfl rfl rfl (.inl rfl) fun w hh => ?_ | refine ops_store (i := 2) hf hh rfl rfl rfl Tryd.sz_54 rfl rfl rfl (.inl rfl) fun w hh => ?_ | refine ops_store (i := 3) hf hh rfl rfl rfl Tryd.sz_54 rfl rfl rfl (.inl rfl) fun w hh => ?_ | refine ops_store (i := 4) hf hh rfl rfl rfl Tryd.sz_54 rfl rfl rfl (.inl rfl) fun w hh => ?_ | refine ops_store (i := 5) hf hh rfl rfl rfl Tryd.sz_54 rfl rfl rfl (.inl rfl) fun w hh => ?_ | refine ops_store (i := 6) hf hh rfl rfl rfl Tryd.sz_54 rfl rfl rfl (.inl rfl) fun w hh => ?_ | refine ops_store (i := 7) hf hh rfl rfl rfl Tryd.sz_54 rfl rfl rfl (.inl rfl) fun w hh => ?_ | refine ops_store (i := 8) hf hh rfl rfl rfl Tryd.sz_54 rfl rfl rfl (.inl rfl) fun w hh => ?_
        refine ops_end ?_
        refine then_n ?_
        refine sy_ret ?_
        refine ng_r ?_
        refine ret_mb (Ds := q.2) (H := [(B4, .cells #[.int .u64 (taken b p : Nat)] 54), (bm, .map es2 cm2)]) hf hh fun w' hh => ?_
        exact ⟨[.int .u64 (taken b p : Nat)], ⟨⟨B4, 0, _, _, _, rfl, hh.at (i := 0) rfl, .inl ⟨Tryd.sc_54, rfl⟩⟩, True.intro⟩, rfl, es2, cm2, hM2, hh.less (.cons _ (.refl _))⟩
end Go.Proofs.YtkolcbjghphjeaaDoor
