/- BarWhy, walked: the closure, and four cases. -/
import Derived.Test.YtkolcbjghphjeaaDoorB26
import Derived.Test.YtkolcbjghphjeaaDoorN7
namespace Go.Proofs.YtkolcbjghphjeaaDoor
open Go Go.Sy Go.BarM
theorem iv_get {l : List Nat} {k i : Nat} (h : l[k]? = some i) : ((l.map iv).toArray)[0 + ((k : Nat) : Int).toNat * 1]? = some (.int .i64 (i : Nat)) := by
  rw [Nat.zero_add, Int.toNat_natCast, Nat.mul_one, List.getElem?_toArray, List.getElem?_map, h]; rfl
set_option maxRecDepth 100000 in
set_option maxHeartbeats 4000000 in
theorem c32 (b : BarD) (sa : Option Addr) (sc Bb Bl : Nat) (l : List Nat) (u : World) (hV : Valid b) (hT : GTab u) (hS : ScAt u sa b.scenes) (hlen : l.length ≤ 2) (hl : ∀ i ∈ l, i < b.scenes.length) (hb : u.heap[Bb]? = some (.cells #[.int .i64 b.slots, .int .i64 b.pitch, .int .i64 b.broken, .int .i64 b.most, .slice sa b.scenes.length sc] 24 (0, 0)))
    (hbl : u.heap[Bl]? = some (.cells (l.map iv).toArray 3 (0, 0))) : Calls Tryd.prog 32 #[.slice (some ⟨Bl, 0, none⟩) l.length l.length, ptr Bb 0] u (Ret fun v w' => v = .bool (decide (fewE (subB b l) = 0)) ∧ Ext [] u w') := by
  refine calls_of Tryd.func32 rfl rfl (fun a hf => ?_)
  have hh := Hp.init u []
  have hn := hV.n
  refine sy_seq ?_
  refine sy_ops ?_
  refine ops_v hf hh (yv_assign rfl) (.inl rfl) rfl rfl rfl ?_; clear hf; clear a; intro a hf
  refine ops_end ?_
  refine then_n ?_
  refine sy_seq ?_
  refine sy_ops ?_
  refine ops_v hf hh (yv_loads Tryd.ag_24 rfl (fun _ h => by first | exact h.at (i := 0) rfl | exact h.at (i := 1) rfl | exact h.old hb | exact h.old hbl) (by first | assumption | rfl)) (.inl rfl) rfl rfl rfl ?_; clear hf; clear a; intro a hf
  refine ops_alloc hf hh Tryd.ze_24 (.inl rfl) rfl ?_; clear hf hh; clear a; intro B4 a w hf hh
  first | refine ops_store (i := 0) hf hh rfl rfl rfl Tryd.sz_24 rfl rfl rfl (.inl rfl) fun w hh => ?_ | refine ops_store (i := 1) hf hh rfl rfl rfl Tryd.sz_24 rfl rfl rfl (.inl rfl) fun w hh => ?_
  refine ops_end ?_
  refine then_n ?_
  refine sy_seq ?_
  refine sy_ops ?_
  refine ops_v hf hh (yv_fieldAddr Tryd.fo_24_4 rfl) (.inl rfl) rfl rfl rfl ?_; clear hf; clear a; intro a hf
  first | refine ops_store (i := 0) hf hh rfl rfl rfl Tryd.sz_22 rfl rfl rfl (.inl rfl) fun w hh => ?_ | refine ops_store (i := 1) hf hh rfl rfl rfl Tryd.sz_22 rfl rfl rfl (.inl rfl) fun w hh => ?_
  refine ops_end ?_
  refine then_n ?_
  refine sy_seq ?_
  refine sy_seq ?_
  refine sy_ops ?_
  refine ops_v hf hh (yv_move rfl) (.inl rfl) rfl rfl rfl ?_; clear hf; clear a; intro a hf
  refine ops_v hf hh (yv_len Tryd.se_45 rfl) (.inl rfl) rfl rfl rfl ?_; clear hf; clear a; intro a hf
  refine ops_v hf hh (yv_move rfl) (.inl rfl) rfl rfl rfl ?_; clear hf; clear a; intro a hf
  refine ops_end ?_
  refine then_n ?_
  refine sy_block ?_
  refine sy_loopH (σ := Nat) [6, 13, 14, 15, 16, 17, 18, 19, 20, 21, 22, 23, 24, 25, 26, 27] (fun k => [(13, .int .i64 k)]) (fun k => fun w' => k ≤ l.length ∧ ∃ v X, OwnSl 39 3 v k (encS (subs b l k)) X ∧ Hp u [] ((B4, .cells #[.int .i64 b.slots, .int .i64 b.pitch, .int .i64 b.broken, .int .i64 b.most, v] 24) :: X) w') (fun k => l.length - k) (0) hf ?_ ?_ ?_
  · repeat' (first | exact True.intro | refine And.intro rfl ?_)
  · refine ⟨Nat.zero_le _, .slice none 0 0, [], ?_, hh⟩; rw [subs_zero]; exact OwnSl.nil _ _
  · rintro k a w ⟨hk, v, X, hown, hh⟩ hf
    refine sy_seq ?_
    refine sy_ops ?_
    refine ops_v hf hh (yv_bin rfl rfl rfl) (.inl rfl) rfl rfl rfl ?_; clear hf; clear a; intro a hf
    refine ops_end ?_
    refine then_n ?_
    refine sy_seq ?_
    refine sy_cond hf rfl (fun hg2 => ?_) (fun hg2 => ?_)
    · have hG2 := hg2; try simp only [gS] at hG2
      refine sy_skip ?_
      refine then_n ?_
      refine sy_seq ?_
      refine sy_block ?_
      refine sy_seq ?_
      obtain ⟨i, hi⟩ : ∃ i, l[k]? = some i := ⟨l[k]'(by omega), List.getElem?_eq_getElem _⟩
      have hiv := iv_get hi
      have hil := hl i (List.mem_of_getElem? hi)
      obtain ⟨s, hs⟩ := scn_of hil
      have hstp := subs_step hi hs
      obtain ⟨blk, off, c, T, fr, e, hbk, hc⟩ := hS i s hs
      subst e
      obtain ⟨oa, cap, rfl⟩ := OwnSl.form hown
      refine sy_ops ?_
      refine ops_v hf hh (yv_indexAddr Tryd.se_45 rfl rfl (by omega) (by omega)) (.inl rfl) rfl rfl rfl ?_; clear hf; clear a; intro a hf
      refine ops_v hf hh (yv_load Tryd.sc_3 rfl (fun _ h => by first | exact h.at (i := 0) rfl | exact h.at (i := 1) rfl | exact h.old hb | exact h.old hbl) (by first | rfl | assumption)) (.inl rfl) rfl rfl rfl ?_; clear hf; clear a; intro a hf
      refine ops_v hf hh (yv_assign rfl) (.inl rfl) rfl rfl rfl ?_; clear hf; clear a; intro a hf
      refine ops_end ?_
      refine then_n ?_
      refine sy_mixH [0, 1, 2, 3, 4, 5, 6, 7, 8, 9, 10] [0, 1, 2, 3, 4, 5, 6] [8, 9, 10] Tryd.follows (by kernel_rfl) hh (fun w hh => ?_)
      refine mx_v rfl rfl hh hf (yv_fieldAddr Tryd.fo_24_4 rfl) (.inl rfl) rfl rfl ?_; clear hf; clear a; intro a hf
      refine mx_v rfl rfl hh hf (yv_load Tryd.sc_22 rfl (fun _ h => by first | exact h.at (i := 0) rfl | exact h.at (i := 1) rfl | exact h.old hb | exact h.old hbl) (by first | rfl | assumption)) (.inl rfl) rfl rfl ?_; clear hf; clear a; intro a hf
      refine mx_v rfl rfl hh hf (yv_fieldAddr Tryd.fo_24_4 rfl) (.inl rfl) rfl rfl ?_; clear hf; clear a; intro a hf
      refine mx_v rfl rfl hh hf (yv_load Tryd.sc_22 rfl (fun _ h => by first | exact h.at (i := 0) rfl | exact h.at (i := 1) rfl | exact h.old hb | exact h.old hbl) (by first | rfl | assumption)) (.inl rfl) rfl rfl ?_; clear hf; clear a; intro a hf
      refine mx_v rfl rfl hh hf (yv_move rfl) (.inl rfl) rfl rfl ?_; clear hf; clear a; intro a hf
      refine mx_v rfl rfl hh hf (yv_indexAddr Tryd.se_22 rfl rfl (by omega) (by omega)) (.inl rfl) rfl rfl ?_; clear hf; clear a; intro a hf
      refine mx_v rfl rfl hh hf (yv_loads Tryd.ag_39 rfl (fun _ h => h.old hbk) (by assumption)) (.inl rfl) rfl rfl ?_; clear hf; clear a; intro a hf
      refine mx_e rfl rfl fun Q1 => ?_
      refine ops_buildSl hf hh Tryd.bl_22_1 rfl rfl (.inl rfl) rfl ?_; clear hf hh; clear a; intro B24 a w hf hh
      refine ops_end ?_
      refine then_n ⟨fun _ => (hh.less (.cons _ (List.Sublist.refl _))), ?_⟩
      refine mx_e rfl rfl fun Q1 => ?_
      replace hh := hh.perm (H' := (B24, .cells #[.int .i64 s.least, .int .i64 s.most, .int .i64 s.calm] 39) :: (X ++ [_])) (List.Perm.cons _ (List.perm_append_comm (l₁ := [_])))
      refine ops_append (e := 39) (size := 3) (xs := encS (subs b l k)) hf hh Tryd.eb_22 rfl rfl hown rfl rfl rfl (by simp only [maxLen]; omega) (by omega) (.inl rfl) rfl ?_; clear hf hh; clear a; intro v2 X2 a w hown2 hf hh
      replace hh := hh.perm (H' := [_] ++ X2) List.perm_append_comm
      obtain ⟨oa2, cap2, rfl⟩ := OwnSl.form hown2
      refine ops_end ?_
      refine then_n ⟨fun h => absurd h (by decide), ?_⟩
      refine mx_e rfl rfl fun Q1 => ?_
      refine ops_v hf hh (yv_fieldAddr Tryd.fo_24_4 rfl) (.inl rfl) rfl rfl rfl ?_; clear hf; clear a; intro a hf
      refine ops_end ?_
      refine then_n ⟨fun h => absurd h (by decide), ?_⟩
      refine mx_e rfl rfl fun Q1 => ?_
      first | refine ops_store (i := 0) hf hh rfl rfl rfl Tryd.sz_22 rfl rfl rfl (.inl rfl) fun w hh => ?_ | refine ops_store (i := 1) hf hh rfl rfl rfl Tryd.sz_22 rfl rfl rfl (.inl rfl) fun w hh => ?_
      refine ops_end ?_
      refine then_n ⟨fun h => absurd h (by decide), ?_⟩
      refine mx_end ?_
      refine blk_n ?_
      refine then_n ?_
      refine sy_ops ?_
      first | refine ops_v hf hh (yv_add rfl rfl (by omega) (by omega)) (.inl rfl) rfl rfl rfl ?_; clear hf; clear a; intro a hf | refine ops_v hf hh (yv_bin rfl rfl rfl) (.inl rfl) rfl rfl rfl ?_; clear hf; clear a; intro a hf
      refine ops_v hf hh (yv_move rfl) (.inl rfl) rfl rfl rfl ?_; clear hf; clear a; intro a hf
      refine ops_end ?_
      refine then_n ?_
      rw [← encS_snoc, ← hstp] at hown2
      exact ⟨k + 1, ⟨⟨by omega, _, X2, hown2, hh⟩, hf.head ⟨rfl, True.intro⟩ (Keep.cons rfl (Keep.cons rfl (Keep.cons rfl (Keep.cons rfl (Keep.cons rfl (Keep.cons rfl (Keep.cons rfl (Keep.cons rfl (Keep.cons rfl (Keep.cons rfl (Keep.cons rfl (Keep.cons rfl (Keep.cons rfl (Keep.cons rfl (Keep.cons rfl (Keep.cons rfl (Keep.app rfl (Keep.rm rfl Keep.base))))))))))))))))))⟩, by omega⟩
    · have hG2 := hg2; try simp only [gS] at hG2
      refine sy_exit ?_
      refine then_e ?_
      refine then_e ?_
      refine blk_e ?_
      refine then_n ?_
      refine sy_seq ?_
      have hkk : k = l.length := by omega
      subst hkk
      obtain ⟨oa, cap, rfl⟩ := OwnSl.form hown
      have hsl := subB_len hl
      rw [subs_all] at hown
      have hSx : ∀ w, Hp u [] ((B4, .cells #[.int .i64 b.slots, .int .i64 b.pitch, .int .i64 b.broken, .int .i64 b.most, .slice oa l.length cap] 24) :: X) w → ScAt w oa (subB b l).scenes := fun w h => scAt_of (cap := cap) (by rw [hsl]; exact hown) h (fun x hx => by simp [hx])
      have hc18 : ∀ w, ScAt w oa (subB b l).scenes → GTab w → Calls Tryd.prog 18 #[.agg #[.int .i64 b.slots, .int .i64 b.pitch, .int .i64 b.broken, .int .i64 b.most, .slice oa l.length cap]] w (Ret fun v w' => v = .tuple #[.int .i64 (fewP (subB b l)), .int .i64 (fewE (subB b l))] ∧ Ext [] w w') := fun w h1 h2 => by
        have h : Calls Tryd.prog 18 #[.agg #[.int .i64 b.slots, .int .i64 b.pitch, .int .i64 b.broken, .int .i64 b.most, .slice oa (subB b l).scenes.length cap]] w (Ret fun v w' => v = .tuple #[.int .i64 (fewP (subB b l)), .int .i64 (fewE (subB b l))] ∧ Ext [] w w') := c18t (subB b l) oa cap w h1 h2
        rw [hsl] at h; exact h
      refine sy_ops ?_
      refine ops_v hf hh (yv_loads Tryd.ag_24 rfl (fun _ h => by first | exact h.at (i := 0) rfl | exact h.at (i := 1) rfl | exact h.old hb | exact h.old hbl) (by first | assumption | rfl)) (.inl rfl) rfl rfl rfl ?_; clear hf; clear a; intro a hf
      refine ops_call hf Tryd.en_18 rfl rfl rfl (.inl rfl) rfl (hc18 _ (hSx _ hh) (hT.ext hh.ext (by simp))) ?_; clear hf; clear a; intro v a w hR hf
      obtain ⟨rfl, hx⟩ := hR; replace hh := hh.more hx; clear hx
      refine ops_v hf hh (yv_move rfl) (.inl rfl) rfl rfl rfl ?_; clear hf; clear a; intro a hf
      refine ops_v hf hh (yv_extract rfl rfl) (.inl rfl) rfl rfl rfl ?_; clear hf; clear a; intro a hf
      refine ops_v hf hh (yv_extract rfl rfl) (.inl rfl) rfl rfl rfl ?_; clear hf; clear a; intro a hf
      refine ops_v hf hh (yv_assign rfl) (.inl rfl) rfl rfl rfl ?_; clear hf; clear a; intro a hf
      refine ops_v hf hh (yv_assign rfl) (.inl rfl) rfl rfl rfl ?_; clear hf; clear a; intro a hf
      refine ops_end ?_
      refine then_n ?_
      refine sy_seq ?_
      refine sy_ops ?_
      refine ops_v hf hh (yv_move rfl) (.inl rfl) rfl rfl rfl ?_; clear hf; clear a; intro a hf
      refine ops_v hf hh (yv_bin rfl rfl rfl) (.inl rfl) rfl rfl rfl ?_; clear hf; clear a; intro a hf
      refine ops_v hf hh (yv_assign rfl) (.inl rfl) rfl rfl rfl ?_; clear hf; clear a; intro a hf
      refine ops_end ?_
      refine then_n ?_
      refine sy_ret ?_
      refine ret_r hf rfl rfl ?_
      exact ⟨rfl, hh.ext⟩
theorem c32a (b : BarD) (sa : Option Addr) (sc Bb Bl i : Nat) (u : World) (hV : Valid b) (hT : GTab u) (hS : ScAt u sa b.scenes) (hi : i < b.scenes.length) (hb : u.heap[Bb]? = some (.cells #[.int .i64 b.slots, .int .i64 b.pitch, .int .i64 b.broken, .int .i64 b.most, .slice sa b.scenes.length sc] 24 (0, 0)))
    (hbl : u.heap[Bl]? = some (.cells #[.int .i64 (i : Nat)] 3 (0, 0))) : Calls Tryd.prog 32 #[.slice (some ⟨Bl, 0, none⟩) 1 1, ptr Bb 0] u (Ret fun v w' => v = .bool (!neverB b (2 ^ i)) ∧ Ext [] u w') := by
  obtain ⟨s, hs⟩ := scn_of hi
  have h := c32 b sa sc Bb Bl [i] u hV hT hS (by simp) (by simpa using hi) hb hbl
  rw [can_one hV hs] at h; exact h
theorem c32b (b : BarD) (sa : Option Addr) (sc Bb Bl i k : Nat) (u : World) (hV : Valid b) (hT : GTab u) (hS : ScAt u sa b.scenes) (hi : i < b.scenes.length) (hk : k < b.scenes.length) (hb : u.heap[Bb]? = some (.cells #[.int .i64 b.slots, .int .i64 b.pitch, .int .i64 b.broken, .int .i64 b.most, .slice sa b.scenes.length sc] 24 (0, 0)))
    (hbl : u.heap[Bl]? = some (.cells #[.int .i64 (i : Nat), .int .i64 (k : Nat)] 3 (0, 0))) : Calls Tryd.prog 32 #[.slice (some ⟨Bl, 0, none⟩) 2 2, ptr Bb 0] u (Ret fun v w' => v = .bool (!neverB b (2 ^ i ||| 2 ^ k)) ∧ Ext [] u w') := by
  obtain ⟨s, hs⟩ := scn_of hi
  obtain ⟨t, ht⟩ := scn_of hk
  have h := c32 b sa sc Bb Bl [i, k] u hV hT hS (by simp) (by simp [hi, hk]) hb hbl
  rw [can_two hV hs ht] at h; exact h
set_option maxRecDepth 100000 in
set_option maxHeartbeats 4000000 in
theorem c9a (b : BarD) (sa : Option Addr) (sc : Nat) (u : World) (hS : ScAt u sa b.scenes) (hT : GTab u) (y : Nat) (hy : y ≤ 65535) (hok : okBar b = false) : Calls Tryd.prog 9 #[barV b sa sc, .int .u16 (y : Nat)] u (Ret fun v w' => v = .bool true ∧ Ext [] u w') := by
  refine calls_of Tryd.func9 rfl rfl (fun a hf => ?_)
  have hh := Hp.init u []
  refine sy_seq ?_
  refine sy_ops ?_
  refine ops_box hf hh rfl (.inl rfl) rfl ?_; clear hf hh; clear a; intro B2 a w hf hh
  refine ops_v hf hh (yv_assign rfl) (.inl rfl) rfl rfl rfl ?_; clear hf; clear a; intro a hf
  refine ops_end ?_
  refine then_n ?_
  refine sy_seq ?_
  refine sy_seq ?_
  refine sy_ops ?_
  refine ops_v hf hh (yv_fieldAddr Tryd.fo_24_4 rfl) (.inl rfl) rfl rfl rfl ?_; clear hf; clear a; intro a hf
  refine ops_v hf hh (yv_load Tryd.sc_22 rfl (fun _ h => by first | exact h.at (i := 0) rfl) (by first | rfl | assumption)) (.inl rfl) rfl rfl rfl ?_; clear hf; clear a; intro a hf
  refine ops_v hf hh (yv_len Tryd.se_22 rfl) (.inl rfl) rfl rfl rfl ?_; clear hf; clear a; intro a hf
  refine ops_v hf hh (yv_bin rfl rfl rfl) (.inl rfl) rfl rfl rfl ?_; clear hf; clear a; intro a hf
  refine ops_v hf hh (yv_move rfl) (.inl rfl) rfl rfl rfl ?_; clear hf; clear a; intro a hf
  refine guard_split hf (t := 23) rfl (fun hg2 => ?_) (fun hg2 => ?_)
  · have hG2 := hg2; try simp only [gS] at hG2
    refine ops_off hf (goff rfl rfl rfl (by first | assumption | rfl | (simp; done) | (simp; omega))) rfl rfl ?_; clear hf; clear a; intro a hf
    refine ops_off hf (goff rfl rfl rfl (by first | assumption | rfl | (simp; done) | (simp; omega))) rfl rfl ?_; clear hf; clear a; intro a hf
    refine ops_v hf hh (yv_pick_t rfl (by first | assumption | rfl | (simp; done) | (simp; omega)) rfl) (.inl rfl) rfl rfl rfl ?_; clear hf; clear a; intro a hf
    refine ops_end ?_
    refine then_n ?_
    refine sy_ct hf rfl (by first | assumption | rfl | (simp; done) | (simp; omega)) ?_
    refine sy_seq ?_
    refine sy_ops ?_
    refine ops_call hf Tryd.en_12 rfl rfl rfl (.inl rfl) rfl (c12 _ (hT.ext hh.ext (by simp))) ?_; clear hf; clear a; intro v a w hR hf
    obtain ⟨rfl, hx⟩ := hR; replace hh := hh.more hx; clear hx
    refine ops_v hf hh (yv_assign rfl) (.inl rfl) rfl rfl rfl ?_; clear hf; clear a; intro a hf
    refine ops_end ?_
    refine then_n ?_
    refine sy_ret ?_
    refine then_r ?_
    refine ret_r hf rfl rfl ?_
    first | exact ⟨rfl, hh.ext⟩ | (exfalso; omega)
  · have hG2 := hg2; try simp only [gS] at hG2
    refine ops_v hf hh (yv_loads Tryd.ag_24 rfl (fun _ h => by first | exact h.at (i := 0) rfl) (by first | assumption | rfl)) (gon rfl rfl rfl (by first | assumption | rfl | (simp; done) | (simp; omega))) rfl rfl rfl ?_; clear hf; clear a; intro a hf
    refine ops_call hf Tryd.en_17 rfl rfl rfl (gon rfl rfl rfl (by first | assumption | rfl | (simp; done) | (simp; omega))) rfl (c17 b sa sc 7 _ (hS.ext hh.ext)) ?_; clear hf; clear a; intro v a w hR hf
    obtain ⟨rfl, hx⟩ := hR; replace hh := hh.more hx; clear hx
    refine ops_v hf hh (yv_pick_f rfl (by first | assumption | rfl | (simp; done) | (simp; omega)) rfl) (.inl rfl) rfl rfl rfl ?_; clear hf; clear a; intro a hf
    refine ops_end ?_
    refine then_n ?_
    refine sy_cond hf rfl (fun hg5 => ?_) (fun hg5 => ?_)
    · have hG5 := hg5; try simp only [gS] at hG5
      refine sy_seq ?_
      refine sy_ops ?_
      refine ops_call hf Tryd.en_12 rfl rfl rfl (.inl rfl) rfl (c12 _ (hT.ext hh.ext (by simp))) ?_; clear hf; clear a; intro v a w hR hf
      obtain ⟨rfl, hx⟩ := hR; replace hh := hh.more hx; clear hx
      refine ops_v hf hh (yv_assign rfl) (.inl rfl) rfl rfl rfl ?_; clear hf; clear a; intro a hf
      refine ops_end ?_
      refine then_n ?_
      refine sy_ret ?_
      refine then_r ?_
      refine ret_r hf rfl rfl ?_
      first | exact ⟨rfl, hh.ext⟩ | (exfalso; omega)
    · have hG5 := hg5; try simp only [gS] at hG5
      refine sy_skip ?_
      refine then_n ?_
      refine sy_seq ?_
      refine sy_ops ?_
      refine ops_v hf hh (yv_loads Tryd.ag_24 rfl (fun _ h => by first | exact h.at (i := 0) rfl) (by first | assumption | rfl)) (.inl rfl) rfl rfl rfl ?_; clear hf; clear a; intro a hf
      refine ops_call hf Tryd.en_26 rfl rfl rfl (.inl rfl) rfl (c26n b sa sc _ (hS.ext hh.ext) hok) ?_; clear hf; clear a; intro v a w hR hf
      obtain ⟨rfl, hx⟩ := hR; replace hh := hh.more hx; clear hx
      refine ops_v hf hh (yv_move rfl) (.inl rfl) rfl rfl rfl ?_; clear hf; clear a; intro a hf
      refine ops_v hf hh (yv_extract rfl rfl) (.inl rfl) rfl rfl rfl ?_; clear hf; clear a; intro a hf
      refine ops_v hf hh (yv_extract rfl rfl) (.inl rfl) rfl rfl rfl ?_; clear hf; clear a; intro a hf
      refine ops_v hf hh (yv_extract rfl rfl) (.inl rfl) rfl rfl rfl ?_; clear hf; clear a; intro a hf
      refine ops_v hf hh (yv_extract rfl rfl) (.inl rfl) rfl rfl rfl ?_; clear hf; clear a; intro a hf
      refine ops_v hf hh (yv_assign rfl) (.inl rfl) rfl rfl rfl ?_; clear hf; clear a; intro a hf
      refine ops_v hf hh (yv_assign rfl) (.inl rfl) rfl rfl rfl ?_; clear hf; clear a; intro a hf
      refine ops_v hf hh (yv_assign rfl) (.inl rfl) rfl rfl rfl ?_; clear hf; clear a; intro a hf
      refine ops_v hf hh (yv_assign rfl) (.inl rfl) rfl rfl rfl ?_; clear hf; clear a; intro a hf
      refine ops_end ?_
      refine then_n ?_
      refine sy_seq ?_
      refine sy_ops ?_
      refine ops_v hf hh (yv_loads Tryd.ag_24 rfl (fun _ h => by first | exact h.at (i := 0) rfl) (by first | assumption | rfl)) (.inl rfl) rfl rfl rfl ?_; clear hf; clear a; intro a hf
      refine ops_call hf Tryd.en_18 rfl rfl rfl (.inl rfl) rfl (c18n b sa sc _ (hS.ext hh.ext) hok) ?_; clear hf; clear a; intro v a w hR hf
      obtain ⟨rfl, hx⟩ := hR; replace hh := hh.more hx; clear hx
      refine ops_v hf hh (yv_move rfl) (.inl rfl) rfl rfl rfl ?_; clear hf; clear a; intro a hf
      refine ops_v hf hh (yv_extract rfl rfl) (.inl rfl) rfl rfl rfl ?_; clear hf; clear a; intro a hf
      refine ops_v hf hh (yv_extract rfl rfl) (.inl rfl) rfl rfl rfl ?_; clear hf; clear a; intro a hf
      refine ops_v hf hh (yv_assign rfl) (.inl rfl) rfl rfl rfl ?_; clear hf; clear a; intro a hf
      refine ops_v hf hh (yv_assign rfl) (.inl rfl) rfl rfl rfl ?_; clear hf; clear a; intro a hf
      refine ops_end ?_
      refine then_n ?_
      refine sy_seq ?_
      refine sy_seq ?_
      refine sy_ops ?_
      refine ops_v hf hh (yv_move rfl) (.inl rfl) rfl rfl rfl ?_; clear hf; clear a; intro a hf
      refine ops_v hf hh (yv_move rfl) (.inl rfl) rfl rfl rfl ?_; clear hf; clear a; intro a hf
      refine ops_v hf hh (yv_bin rfl rfl rfl) (.inl rfl) rfl rfl rfl ?_; clear hf; clear a; intro a hf
      refine ops_end ?_
      refine then_n ?_
      refine sy_cf hf rfl (by first | assumption | rfl | (simp; done) | (simp; omega)) ?_
      refine sy_skip ?_
      refine then_n ?_
      refine sy_seq ?_
      refine sy_seq ?_
      refine sy_ops ?_
      refine ops_v hf hh (yv_move rfl) (.inl rfl) rfl rfl rfl ?_; clear hf; clear a; intro a hf
      refine ops_v hf hh (yv_bin rfl rfl rfl) (.inl rfl) rfl rfl rfl ?_; clear hf; clear a; intro a hf
      refine ops_end ?_
      refine then_n ?_
      refine sy_ct hf rfl (by first | assumption | rfl | (simp; done) | (simp; omega)) ?_
      refine sy_seq ?_
      refine sy_ops ?_
      refine ops_v hf hh (yv_move rfl) (.inl rfl) rfl rfl rfl ?_; clear hf; clear a; intro a hf
      refine ops_v hf hh (yv_bin rfl rfl rfl) (.inl rfl) rfl rfl rfl ?_; clear hf; clear a; intro a hf
      refine ops_v hf hh (yv_move rfl) (.inl rfl) rfl rfl rfl ?_; clear hf; clear a; intro a hf
      refine ops_v hf hh (yv_move rfl) (gon rfl rfl rfl (by first | assumption | rfl | (simp; done) | (simp; omega))) rfl rfl rfl ?_; clear hf; clear a; intro a hf
      refine ops_v hf hh (yv_bin rfl rfl rfl) (gon rfl rfl rfl (by first | assumption | rfl | (simp; done) | (simp; omega))) rfl rfl rfl ?_; clear hf; clear a; intro a hf
      refine ops_v hf hh (yv_pick_t rfl (by first | assumption | rfl | (simp; done) | (simp; omega)) rfl) (.inl rfl) rfl rfl rfl ?_; clear hf; clear a; intro a hf
      refine ops_v hf hh (yv_move rfl) (.inl rfl) rfl rfl rfl ?_; clear hf; clear a; intro a hf
      refine ops_v hf hh (yv_move rfl) (gon rfl rfl rfl (by first | assumption | rfl | (simp; done) | (simp; omega))) rfl rfl rfl ?_; clear hf; clear a; intro a hf
      refine ops_v hf hh (yv_bin rfl rfl rfl) (gon rfl rfl rfl (by first | assumption | rfl | (simp; done) | (simp; omega))) rfl rfl rfl ?_; clear hf; clear a; intro a hf
      refine ops_v hf hh (yv_pick_t rfl (by first | assumption | rfl | (simp; done) | (simp; omega)) rfl) (.inl rfl) rfl rfl rfl ?_; clear hf; clear a; intro a hf
      refine ops_v hf hh (yv_move rfl) (.inl rfl) rfl rfl rfl ?_; clear hf; clear a; intro a hf
      refine ops_call hf Tryd.en_12 rfl rfl rfl (gon rfl rfl rfl (by first | assumption | rfl | (simp; done) | (simp; omega))) rfl (c12 _ (hT.ext hh.ext (by simp))) ?_; clear hf; clear a; intro v a w hR hf
      obtain ⟨rfl, hx⟩ := hR; replace hh := hh.more hx; clear hx
      refine ops_v hf hh (yv_pick_t rfl (by first | assumption | rfl | (simp; done) | (simp; omega)) rfl) (.inl rfl) rfl rfl rfl ?_; clear hf; clear a; intro a hf
      refine ops_v hf hh (yv_assign rfl) (.inl rfl) rfl rfl rfl ?_; clear hf; clear a; intro a hf
      refine ops_end ?_
      refine then_n ?_
      refine sy_ret ?_
      refine then_r ?_
      refine ret_r hf rfl rfl ?_
      first | exact ⟨rfl, hh.ext⟩ | (exfalso; omega)
set_option maxRecDepth 100000 in
set_option maxHeartbeats 4000000 in
theorem c9b (b : BarD) (sa : Option Addr) (sc : Nat) (u : World) (hS : ScAt u sa b.scenes) (hT : GTab u) (y : Nat) (hy : y ≤ 65535) (f : Nat) (hok : okBar b = true) (hF : firstP b (allS b) = some f) : Calls Tryd.prog 9 #[barV b sa sc, .int .u16 (y : Nat)] u (Ret fun v w' => v = .bool true ∧ Ext [] u w') := by
  refine calls_of Tryd.func9 rfl rfl (fun a hf => ?_)
  have hh := Hp.init u []
  have hV := (okBar_iff b).1 hok
  have hnev : neverB b (2 ^ b.scenes.length - 1) = false := by unfold neverB; rw [hF]; rfl
  refine sy_seq ?_
  refine sy_ops ?_
  refine ops_box hf hh rfl (.inl rfl) rfl ?_; clear hf hh; clear a; intro B2 a w hf hh
  refine ops_v hf hh (yv_assign rfl) (.inl rfl) rfl rfl rfl ?_; clear hf; clear a; intro a hf
  refine ops_end ?_
  refine then_n ?_
  refine sy_seq ?_
  refine sy_seq ?_
  refine sy_ops ?_
  refine ops_v hf hh (yv_fieldAddr Tryd.fo_24_4 rfl) (.inl rfl) rfl rfl rfl ?_; clear hf; clear a; intro a hf
  refine ops_v hf hh (yv_load Tryd.sc_22 rfl (fun _ h => by first | exact h.at (i := 0) rfl) (by first | rfl | assumption)) (.inl rfl) rfl rfl rfl ?_; clear hf; clear a; intro a hf
  refine ops_v hf hh (yv_len Tryd.se_22 rfl) (.inl rfl) rfl rfl rfl ?_; clear hf; clear a; intro a hf
  refine ops_v hf hh (yv_bin rfl rfl rfl) (.inl rfl) rfl rfl rfl ?_; clear hf; clear a; intro a hf
  refine ops_v hf hh (yv_move rfl) (.inl rfl) rfl rfl rfl ?_; clear hf; clear a; intro a hf
  refine guard_split hf (t := 23) rfl (fun hg2 => ?_) (fun hg2 => ?_)
  · have hG2 := hg2; try simp only [gS] at hG2
    refine ops_off hf (goff rfl rfl rfl (by first | assumption | rfl | (simp; done) | (simp; omega))) rfl rfl ?_; clear hf; clear a; intro a hf
    refine ops_off hf (goff rfl rfl rfl (by first | assumption | rfl | (simp; done) | (simp; omega))) rfl rfl ?_; clear hf; clear a; intro a hf
    refine ops_v hf hh (yv_pick_t rfl (by first | assumption | rfl | (simp; done) | (simp; omega)) rfl) (.inl rfl) rfl rfl rfl ?_; clear hf; clear a; intro a hf
    refine ops_end ?_
    refine then_n ?_
    refine sy_ct hf rfl (by first | assumption | rfl | (simp; done) | (simp; omega)) ?_
    refine sy_seq ?_
    refine sy_ops ?_
    refine ops_call hf Tryd.en_12 rfl rfl rfl (.inl rfl) rfl (c12 _ (hT.ext hh.ext (by simp))) ?_; clear hf; clear a; intro v a w hR hf
    obtain ⟨rfl, hx⟩ := hR; replace hh := hh.more hx; clear hx
    refine ops_v hf hh (yv_assign rfl) (.inl rfl) rfl rfl rfl ?_; clear hf; clear a; intro a hf
    refine ops_end ?_
    refine then_n ?_
    refine sy_ret ?_
    refine then_r ?_
    refine ret_r hf rfl rfl ?_
    first | exact ⟨rfl, hh.ext⟩ | (exfalso; omega)
  · have hG2 := hg2; try simp only [gS] at hG2
    refine ops_v hf hh (yv_loads Tryd.ag_24 rfl (fun _ h => by first | exact h.at (i := 0) rfl) (by first | assumption | rfl)) (gon rfl rfl rfl (by first | assumption | rfl | (simp; done) | (simp; omega))) rfl rfl rfl ?_; clear hf; clear a; intro a hf
    refine ops_call hf Tryd.en_17 rfl rfl rfl (gon rfl rfl rfl (by first | assumption | rfl | (simp; done) | (simp; omega))) rfl (c17 b sa sc 7 _ (hS.ext hh.ext)) ?_; clear hf; clear a; intro v a w hR hf
    obtain ⟨rfl, hx⟩ := hR; replace hh := hh.more hx; clear hx
    refine ops_v hf hh (yv_pick_f rfl (by first | assumption | rfl | (simp; done) | (simp; omega)) rfl) (.inl rfl) rfl rfl rfl ?_; clear hf; clear a; intro a hf
    refine ops_end ?_
    refine then_n ?_
    refine sy_cond hf rfl (fun hg5 => ?_) (fun hg5 => ?_)
    · have hG5 := hg5; try simp only [gS] at hG5
      refine sy_seq ?_
      refine sy_ops ?_
      refine ops_call hf Tryd.en_12 rfl rfl rfl (.inl rfl) rfl (c12 _ (hT.ext hh.ext (by simp))) ?_; clear hf; clear a; intro v a w hR hf
      obtain ⟨rfl, hx⟩ := hR; replace hh := hh.more hx; clear hx
      refine ops_v hf hh (yv_assign rfl) (.inl rfl) rfl rfl rfl ?_; clear hf; clear a; intro a hf
      refine ops_end ?_
      refine then_n ?_
      refine sy_ret ?_
      refine then_r ?_
      refine ret_r hf rfl rfl ?_
      first | exact ⟨rfl, hh.ext⟩ | (exfalso; omega)
    · have hG5 := hg5; try simp only [gS] at hG5
      refine sy_skip ?_
      refine then_n ?_
      refine sy_seq ?_
      refine sy_ops ?_
      refine ops_v hf hh (yv_loads Tryd.ag_24 rfl (fun _ h => by first | exact h.at (i := 0) rfl) (by first | assumption | rfl)) (.inl rfl) rfl rfl rfl ?_; clear hf; clear a; intro a hf
      refine ops_call hf Tryd.en_26 rfl rfl rfl (.inl rfl) rfl (why_ok hnev ▸ c26v b sa sc _ (hS.ext hh.ext) (hT.ext hh.ext (by simp)) hV) ?_; clear hf; clear a; intro v a w hR hf
      obtain ⟨rfl, hx⟩ := hR; replace hh := hh.more hx; clear hx
      refine ops_v hf hh (yv_move rfl) (.inl rfl) rfl rfl rfl ?_; clear hf; clear a; intro a hf
      refine ops_v hf hh (yv_extract rfl rfl) (.inl rfl) rfl rfl rfl ?_; clear hf; clear a; intro a hf
      refine ops_v hf hh (yv_extract rfl rfl) (.inl rfl) rfl rfl rfl ?_; clear hf; clear a; intro a hf
      refine ops_v hf hh (yv_extract rfl rfl) (.inl rfl) rfl rfl rfl ?_; clear hf; clear a; intro a hf
      refine ops_v hf hh (yv_extract rfl rfl) (.inl rfl) rfl rfl rfl ?_; clear hf; clear a; intro a hf
      refine ops_v hf hh (yv_assign rfl) (.inl rfl) rfl rfl rfl ?_; clear hf; clear a; intro a hf
      refine ops_v hf hh (yv_assign rfl) (.inl rfl) rfl rfl rfl ?_; clear hf; clear a; intro a hf
      refine ops_v hf hh (yv_assign rfl) (.inl rfl) rfl rfl rfl ?_; clear hf; clear a; intro a hf
      refine ops_v hf hh (yv_assign rfl) (.inl rfl) rfl rfl rfl ?_; clear hf; clear a; intro a hf
      refine ops_end ?_
      refine then_n ?_
      refine sy_seq ?_
      refine sy_ops ?_
      refine ops_v hf hh (yv_loads Tryd.ag_24 rfl (fun _ h => by first | exact h.at (i := 0) rfl) (by first | assumption | rfl)) (.inl rfl) rfl rfl rfl ?_; clear hf; clear a; intro a hf
      refine ops_call hf Tryd.en_18 rfl rfl rfl (.inl rfl) rfl (c18s b sa sc _ (hS.ext hh.ext) (hT.ext hh.ext (by simp)) hV f hF) ?_; clear hf; clear a; intro v a w hR hf
      obtain ⟨rfl, hx⟩ := hR; replace hh := hh.more hx; clear hx
      refine ops_v hf hh (yv_move rfl) (.inl rfl) rfl rfl rfl ?_; clear hf; clear a; intro a hf
      refine ops_v hf hh (yv_extract rfl rfl) (.inl rfl) rfl rfl rfl ?_; clear hf; clear a; intro a hf
      refine ops_v hf hh (yv_extract rfl rfl) (.inl rfl) rfl rfl rfl ?_; clear hf; clear a; intro a hf
      refine ops_v hf hh (yv_assign rfl) (.inl rfl) rfl rfl rfl ?_; clear hf; clear a; intro a hf
      refine ops_v hf hh (yv_assign rfl) (.inl rfl) rfl rfl rfl ?_; clear hf; clear a; intro a hf
      refine ops_end ?_
      refine then_n ?_
      refine sy_seq ?_
      refine sy_seq ?_
      refine sy_ops ?_
      refine ops_v hf hh (yv_move rfl) (.inl rfl) rfl rfl rfl ?_; clear hf; clear a; intro a hf
      refine ops_v hf hh (yv_move rfl) (.inl rfl) rfl rfl rfl ?_; clear hf; clear a; intro a hf
      refine ops_v hf hh (yv_bin rfl rfl rfl) (.inl rfl) rfl rfl rfl ?_; clear hf; clear a; intro a hf
      refine ops_end ?_
      refine then_n ?_
      refine sy_cf hf rfl (by first | assumption | rfl | (simp; done) | (simp; omega)) ?_
      refine sy_skip ?_
      refine then_n ?_
      refine sy_seq ?_
      refine sy_seq ?_
      refine sy_ops ?_
      refine ops_v hf hh (yv_move rfl) (.inl rfl) rfl rfl rfl ?_; clear hf; clear a; intro a hf
      refine ops_v hf hh (yv_bin rfl rfl rfl) (.inl rfl) rfl rfl rfl ?_; clear hf; clear a; intro a hf
      refine ops_end ?_
      refine then_n ?_
      refine sy_ct hf rfl (by first | assumption | rfl | (simp; done) | (simp; omega)) ?_
      refine sy_seq ?_
      refine sy_ops ?_
      refine ops_v hf hh (yv_move rfl) (.inl rfl) rfl rfl rfl ?_; clear hf; clear a; intro a hf
      refine ops_v hf hh (yv_bin rfl rfl rfl) (.inl rfl) rfl rfl rfl ?_; clear hf; clear a; intro a hf
      refine ops_v hf hh (yv_move rfl) (.inl rfl) rfl rfl rfl ?_; clear hf; clear a; intro a hf
      refine ops_v hf hh (yv_move rfl) (gon rfl rfl rfl (by first | assumption | rfl | (simp; done) | (simp; omega))) rfl rfl rfl ?_; clear hf; clear a; intro a hf
      refine ops_v hf hh (yv_bin rfl rfl rfl) (gon rfl rfl rfl (by first | assumption | rfl | (simp; done) | (simp; omega))) rfl rfl rfl ?_; clear hf; clear a; intro a hf
      refine ops_v hf hh (yv_pick_t rfl (by first | assumption | rfl | (simp; done) | (simp; omega)) rfl) (.inl rfl) rfl rfl rfl ?_; clear hf; clear a; intro a hf
      refine ops_v hf hh (yv_move rfl) (.inl rfl) rfl rfl rfl ?_; clear hf; clear a; intro a hf
      refine ops_v hf hh (yv_move rfl) (gon rfl rfl rfl (by first | assumption | rfl | (simp; done) | (simp; omega))) rfl rfl rfl ?_; clear hf; clear a; intro a hf
      refine ops_v hf hh (yv_bin rfl rfl rfl) (gon rfl rfl rfl (by first | assumption | rfl | (simp; done) | (simp; omega))) rfl rfl rfl ?_; clear hf; clear a; intro a hf
      refine ops_v hf hh (yv_pick_t rfl (by first | assumption | rfl | (simp; done) | (simp; omega)) rfl) (.inl rfl) rfl rfl rfl ?_; clear hf; clear a; intro a hf
      refine ops_v hf hh (yv_move rfl) (.inl rfl) rfl rfl rfl ?_; clear hf; clear a; intro a hf
      refine ops_call hf Tryd.en_12 rfl rfl rfl (gon rfl rfl rfl (by first | assumption | rfl | (simp; done) | (simp; omega))) rfl (c12 _ (hT.ext hh.ext (by simp))) ?_; clear hf; clear a; intro v a w hR hf
      obtain ⟨rfl, hx⟩ := hR; replace hh := hh.more hx; clear hx
      refine ops_v hf hh (yv_pick_t rfl (by first | assumption | rfl | (simp; done) | (simp; omega)) rfl) (.inl rfl) rfl rfl rfl ?_; clear hf; clear a; intro a hf
      refine ops_v hf hh (yv_assign rfl) (.inl rfl) rfl rfl rfl ?_; clear hf; clear a; intro a hf
      refine ops_end ?_
      refine then_n ?_
      refine sy_ret ?_
      refine then_r ?_
      refine ret_r hf rfl rfl ?_
      first | exact ⟨rfl, hh.ext⟩ | (exfalso; omega)
set_option maxRecDepth 100000 in
set_option maxHeartbeats 4000000 in
theorem c9c (b : BarD) (sa : Option Addr) (sc : Nat) (u : World) (hS : ScAt u sa b.scenes) (hT : GTab u) (y : Nat) (hy : y ≤ 65535) (i0 : Nat) (hok : okBar b = true) (hF : firstP b (allS b) = none) (h1 : oneB b = some i0) : Calls Tryd.prog 9 #[barV b sa sc, .int .u16 (y : Nat)] u (Ret fun v w' => v = .bool true ∧ Ext [] u w') := by
  refine calls_of Tryd.func9 rfl rfl (fun a hf => ?_)
  have hh := Hp.init u []
  have hV := (okBar_iff b).1 hok
  have hn := hV.n
  have hm1 : 1 ≤ 2 ^ b.scenes.length := Nat.one_le_two_pow
  have hm2 : 2 ^ b.scenes.length ≤ 2 ^ 10 := Nat.pow_le_pow_right (by omega) hn
  have hs1 := hV.s1; have hs2 := hV.s2
  have hpw := shl_bd hs1 hs2
  have hnev : neverB b (2 ^ b.scenes.length - 1) = true := by unfold neverB; rw [hF]; rfl
  have hn0 := never_len0 hV hnev
  have h0n : decide ((b.scenes.length : Int) ≤ 0) = false := decide_eq_false (by omega)
  have hqp := planV_plan hV y
  have hqb := isPlan_bd hqp
  have htq := taken_bd hV (planV b y)
  obtain ⟨hi0, hn1, hn2⟩ := one_some h1
  have hwv : whyV b = .tuple #[.int .i64 1, .int .i64 i0, .int .i64 0, .int .i64 11] := why_one hnev hi0 hn2 hn1
  have hbt := never_bit hV hn1 hqp
  obtain ⟨s0, hs0⟩ := scn_of hi0
  have hb0 : (taken b (planV b y) >>> i0) &&& 1 = 0 := by
    rw [bit1_ne, taken_bit, hs0]
    show (best b (planV b y) s0).isSome = false
    cases hx : (best b (planV b y) s0).isSome
    · rfl
    · rw [(takes_one hs0).2 hx] at hbt; cases hbt
  have h1310 : decide ((((taken b (planV b y) >>> i0) &&& 1 : Nat) : Int) = 1) = false := by rw [hb0]; rfl
  refine sy_seq ?_
  refine sy_ops ?_
  refine ops_box hf hh rfl (.inl rfl) rfl ?_; clear hf hh; clear a; intro B2 a w hf hh
  refine ops_v hf hh (yv_assign rfl) (.inl rfl) rfl rfl rfl ?_; clear hf; clear a; intro a hf
  refine ops_end ?_
  refine then_n ?_
  refine sy_seq ?_
  refine sy_seq ?_
  refine sy_ops ?_
  refine ops_v hf hh (yv_fieldAddr Tryd.fo_24_4 rfl) (.inl rfl) rfl rfl rfl ?_; clear hf; clear a; intro a hf
  refine ops_v hf hh (yv_load Tryd.sc_22 rfl (fun _ h => by first | exact h.at (i := 0) rfl | exact h.at (i := 1) rfl | exact h.at (i := 2) rfl) (by first | rfl | assumption)) (.inl rfl) rfl rfl rfl ?_; clear hf; clear a; intro a hf
  refine ops_v hf hh (yv_len Tryd.se_22 rfl) (.inl rfl) rfl rfl rfl ?_; clear hf; clear a; intro a hf
  refine ops_v hf hh (yv_bin rfl rfl rfl) (.inl rfl) rfl rfl rfl ?_; clear hf; clear a; intro a hf
  refine ops_v hf hh (yv_move rfl) (.inl rfl) rfl rfl rfl ?_; clear hf; clear a; intro a hf
  refine guard_split hf (t := 23) rfl (fun hg2 => ?_) (fun hg2 => ?_)
  · have hG2 := hg2; try simp only [gS] at hG2
    refine ops_off hf (goff rfl rfl rfl (by first | assumption | rfl | (simp; done) | (simp; omega))) rfl rfl ?_; clear hf; clear a; intro a hf
    refine ops_off hf (goff rfl rfl rfl (by first | assumption | rfl | (simp; done) | (simp; omega))) rfl rfl ?_; clear hf; clear a; intro a hf
    refine ops_v hf hh (yv_pick_t rfl (by first | assumption | rfl | (simp; done) | (simp; omega)) rfl) (.inl rfl) rfl rfl rfl ?_; clear hf; clear a; intro a hf
    refine ops_end ?_
    refine then_n ?_
    refine sy_ct hf rfl (by first | assumption | rfl | (simp; done) | (simp; omega)) ?_
    refine sy_seq ?_
    refine sy_ops ?_
    refine ops_call hf Tryd.en_12 rfl rfl rfl (.inl rfl) rfl (c12 _ (hT.ext hh.ext (by simp))) ?_; clear hf; clear a; intro v a w hR hf
    obtain ⟨rfl, hx⟩ := hR; replace hh := hh.more hx; clear hx
    refine ops_v hf hh (yv_assign rfl) (.inl rfl) rfl rfl rfl ?_; clear hf; clear a; intro a hf
    refine ops_end ?_
    refine then_n ?_
    refine sy_ret ?_
    refine then_r ?_
    refine ret_r hf rfl rfl ?_
    first
      | exact ⟨rfl, hh.ext⟩
      | (exfalso; omega)
      | (exfalso
         have h2 : neverB b (2 ^ i) = true := by assumption
         rw [hn2 i (by omega)] at h2; cases h2)
      | (exfalso
         have hi : i = i0 := by omega
         subst hi
         have h2 : neverB b (2 ^ i) = false := by assumption
         rw [hn1] at h2; cases h2)
  · have hG2 := hg2; try simp only [gS] at hG2
    refine ops_v hf hh (yv_loads Tryd.ag_24 rfl (fun _ h => by first | exact h.at (i := 0) rfl | exact h.at (i := 1) rfl | exact h.at (i := 2) rfl) (by first | assumption | rfl)) (gon rfl rfl rfl (by first | assumption | rfl | (simp; done) | (simp; omega))) rfl rfl rfl ?_; clear hf; clear a; intro a hf
    refine ops_call hf Tryd.en_17 rfl rfl rfl (gon rfl rfl rfl (by first | assumption | rfl | (simp; done) | (simp; omega))) rfl (c17 b sa sc 7 _ (hS.ext hh.ext)) ?_; clear hf; clear a; intro v a w hR hf
    obtain ⟨rfl, hx⟩ := hR; replace hh := hh.more hx; clear hx
    refine ops_v hf hh (yv_pick_f rfl (by first | assumption | rfl | (simp; done) | (simp; omega)) rfl) (.inl rfl) rfl rfl rfl ?_; clear hf; clear a; intro a hf
    refine ops_end ?_
    refine then_n ?_
    refine sy_cond hf rfl (fun hg5 => ?_) (fun hg5 => ?_)
    · have hG5 := hg5; try simp only [gS] at hG5
      refine sy_seq ?_
      refine sy_ops ?_
      refine ops_call hf Tryd.en_12 rfl rfl rfl (.inl rfl) rfl (c12 _ (hT.ext hh.ext (by simp))) ?_; clear hf; clear a; intro v a w hR hf
      obtain ⟨rfl, hx⟩ := hR; replace hh := hh.more hx; clear hx
      refine ops_v hf hh (yv_assign rfl) (.inl rfl) rfl rfl rfl ?_; clear hf; clear a; intro a hf
      refine ops_end ?_
      refine then_n ?_
      refine sy_ret ?_
      refine then_r ?_
      refine ret_r hf rfl rfl ?_
      first
        | exact ⟨rfl, hh.ext⟩
        | (exfalso; omega)
        | (exfalso
           have h2 : neverB b (2 ^ i) = true := by assumption
           rw [hn2 i (by omega)] at h2; cases h2)
        | (exfalso
           have hi : i = i0 := by omega
           subst hi
           have h2 : neverB b (2 ^ i) = false := by assumption
           rw [hn1] at h2; cases h2)
    · have hG5 := hg5; try simp only [gS] at hG5
      refine sy_skip ?_
      refine then_n ?_
      refine sy_seq ?_
      refine sy_ops ?_
      refine ops_v hf hh (yv_loads Tryd.ag_24 rfl (fun _ h => by first | exact h.at (i := 0) rfl | exact h.at (i := 1) rfl | exact h.at (i := 2) rfl) (by first | assumption | rfl)) (.inl rfl) rfl rfl rfl ?_; clear hf; clear a; intro a hf
      refine ops_call hf Tryd.en_26 rfl rfl rfl (.inl rfl) rfl (hwv ▸ c26v b sa sc _ (hS.ext hh.ext) (hT.ext hh.ext (by simp)) hV) ?_; clear hf; clear a; intro v a w hR hf
      obtain ⟨rfl, hx⟩ := hR; replace hh := hh.more hx; clear hx
      refine ops_v hf hh (yv_move rfl) (.inl rfl) rfl rfl rfl ?_; clear hf; clear a; intro a hf
      refine ops_v hf hh (yv_extract rfl rfl) (.inl rfl) rfl rfl rfl ?_; clear hf; clear a; intro a hf
      refine ops_v hf hh (yv_extract rfl rfl) (.inl rfl) rfl rfl rfl ?_; clear hf; clear a; intro a hf
      refine ops_v hf hh (yv_extract rfl rfl) (.inl rfl) rfl rfl rfl ?_; clear hf; clear a; intro a hf
      refine ops_v hf hh (yv_extract rfl rfl) (.inl rfl) rfl rfl rfl ?_; clear hf; clear a; intro a hf
      refine ops_v hf hh (yv_assign rfl) (.inl rfl) rfl rfl rfl ?_; clear hf; clear a; intro a hf
      refine ops_v hf hh (yv_assign rfl) (.inl rfl) rfl rfl rfl ?_; clear hf; clear a; intro a hf
      refine ops_v hf hh (yv_assign rfl) (.inl rfl) rfl rfl rfl ?_; clear hf; clear a; intro a hf
      refine ops_v hf hh (yv_assign rfl) (.inl rfl) rfl rfl rfl ?_; clear hf; clear a; intro a hf
      refine ops_end ?_
      refine then_n ?_
      refine sy_seq ?_
      refine sy_ops ?_
      refine ops_v hf hh (yv_loads Tryd.ag_24 rfl (fun _ h => by first | exact h.at (i := 0) rfl | exact h.at (i := 1) rfl | exact h.at (i := 2) rfl) (by first | assumption | rfl)) (.inl rfl) rfl rfl rfl ?_; clear hf; clear a; intro a hf
      refine ops_call hf Tryd.en_18 rfl rfl rfl (.inl rfl) rfl (c18x b sa sc _ (hS.ext hh.ext) (hT.ext hh.ext (by simp)) hV hF) ?_; clear hf; clear a; intro v a w hR hf
      obtain ⟨rfl, hx⟩ := hR; replace hh := hh.more hx; clear hx
      refine ops_v hf hh (yv_move rfl) (.inl rfl) rfl rfl rfl ?_; clear hf; clear a; intro a hf
      refine ops_v hf hh (yv_extract rfl rfl) (.inl rfl) rfl rfl rfl ?_; clear hf; clear a; intro a hf
      refine ops_v hf hh (yv_extract rfl rfl) (.inl rfl) rfl rfl rfl ?_; clear hf; clear a; intro a hf
      refine ops_v hf hh (yv_assign rfl) (.inl rfl) rfl rfl rfl ?_; clear hf; clear a; intro a hf
      refine ops_v hf hh (yv_assign rfl) (.inl rfl) rfl rfl rfl ?_; clear hf; clear a; intro a hf
      refine ops_end ?_
      refine then_n ?_
      refine sy_seq ?_
      refine sy_seq ?_
      refine sy_ops ?_
      refine ops_v hf hh (yv_move rfl) (.inl rfl) rfl rfl rfl ?_; clear hf; clear a; intro a hf
      refine ops_v hf hh (yv_move rfl) (.inl rfl) rfl rfl rfl ?_; clear hf; clear a; intro a hf
      refine ops_v hf hh (yv_bin rfl rfl rfl) (.inl rfl) rfl rfl rfl ?_; clear hf; clear a; intro a hf
      refine ops_end ?_
      refine then_n ?_
      refine sy_cf hf rfl (by first | assumption | rfl | (simp; done) | (simp; omega)) ?_
      refine sy_skip ?_
      refine then_n ?_
      refine sy_seq ?_
      refine sy_seq ?_
      refine sy_ops ?_
      refine ops_v hf hh (yv_move rfl) (.inl rfl) rfl rfl rfl ?_; clear hf; clear a; intro a hf
      refine ops_v hf hh (yv_bin rfl rfl rfl) (.inl rfl) rfl rfl rfl ?_; clear hf; clear a; intro a hf
      refine ops_end ?_
      refine then_n ?_
      refine sy_cf hf rfl (by first | assumption | rfl | (simp; done) | (simp; omega)) ?_
      refine sy_skip ?_
      refine then_n ?_
      refine sy_seq ?_
      refine sy_ops ?_
      refine ops_v hf hh (yv_fieldAddr Tryd.fo_24_4 rfl) (.inl rfl) rfl rfl rfl ?_; clear hf; clear a; intro a hf
      refine ops_v hf hh (yv_load Tryd.sc_22 rfl (fun _ h => by first | exact h.at (i := 0) rfl | exact h.at (i := 1) rfl | exact h.at (i := 2) rfl) (by first | rfl | assumption)) (.inl rfl) rfl rfl rfl ?_; clear hf; clear a; intro a hf
      refine ops_v hf hh (yv_len Tryd.se_22 rfl) (.inl rfl) rfl rfl rfl ?_; clear hf; clear a; intro a hf
      refine ops_v hf hh (yv_assign rfl) (.inl rfl) rfl rfl rfl ?_; clear hf; clear a; intro a hf
      refine ops_end ?_
      refine then_n ?_
      refine sy_seq ?_
      refine sy_seq ?_
      refine sy_ops ?_
      refine ops_v hf hh (yv_move rfl) (.inl rfl) rfl rfl rfl ?_; clear hf; clear a; intro a hf
      refine ops_v hf hh (yv_bin rfl rfl rfl) (.inl rfl) rfl rfl rfl ?_; clear hf; clear a; intro a hf
      refine ops_v hf hh (yv_move rfl) (.inl rfl) rfl rfl rfl ?_; clear hf; clear a; intro a hf
      refine ops_v hf hh (yv_move rfl) (gon rfl rfl rfl (by first | assumption | rfl | (simp; done) | (simp; omega))) rfl rfl rfl ?_; clear hf; clear a; intro a hf
      refine ops_v hf hh (yv_move rfl) (gon rfl rfl rfl (by first | assumption | rfl | (simp; done) | (simp; omega))) rfl rfl rfl ?_; clear hf; clear a; intro a hf
      refine ops_v hf hh (yv_bin rfl rfl rfl) (gon rfl rfl rfl (by first | assumption | rfl | (simp; done) | (simp; omega))) rfl rfl rfl ?_; clear hf; clear a; intro a hf
      refine ops_v hf hh (yv_pick_f rfl (by first | assumption | rfl | (simp; done) | (simp; omega)) rfl) (.inl rfl) rfl rfl rfl ?_; clear hf; clear a; intro a hf
      refine ops_v hf hh (yv_move rfl) (.inl rfl) rfl rfl rfl ?_; clear hf; clear a; intro a hf
      refine ops_v hf hh (yv_move rfl) (gon rfl rfl rfl (by first | assumption | rfl | (simp; done) | (simp; omega))) rfl rfl rfl ?_; clear hf; clear a; intro a hf
      refine ops_v hf hh (yv_bin rfl rfl rfl) (gon rfl rfl rfl (by first | assumption | rfl | (simp; done) | (simp; omega))) rfl rfl rfl ?_; clear hf; clear a; intro a hf
      refine ops_v hf hh (yv_pick_f rfl (by first | assumption | rfl | (simp; done) | (simp; omega)) rfl) (.inl rfl) rfl rfl rfl ?_; clear hf; clear a; intro a hf
      refine ops_v hf hh (yv_move rfl) (.inl rfl) rfl rfl rfl ?_; clear hf; clear a; intro a hf
      refine ops_v hf hh (yv_move rfl) (gon rfl rfl rfl (by first | assumption | rfl | (simp; done) | (simp; omega))) rfl rfl rfl ?_; clear hf; clear a; intro a hf
      refine ops_v hf hh (yv_move rfl) (gon rfl rfl rfl (by first | assumption | rfl | (simp; done) | (simp; omega))) rfl rfl rfl ?_; clear hf; clear a; intro a hf
      refine ops_v hf hh (yv_bin rfl rfl rfl) (gon rfl rfl rfl (by first | assumption | rfl | (simp; done) | (simp; omega))) rfl rfl rfl ?_; clear hf; clear a; intro a hf
      refine ops_v hf hh (yv_pick_f rfl (by first | assumption | rfl | (simp; done) | (simp; omega)) rfl) (.inl rfl) rfl rfl rfl ?_; clear hf; clear a; intro a hf
      refine ops_v hf hh (yv_move rfl) (.inl rfl) rfl rfl rfl ?_; clear hf; clear a; intro a hf
      refine ops_v hf hh (yv_move rfl) (gon rfl rfl rfl (by first | assumption | rfl | (simp; done) | (simp; omega))) rfl rfl rfl ?_; clear hf; clear a; intro a hf
      refine ops_v hf hh (yv_bin rfl rfl rfl) (gon rfl rfl rfl (by first | assumption | rfl | (simp; done) | (simp; omega))) rfl rfl rfl ?_; clear hf; clear a; intro a hf
      refine ops_v hf hh (yv_pick_f rfl (by first | assumption | rfl | (simp; done) | (simp; omega)) rfl) (.inl rfl) rfl rfl rfl ?_; clear hf; clear a; intro a hf
      refine ops_v hf hh (yv_move rfl) (.inl rfl) rfl rfl rfl ?_; clear hf; clear a; intro a hf
      refine ops_v hf hh (yv_move rfl) (gon rfl rfl rfl (by first | assumption | rfl | (simp; done) | (simp; omega))) rfl rfl rfl ?_; clear hf; clear a; intro a hf
      refine ops_v hf hh (yv_bin rfl rfl rfl) (gon rfl rfl rfl (by first | assumption | rfl | (simp; done) | (simp; omega))) rfl rfl rfl ?_; clear hf; clear a; intro a hf
      refine ops_v hf hh (yv_pick_f rfl (by first | assumption | rfl | (simp; done) | (simp; omega)) rfl) (.inl rfl) rfl rfl rfl ?_; clear hf; clear a; intro a hf
      refine ops_v hf hh (yv_move rfl) (.inl rfl) rfl rfl rfl ?_; clear hf; clear a; intro a hf
      refine ops_v hf hh (yv_move rfl) (gon rfl rfl rfl (by first | assumption | rfl | (simp; done) | (simp; omega))) rfl rfl rfl ?_; clear hf; clear a; intro a hf
      refine ops_v hf hh (yv_bin rfl rfl rfl) (gon rfl rfl rfl (by first | assumption | rfl | (simp; done) | (simp; omega))) rfl rfl rfl ?_; clear hf; clear a; intro a hf
      refine ops_v hf hh (yv_move rfl) (gon rfl rfl rfl (by first | assumption | rfl | (simp; done) | (simp; omega))) rfl rfl rfl ?_; clear hf; clear a; intro a hf
      refine ops_v hf hh (yv_move rfl) (gon rfl rfl rfl (by first | assumption | rfl | (simp; done) | (simp; omega))) rfl rfl rfl ?_; clear hf; clear a; intro a hf
      refine ops_v hf hh (yv_bin rfl rfl rfl) (gon rfl rfl rfl (by first | assumption | rfl | (simp; done) | (simp; omega))) rfl rfl rfl ?_; clear hf; clear a; intro a hf
      refine ops_v hf hh (yv_pick_t rfl (by first | assumption | rfl | (simp; done) | (simp; omega)) rfl) (gon rfl rfl rfl (by first | assumption | rfl | (simp; done) | (simp; omega))) rfl rfl rfl ?_; clear hf; clear a; intro a hf
      refine ops_v hf hh (yv_pick_f rfl (by first | assumption | rfl | (simp; done) | (simp; omega)) rfl) (.inl rfl) rfl rfl rfl ?_; clear hf; clear a; intro a hf
      refine ops_v hf hh (yv_move rfl) (.inl rfl) rfl rfl rfl ?_; clear hf; clear a; intro a hf
      refine ops_v hf hh (yv_move rfl) (gon rfl rfl rfl (by first | assumption | rfl | (simp; done) | (simp; omega))) rfl rfl rfl ?_; clear hf; clear a; intro a hf
      refine ops_v hf hh (yv_bin rfl rfl rfl) (gon rfl rfl rfl (by first | assumption | rfl | (simp; done) | (simp; omega))) rfl rfl rfl ?_; clear hf; clear a; intro a hf
      refine ops_v hf hh (yv_move rfl) (gon rfl rfl rfl (by first | assumption | rfl | (simp; done) | (simp; omega))) rfl rfl rfl ?_; clear hf; clear a; intro a hf
      refine ops_off hf (goff rfl rfl rfl (by first | assumption | rfl | (simp; done) | (simp; omega))) rfl rfl ?_; clear hf; clear a; intro a hf
      refine ops_off hf (goff rfl rfl rfl (by first | assumption | rfl | (simp; done) | (simp; omega))) rfl rfl ?_; clear hf; clear a; intro a hf
      refine ops_off hf (goff rfl rfl rfl (by first | assumption | rfl | (simp; done) | (simp; omega))) rfl rfl ?_; clear hf; clear a; intro a hf
      refine ops_v hf hh (yv_pick_f rfl (by first | assumption | rfl | (simp; done) | (simp; omega)) rfl) (gon rfl rfl rfl (by first | assumption | rfl | (simp; done) | (simp; omega))) rfl rfl rfl ?_; clear hf; clear a; intro a hf
      refine ops_v hf hh (yv_pick_f rfl (by first | assumption | rfl | (simp; done) | (simp; omega)) rfl) (.inl rfl) rfl rfl rfl ?_; clear hf; clear a; intro a hf
      refine ops_v hf hh (yv_move rfl) (.inl rfl) rfl rfl rfl ?_; clear hf; clear a; intro a hf
      refine ops_v hf hh (yv_move rfl) (gon rfl rfl rfl (by first | assumption | rfl | (simp; done) | (simp; omega))) rfl rfl rfl ?_; clear hf; clear a; intro a hf
      refine ops_v hf hh (yv_bin rfl rfl rfl) (gon rfl rfl rfl (by first | assumption | rfl | (simp; done) | (simp; omega))) rfl rfl rfl ?_; clear hf; clear a; intro a hf
      refine ops_v hf hh (yv_move rfl) (gon rfl rfl rfl (by first | assumption | rfl | (simp; done) | (simp; omega))) rfl rfl rfl ?_; clear hf; clear a; intro a hf
      refine ops_off hf (goff rfl rfl rfl (by first | assumption | rfl | (simp; done) | (simp; omega))) rfl rfl ?_; clear hf; clear a; intro a hf
      refine ops_off hf (goff rfl rfl rfl (by first | assumption | rfl | (simp; done) | (simp; omega))) rfl rfl ?_; clear hf; clear a; intro a hf
      refine ops_off hf (goff rfl rfl rfl (by first | assumption | rfl | (simp; done) | (simp; omega))) rfl rfl ?_; clear hf; clear a; intro a hf
      refine ops_off hf (goff rfl rfl rfl (by first | assumption | rfl | (simp; done) | (simp; omega))) rfl rfl ?_; clear hf; clear a; intro a hf
      refine ops_v hf hh (yv_pick_f rfl (by first | assumption | rfl | (simp; done) | (simp; omega)) rfl) (gon rfl rfl rfl (by first | assumption | rfl | (simp; done) | (simp; omega))) rfl rfl rfl ?_; clear hf; clear a; intro a hf
      refine ops_v hf hh (yv_pick_f rfl (by first | assumption | rfl | (simp; done) | (simp; omega)) rfl) (.inl rfl) rfl rfl rfl ?_; clear hf; clear a; intro a hf
      refine ops_end ?_
      refine then_n ?_
      refine sy_cf hf rfl (by first | assumption | rfl | (simp; done) | (simp; omega)) ?_
      refine sy_skip ?_
      refine then_n ?_
      refine sy_seq ?_
      refine sy_quiet (C := Hp _ _ _) Tryd.follows (by kernel_rfl) (hh.drawn _) ?_
      refine q_v hf (yv_loads Tryd.ag_24 rfl (fun _ h => by first | exact h.at (i := 0) rfl | exact h.at (i := 1) rfl | exact h.at (i := 2) rfl) (by first | assumption | rfl)) (.inl rfl) rfl rfl ?_; clear hf; clear a; intro a hf
      refine q_v hf (yv_loads Tryd.ag_24 rfl (fun _ h => by first | exact h.at (i := 0) rfl | exact h.at (i := 1) rfl | exact h.at (i := 2) rfl) (by first | assumption | rfl)) (.inl rfl) rfl rfl ?_; clear hf; clear a; intro a hf
      refine q_v hf (yv_move rfl) (.inl rfl) rfl rfl ?_; clear hf; clear a; intro a hf
      refine q_callE hf Tryd.en_30 rfl rfl rfl (.inl rfl) rfl (fun w hh => c30 b sa sc hV y hy _) ?_; clear hf; clear a; intro a hf
      refine q_callE hf Tryd.en_13 rfl rfl rfl (.inl rfl) rfl (fun w hh => c13p b sa sc _ (hS.ext hh.ext) (hT.ext hh.ext (by simp)) hok (planV b y) hqp) ?_; clear hf; clear a; intro a hf
      refine q_v hf (yv_move rfl) (.inl rfl) rfl rfl ?_; clear hf; clear a; intro a hf
      refine q_v hf (yv_extract rfl rfl) (.inl rfl) rfl rfl ?_; clear hf; clear a; intro a hf
      refine q_v hf (yv_extract rfl rfl) (.inl rfl) rfl rfl ?_; clear hf; clear a; intro a hf
      refine q_v hf (yv_assign rfl) (.inl rfl) rfl rfl ?_; clear hf; clear a; intro a hf
      refine q_v hf (yv_assign rfl) (.inl rfl) rfl rfl ?_; clear hf; clear a; intro a hf
      refine q_end fun w hh => ?_
      refine then_n ?_
      refine sy_seq ?_
      refine sy_seq ?_
      refine sy_ops ?_
      refine ops_v hf hh (yv_move rfl) (.inl rfl) rfl rfl rfl ?_; clear hf; clear a; intro a hf
      refine ops_v hf hh (yv_bin rfl rfl rfl) (.inl rfl) rfl rfl rfl ?_; clear hf; clear a; intro a hf
      refine ops_v hf hh (yv_move rfl) (.inl rfl) rfl rfl rfl ?_; clear hf; clear a; intro a hf
      refine ops_v hf hh (yv_move rfl) (gon rfl rfl rfl (by first | assumption | rfl | (simp; done) | (simp; omega))) rfl rfl rfl ?_; clear hf; clear a; intro a hf
      refine ops_v hf hh (yv_bin rfl rfl rfl) (gon rfl rfl rfl (by first | assumption | rfl | (simp; done) | (simp; omega))) rfl rfl rfl ?_; clear hf; clear a; intro a hf
      refine ops_v hf hh (yv_move rfl) (gon rfl rfl rfl (by first | assumption | rfl | (simp; done) | (simp; omega))) rfl rfl rfl ?_; clear hf; clear a; intro a hf
      refine ops_v hf hh (yv_move rfl) (gon rfl rfl rfl (by first | assumption | rfl | (simp; done) | (simp; omega))) rfl rfl rfl ?_; clear hf; clear a; intro a hf
      refine ops_v hf hh (yv_move rfl) (gon rfl rfl rfl (by first | assumption | rfl | (simp; done) | (simp; omega))) rfl rfl rfl ?_; clear hf; clear a; intro a hf
      refine ops_v hf hh (yv_cast (yv_shrx (.inl rfl) rfl rfl (by omega) (by omega) (by omega)) (intv (b := ((taken b (planV b y) >>> i0 : Nat) : Int)) rfl)) (gon rfl rfl rfl (by first | assumption | rfl | (simp; done) | (simp; omega))) rfl rfl rfl ?_; clear hf; clear a; intro a hf
      refine ops_v hf hh (yv_cast (yv_and1 rfl rfl (by omega)) (intv (b := (((taken b (planV b y) >>> i0) &&& 1 : Nat) : Int)) rfl)) (gon rfl rfl rfl (by first | assumption | rfl | (simp; done) | (simp; omega))) rfl rfl rfl ?_; clear hf; clear a; intro a hf
      refine ops_v hf hh (yv_bin rfl rfl rfl) (gon rfl rfl rfl (by first | assumption | rfl | (simp; done) | (simp; omega))) rfl rfl rfl ?_; clear hf; clear a; intro a hf
      refine ops_v hf hh (yv_pick_t rfl (by first | assumption | rfl | (simp; done) | (simp; omega)) rfl) (gon rfl rfl rfl (by first | assumption | rfl | (simp; done) | (simp; omega))) rfl rfl rfl ?_; clear hf; clear a; intro a hf
      refine ops_v hf hh (yv_pick_f rfl (by first | assumption | rfl | (simp; done) | (simp; omega)) rfl) (.inl rfl) rfl rfl rfl ?_; clear hf; clear a; intro a hf
      refine ops_v hf hh (yv_move rfl) (.inl rfl) rfl rfl rfl ?_; clear hf; clear a; intro a hf
      refine ops_v hf hh (yv_move rfl) (gon rfl rfl rfl (by first | assumption | rfl | (simp; done) | (simp; omega))) rfl rfl rfl ?_; clear hf; clear a; intro a hf
      refine ops_v hf hh (yv_bin rfl rfl rfl) (gon rfl rfl rfl (by first | assumption | rfl | (simp; done) | (simp; omega))) rfl rfl rfl ?_; clear hf; clear a; intro a hf
      refine ops_v hf hh (yv_move rfl) (gon rfl rfl rfl (by first | assumption | rfl | (simp; done) | (simp; omega))) rfl rfl rfl ?_; clear hf; clear a; intro a hf
      refine ops_off hf (goff rfl rfl rfl (by first | assumption | rfl | (simp; done) | (simp; omega))) rfl rfl ?_; clear hf; clear a; intro a hf
      refine ops_off hf (goff rfl rfl rfl (by first | assumption | rfl | (simp; done) | (simp; omega))) rfl rfl ?_; clear hf; clear a; intro a hf
      refine ops_off hf (goff rfl rfl rfl (by first | assumption | rfl | (simp; done) | (simp; omega))) rfl rfl ?_; clear hf; clear a; intro a hf
      refine ops_off hf (goff rfl rfl rfl (by first | assumption | rfl | (simp; done) | (simp; omega))) rfl rfl ?_; clear hf; clear a; intro a hf
      refine ops_off hf (goff rfl rfl rfl (by first | assumption | rfl | (simp; done) | (simp; omega))) rfl rfl ?_; clear hf; clear a; intro a hf
      refine ops_v hf hh (yv_pick_f rfl (by first | assumption | rfl | (simp; done) | (simp; omega)) rfl) (gon rfl rfl rfl (by first | assumption | rfl | (simp; done) | (simp; omega))) rfl rfl rfl ?_; clear hf; clear a; intro a hf
      refine ops_v hf hh (yv_move rfl) (gon rfl rfl rfl (by first | assumption | rfl | (simp; done) | (simp; omega))) rfl rfl rfl ?_; clear hf; clear a; intro a hf
      refine ops_off hf (goff rfl rfl rfl (by first | assumption | rfl | (simp; done) | (simp; omega))) rfl rfl ?_; clear hf; clear a; intro a hf
      refine ops_off hf (goff rfl rfl rfl (by first | assumption | rfl | (simp; done) | (simp; omega))) rfl rfl ?_; clear hf; clear a; intro a hf
      refine ops_off hf (goff rfl rfl rfl (by first | assumption | rfl | (simp; done) | (simp; omega))) rfl rfl ?_; clear hf; clear a; intro a hf
      refine ops_off hf (goff rfl rfl rfl (by first | assumption | rfl | (simp; done) | (simp; omega))) rfl rfl ?_; clear hf; clear a; intro a hf
      refine ops_off hf (goff rfl rfl rfl (by first | assumption | rfl | (simp; done) | (simp; omega))) rfl rfl ?_; clear hf; clear a; intro a hf
      refine ops_v hf hh (yv_pick_f rfl (by first | assumption | rfl | (simp; done) | (simp; omega)) rfl) (gon rfl rfl rfl (by first | assumption | rfl | (simp; done) | (simp; omega))) rfl rfl rfl ?_; clear hf; clear a; intro a hf
      refine ops_v hf hh (yv_pick_f rfl (by first | assumption | rfl | (simp; done) | (simp; omega)) rfl) (.inl rfl) rfl rfl rfl ?_; clear hf; clear a; intro a hf
      refine ops_end ?_
      refine then_n ?_
      refine sy_cf hf rfl (by first | assumption | rfl | (simp; done) | (simp; omega)) ?_
      refine sy_skip ?_
      refine then_n ?_
      refine sy_seq ?_
      refine sy_ops ?_
      refine ops_v hf hh (yv_makeFunc rfl rfl) (.inl rfl) rfl rfl rfl ?_; clear hf; clear a; intro a hf
      refine ops_v hf hh (yv_assign rfl) (.inl rfl) rfl rfl rfl ?_; clear hf; clear a; intro a hf
      refine ops_end ?_
      refine then_n ?_
      refine sy_seq ?_
      refine sy_seq ?_
      refine sy_ops ?_
      refine ops_v hf hh (yv_move rfl) (.inl rfl) rfl rfl rfl ?_; clear hf; clear a; intro a hf
      refine ops_v hf hh (yv_move rfl) (.inl rfl) rfl rfl rfl ?_; clear hf; clear a; intro a hf
      refine ops_end ?_
      refine then_n ?_
      refine sy_block ?_
      refine sy_loopF (σ := Nat) [4, 15, 16, 17, 18, 153, 154, 155, 156, 157, 158, 159, 160, 161, 162, 163, 164, 165, 166, 167, 168, 169, 170, 171, 172, 173, 174, 175, 176, 177, 178, 179, 180, 181, 182, 183, 184, 185, 186, 187, 188, 189, 190, 191, 192, 193, 194, 195, 196, 197, 198, 199, 200, 201, 202, 203, 204, 205, 206, 207, 208, 209, 210, 211, 212, 213, 214, 215, 216, 217, 218, 219, 220, 221, 222, 223, 224, 225, 226, 227, 228, 229, 230, 231, 232, 233, 234, 235, 236, 237, 238, 239, 240, 241, 242, 243, 244, 245] (fun i => [(153, .int .i64 i)]) (fun i => i ≤ b.scenes.length) (fun i => b.scenes.length - i) (0) hf hh ?_ ?_ ?_
      · repeat' (first | exact True.intro | refine And.intro rfl ?_)
      · first | exact True.intro | omega | (simp; omega) | simp
      · rintro i a w hpr hf hh
        refine sy_seq ?_
        refine sy_ops ?_
        refine ops_v hf hh (yv_bin rfl rfl rfl) (.inl rfl) rfl rfl rfl ?_; clear hf; clear a; intro a hf
        refine ops_end ?_
        refine then_n ?_
        refine sy_seq ?_
        refine sy_cond hf rfl (fun hg38 => ?_) (fun hg38 => ?_)
        · have hG38 := hg38; try simp only [gS] at hG38
          refine sy_skip ?_
          refine then_n ?_
          refine sy_seq ?_
          refine sy_block ?_
          refine sy_seq ?_
          refine sy_ops ?_
          refine ops_v hf hh (yv_move rfl) (.inl rfl) rfl rfl rfl ?_; clear hf; clear a; intro a hf
          refine ops_v hf hh (yv_assign rfl) (.inl rfl) rfl rfl rfl ?_; clear hf; clear a; intro a hf
          refine ops_end ?_
          refine then_n ?_
          refine sy_seq ?_
          refine sy_seq ?_
          refine sy_ops ?_
          refine ops_v hf hh (yv_move rfl) (.inl rfl) rfl rfl rfl ?_; clear hf; clear a; intro a hf
          refine ops_v hf hh (yv_move rfl) (.inl rfl) rfl rfl rfl ?_; clear hf; clear a; intro a hf
          refine ops_buildSl hf hh Tryd.bl_45_1 rfl rfl (.inl rfl) rfl ?_; clear hf hh; clear a; intro B158 a w hf hh
          refine ops_call hf Tryd.en_32 rfl rfl rfl (.inl rfl) rfl (c32a b sa sc B2 B158 i _ hV (hT.ext hh.ext (by simp)) (hS.ext hh.ext) (by omega) (hh.at (i := 1) rfl) (hh.at (i := 0) rfl)) ?_; clear hf; clear a; intro v a w hR hf
          obtain ⟨rfl, hx⟩ := hR; replace hh := hh.more hx; clear hx
          refine ops_v hf hh (yv_assign rfl) (.inl rfl) rfl rfl rfl ?_; clear hf; clear a; intro a hf
          refine ops_end ?_
          refine then_n ?_
          refine sy_seq ?_
          refine sy_ops ?_
          refine ops_v hf hh (yv_move rfl) (.inl rfl) rfl rfl rfl ?_; clear hf; clear a; intro a hf
          refine ops_v hf hh (yv_bin rfl rfl rfl) (.inl rfl) rfl rfl rfl ?_; clear hf; clear a; intro a hf
          refine ops_v hf hh (yv_move rfl) (.inl rfl) rfl rfl rfl ?_; clear hf; clear a; intro a hf
          refine ops_off hf (goff rfl rfl rfl (by first | assumption | rfl | (simp; done) | (simp; omega))) rfl rfl ?_; clear hf; clear a; intro a hf
          refine ops_off hf (goff rfl rfl rfl (by first | assumption | rfl | (simp; done) | (simp; omega))) rfl rfl ?_; clear hf; clear a; intro a hf
          refine ops_v hf hh (yv_pick_f rfl (by first | assumption | rfl | (simp; done) | (simp; omega)) rfl) (.inl rfl) rfl rfl rfl ?_; clear hf; clear a; intro a hf
          refine ops_v hf hh (yv_move rfl) (.inl rfl) rfl rfl rfl ?_; clear hf; clear a; intro a hf
          refine ops_v hf hh (yv_move rfl) (gon rfl rfl rfl (by first | assumption | rfl | (simp; done) | (simp; omega))) rfl rfl rfl ?_; clear hf; clear a; intro a hf
          refine ops_v hf hh (yv_bin rfl rfl rfl) (gon rfl rfl rfl (by first | assumption | rfl | (simp; done) | (simp; omega))) rfl rfl rfl ?_; clear hf; clear a; intro a hf
          refine ops_v hf hh (yv_move rfl) (gon rfl rfl rfl (by first | assumption | rfl | (simp; done) | (simp; omega))) rfl rfl rfl ?_; clear hf; clear a; intro a hf
          refine ops_v hf hh (yv_move rfl) (gon rfl rfl rfl (by first | assumption | rfl | (simp; done) | (simp; omega))) rfl rfl rfl ?_; clear hf; clear a; intro a hf
          refine ops_v hf hh (yv_move rfl) (gon rfl rfl rfl (by first | assumption | rfl | (simp; done) | (simp; omega))) rfl rfl rfl ?_; clear hf; clear a; intro a hf
          refine ops_v hf hh (yv_bin rfl rfl rfl) (gon rfl rfl rfl (by first | assumption | rfl | (simp; done) | (simp; omega))) rfl rfl rfl ?_; clear hf; clear a; intro a hf
          refine ops_v hf hh (yv_move rfl) (gon rfl rfl rfl (by first | assumption | rfl | (simp; done) | (simp; omega))) rfl rfl rfl ?_; clear hf; clear a; intro a hf
          refine guard_split hf (t := 173) rfl (fun hg43 => ?_) (fun hg43 => ?_)
          · have hG43 := hg43; try simp only [gS] at hG43
            refine ops_v hf hh (yv_move rfl) (gon rfl rfl rfl (by first | assumption | rfl | (simp; done) | (simp; omega))) rfl rfl rfl ?_; clear hf; clear a; intro a hf
            refine ops_v hf hh (yv_not rfl) (gon rfl rfl rfl (by first | assumption | rfl | (simp; done) | (simp; omega))) rfl rfl rfl ?_; clear hf; clear a; intro a hf
            refine ops_v hf hh (yv_pick_t rfl (by first | assumption | rfl | (simp; done) | (simp; omega)) rfl) (gon rfl rfl rfl (by first | assumption | rfl | (simp; done) | (simp; omega))) rfl rfl rfl ?_; clear hf; clear a; intro a hf
            refine ops_v hf hh (yv_move rfl) (gon rfl rfl rfl (by first | assumption | rfl | (simp; done) | (simp; omega))) rfl rfl rfl ?_; clear hf; clear a; intro a hf
            refine guard_split hf (t := 177) rfl (fun hg44 => ?_) (fun hg44 => ?_)
            · have hG44 := hg44; try simp only [gS] at hG44
              refine ops_off hf (goff rfl rfl rfl (by first | assumption | rfl | (simp; done) | (simp; omega))) rfl rfl ?_; clear hf; clear a; intro a hf
              refine ops_off hf (goff rfl rfl rfl (by first | assumption | rfl | (simp; done) | (simp; omega))) rfl rfl ?_; clear hf; clear a; intro a hf
              refine ops_off hf (goff rfl rfl rfl (by first | assumption | rfl | (simp; done) | (simp; omega))) rfl rfl ?_; clear hf; clear a; intro a hf
              refine ops_off hf (goff rfl rfl rfl (by first | assumption | rfl | (simp; done) | (simp; omega))) rfl rfl ?_; clear hf; clear a; intro a hf
              refine ops_off hf (goffu rfl rfl rfl) rfl rfl ?_; clear hf; clear a; intro a hf
              refine ops_off hf (goff rfl rfl rfl (by first | assumption | rfl | (simp; done) | (simp; omega))) rfl rfl ?_; clear hf; clear a; intro a hf
              refine ops_v hf hh (yv_pick_t rfl (by first | assumption | rfl | (simp; done) | (simp; omega)) rfl) (gon rfl rfl rfl (by first | assumption | rfl | (simp; done) | (simp; omega))) rfl rfl rfl ?_; clear hf; clear a; intro a hf
              refine ops_v hf hh (yv_pick_t rfl (by first | assumption | rfl | (simp; done) | (simp; omega)) rfl) (gon rfl rfl rfl (by first | assumption | rfl | (simp; done) | (simp; omega))) rfl rfl rfl ?_; clear hf; clear a; intro a hf
              refine ops_v hf hh (yv_pick_f rfl (by first | assumption | rfl | (simp; done) | (simp; omega)) rfl) (.inl rfl) rfl rfl rfl ?_; clear hf; clear a; intro a hf
              refine ops_end ?_
              refine then_n ?_
              refine sy_ct hf rfl (by first | assumption | rfl | (simp; done) | (simp; omega)) ?_
              refine sy_seq ?_
              refine sy_ops ?_
              refine ops_v hf hh (yv_assign rfl) (.inl rfl) rfl rfl rfl ?_; clear hf; clear a; intro a hf
              refine ops_end ?_
              refine then_n ?_
              refine sy_ret ?_
              refine then_r ?_
              refine blk_r ?_
              refine then_r ?_
              refine then_r ?_
              refine blk_r ?_
              refine then_r ?_
              refine ret_r hf rfl rfl ?_
              first
                | exact ⟨rfl, hh.ext⟩
                | (exfalso; omega)
                | (exfalso
                   have h2 : neverB b (2 ^ i) = true := by assumption
                   rw [hn2 i (by omega)] at h2; cases h2)
                | (exfalso
                   have hi : i = i0 := by omega
                   subst hi
                   have h2 : neverB b (2 ^ i) = false := by assumption
                   rw [hn1] at h2; cases h2)
            · have hG44 := hg44; try simp only [gS] at hG44
              refine ops_v hf hh (yv_move rfl) (gon rfl rfl rfl (by first | assumption | rfl | (simp; done) | (simp; omega))) rfl rfl rfl ?_; clear hf; clear a; intro a hf
              refine ops_v hf hh (yv_move rfl) (gon rfl rfl rfl (by first | assumption | rfl | (simp; done) | (simp; omega))) rfl rfl rfl ?_; clear hf; clear a; intro a hf
              refine ops_v hf hh (yv_bin rfl rfl rfl) (gon rfl rfl rfl (by first | assumption | rfl | (simp; done) | (simp; omega))) rfl rfl rfl ?_; clear hf; clear a; intro a hf
              refine ops_v hf hh (yv_move rfl) (gon rfl rfl rfl (by first | assumption | rfl | (simp; done) | (simp; omega))) rfl rfl rfl ?_; clear hf; clear a; intro a hf
              refine guard_split hf (t := 181) rfl (fun hg46 => ?_) (fun hg46 => ?_)
              · have hG46 := hg46; try simp only [gS] at hG46
                refine ops_v hf hh (yv_move rfl) (gon rfl rfl rfl (by first | assumption | rfl | (simp; done) | (simp; omega))) rfl rfl rfl ?_; clear hf; clear a; intro a hf
                refine ops_v hf hh (yv_pick_t rfl (by first | assumption | rfl | (simp; done) | (simp; omega)) rfl) (gon rfl rfl rfl (by first | assumption | rfl | (simp; done) | (simp; omega))) rfl rfl rfl ?_; clear hf; clear a; intro a hf
                refine ops_v hf hh (yv_pick_f rfl (by first | assumption | rfl | (simp; done) | (simp; omega)) rfl) (gon rfl rfl rfl (by first | assumption | rfl | (simp; done) | (simp; omega))) rfl rfl rfl ?_; clear hf; clear a; intro a hf
                refine ops_v hf hh (yv_pick_t rfl (by first | assumption | rfl | (simp; done) | (simp; omega)) rfl) (gon rfl rfl rfl (by first | assumption | rfl | (simp; done) | (simp; omega))) rfl rfl rfl ?_; clear hf; clear a; intro a hf
                refine ops_v hf hh (yv_pick_f rfl (by first | assumption | rfl | (simp; done) | (simp; omega)) rfl) (.inl rfl) rfl rfl rfl ?_; clear hf; clear a; intro a hf
                refine ops_end ?_
                refine then_n ?_
                refine sy_ct hf rfl (by first | assumption | rfl | (simp; done) | (simp; omega)) ?_
                refine sy_seq ?_
                refine sy_ops ?_
                refine ops_v hf hh (yv_assign rfl) (.inl rfl) rfl rfl rfl ?_; clear hf; clear a; intro a hf
                refine ops_end ?_
                refine then_n ?_
                refine sy_ret ?_
                refine then_r ?_
                refine blk_r ?_
                refine then_r ?_
                refine then_r ?_
                refine blk_r ?_
                refine then_r ?_
                refine ret_r hf rfl rfl ?_
                first
                  | exact ⟨rfl, hh.ext⟩
                  | (exfalso; omega)
                  | (exfalso
                     have h2 : neverB b (2 ^ i) = true := by assumption
                     rw [hn2 i (by omega)] at h2; cases h2)
                  | (exfalso
                     have hi : i = i0 := by omega
                     subst hi
                     have h2 : neverB b (2 ^ i) = false := by assumption
                     rw [hn1] at h2; cases h2)
              · have hG46 := hg46; try simp only [gS] at hG46
                refine ops_off hf (goff rfl rfl rfl (by first | assumption | rfl | (simp; done) | (simp; omega))) rfl rfl ?_; clear hf; clear a; intro a hf
                refine ops_v hf hh (yv_pick_f rfl (by first | assumption | rfl | (simp; done) | (simp; omega)) rfl) (gon rfl rfl rfl (by first | assumption | rfl | (simp; done) | (simp; omega))) rfl rfl rfl ?_; clear hf; clear a; intro a hf
                refine ops_v hf hh (yv_pick_f rfl (by first | assumption | rfl | (simp; done) | (simp; omega)) rfl) (gon rfl rfl rfl (by first | assumption | rfl | (simp; done) | (simp; omega))) rfl rfl rfl ?_; clear hf; clear a; intro a hf
                refine ops_v hf hh (yv_pick_t rfl (by first | assumption | rfl | (simp; done) | (simp; omega)) rfl) (gon rfl rfl rfl (by first | assumption | rfl | (simp; done) | (simp; omega))) rfl rfl rfl ?_; clear hf; clear a; intro a hf
                refine ops_v hf hh (yv_pick_f rfl (by first | assumption | rfl | (simp; done) | (simp; omega)) rfl) (.inl rfl) rfl rfl rfl ?_; clear hf; clear a; intro a hf
                refine ops_end ?_
                refine then_n ?_
                refine sy_cf hf rfl (by first | assumption | rfl | (simp; done) | (simp; omega)) ?_
                refine sy_skip ?_
                refine then_n ?_
                refine sy_seq ?_
                refine sy_ops ?_
                refine ops_v hf hh (yv_move rfl) (.inl rfl) rfl rfl rfl ?_; clear hf; clear a; intro a hf
                first | refine ops_v hf hh (yv_add rfl rfl (by omega) (by omega)) (.inl rfl) rfl rfl rfl ?_; clear hf; clear a; intro a hf | refine ops_v hf hh (yv_bin rfl rfl rfl) (.inl rfl) rfl rfl rfl ?_; clear hf; clear a; intro a hf
                refine ops_v hf hh (yv_assign rfl) (.inl rfl) rfl rfl rfl ?_; clear hf; clear a; intro a hf
                refine ops_end ?_
                refine then_n ?_
                refine sy_block ?_
                refine sy_loopF (σ := Nat) [4, 17, 18, 189, 190, 191, 192, 193, 194, 195, 196, 197, 198, 199, 200, 201, 202, 203, 204, 205, 206, 207, 208, 209, 210, 211, 212, 213, 214, 215, 216, 217, 218, 219, 220, 221, 222, 223, 224, 225, 226, 227, 228, 229, 230, 231, 232, 233, 234, 235, 236, 237, 238, 239, 240, 241, 242, 243, 244] (fun k => [(17, .int .i64 k)]) (fun k => i + 1 ≤ k ∧ k ≤ b.scenes.length) (fun k => b.scenes.length - k) (i + 1) hf hh ?_ ?_ ?_
                · repeat' (first | exact True.intro | refine And.intro rfl ?_)
                · omega
                · rintro k a w ⟨hk1, hk2⟩ hf hh
                  refine sy_seq ?_
                  refine sy_seq ?_
                  refine sy_ops ?_
                  refine ops_v hf hh (yv_move rfl) (.inl rfl) rfl rfl rfl ?_; clear hf; clear a; intro a hf
                  refine ops_v hf hh (yv_move rfl) (.inl rfl) rfl rfl rfl ?_; clear hf; clear a; intro a hf
                  refine ops_v hf hh (yv_bin rfl rfl rfl) (.inl rfl) rfl rfl rfl ?_; clear hf; clear a; intro a hf
                  refine ops_v hf hh (yv_move rfl) (.inl rfl) rfl rfl rfl ?_; clear hf; clear a; intro a hf
                  refine guard_split hf (t := 192) rfl (fun hg48 => ?_) (fun hg48 => ?_)
                  · have hG48 := hg48; try simp only [gS] at hG48
                    refine ops_v hf hh (yv_move rfl) (gon rfl rfl rfl (by first | assumption | rfl | (simp; done) | (simp; omega))) rfl rfl rfl ?_; clear hf; clear a; intro a hf
                    refine ops_v hf hh (yv_bin rfl rfl rfl) (gon rfl rfl rfl (by first | assumption | rfl | (simp; done) | (simp; omega))) rfl rfl rfl ?_; clear hf; clear a; intro a hf
                    refine ops_v hf hh (yv_pick_t rfl (by first | assumption | rfl | (simp; done) | (simp; omega)) rfl) (.inl rfl) rfl rfl rfl ?_; clear hf; clear a; intro a hf
                    refine ops_end ?_
                    refine then_n ?_
                    refine sy_cf hf rfl (by first | assumption | rfl | (simp; done) | (simp; omega)) ?_
                    refine sy_exit ?_
                    refine then_e ?_
                    refine then_e ?_
                    refine blk_e ?_
                    refine blk_n ?_
                    refine then_n ?_
                    refine sy_ops ?_
                    first | refine ops_v hf hh (yv_add rfl rfl (by omega) (by omega)) (.inl rfl) rfl rfl rfl ?_; clear hf; clear a; intro a hf | refine ops_v hf hh (yv_bin rfl rfl rfl) (.inl rfl) rfl rfl rfl ?_; clear hf; clear a; intro a hf
                    refine ops_v hf hh (yv_move rfl) (.inl rfl) rfl rfl rfl ?_; clear hf; clear a; intro a hf
                    refine ops_end ?_
                    refine then_n ?_
                    exact ⟨i + 1, ⟨by omega, hf.head ⟨rfl, True.intro⟩ (Keep.cons rfl (Keep.cons rfl (Keep.cons rfl (Keep.cons rfl (Keep.cons rfl (Keep.cons rfl (Keep.cons rfl (Keep.cons rfl (Keep.cons rfl (Keep.app rfl (Keep.rm rfl (Keep.cons rfl (Keep.cons rfl (Keep.cons rfl (Keep.cons rfl (Keep.cons rfl (Keep.cons rfl (Keep.cons rfl (Keep.cons rfl (Keep.cons rfl (Keep.cons rfl (Keep.cons rfl (Keep.cons rfl (Keep.cons rfl (Keep.cons rfl (Keep.cons rfl (Keep.cons rfl (Keep.cons rfl (Keep.cons rfl (Keep.cons rfl (Keep.cons rfl (Keep.cons rfl (Keep.cons rfl (Keep.cons rfl (Keep.cons rfl (Keep.cons rfl (Keep.cons rfl (Keep.cons rfl (Keep.cons rfl (Keep.cons rfl (Keep.cons rfl (Keep.cons rfl (Keep.cons rfl (Keep.cons rfl (Keep.cons rfl (Keep.cons rfl (Keep.cons rfl (Keep.cons rfl (Keep.cons rfl (Keep.app rfl (Keep.rm rfl Keep.base))))))))))))))))))))))))))))))))))))))))))))))))))), hh.less (.cons _ (List.Sublist.refl _))⟩, by omega⟩
                  · have hG48 := hg48; try simp only [gS] at hG48
                    refine ops_off hf (goff rfl rfl rfl (by first | assumption | rfl | (simp; done) | (simp; omega))) rfl rfl ?_; clear hf; clear a; intro a hf
                    refine ops_off hf (goff rfl rfl rfl (by first | assumption | rfl | (simp; done) | (simp; omega))) rfl rfl ?_; clear hf; clear a; intro a hf
                    refine ops_v hf hh (yv_pick_f rfl (by first | assumption | rfl | (simp; done) | (simp; omega)) rfl) (.inl rfl) rfl rfl rfl ?_; clear hf; clear a; intro a hf
                    refine ops_end ?_
                    refine then_n ?_
                    refine sy_cf hf rfl (by first | assumption | rfl | (simp; done) | (simp; omega)) ?_
                    refine sy_exit ?_
                    refine then_e ?_
                    refine then_e ?_
                    refine blk_e ?_
                    refine blk_n ?_
                    refine then_n ?_
                    refine sy_ops ?_
                    first | refine ops_v hf hh (yv_add rfl rfl (by omega) (by omega)) (.inl rfl) rfl rfl rfl ?_; clear hf; clear a; intro a hf | refine ops_v hf hh (yv_bin rfl rfl rfl) (.inl rfl) rfl rfl rfl ?_; clear hf; clear a; intro a hf
                    refine ops_v hf hh (yv_move rfl) (.inl rfl) rfl rfl rfl ?_; clear hf; clear a; intro a hf
                    refine ops_end ?_
                    refine then_n ?_
                    exact ⟨i + 1, ⟨by omega, hf.head ⟨rfl, True.intro⟩ (Keep.cons rfl (Keep.cons rfl (Keep.cons rfl (Keep.cons rfl (Keep.cons rfl (Keep.cons rfl (Keep.cons rfl (Keep.cons rfl (Keep.cons rfl (Keep.app rfl (Keep.rm rfl (Keep.cons rfl (Keep.cons rfl (Keep.cons rfl (Keep.cons rfl (Keep.cons rfl (Keep.cons rfl (Keep.cons rfl (Keep.cons rfl (Keep.cons rfl (Keep.cons rfl (Keep.cons rfl (Keep.cons rfl (Keep.cons rfl (Keep.cons rfl (Keep.cons rfl (Keep.cons rfl (Keep.cons rfl (Keep.cons rfl (Keep.cons rfl (Keep.cons rfl (Keep.cons rfl (Keep.cons rfl (Keep.cons rfl (Keep.cons rfl (Keep.cons rfl (Keep.cons rfl (Keep.cons rfl (Keep.cons rfl (Keep.cons rfl (Keep.cons rfl (Keep.cons rfl (Keep.cons rfl (Keep.cons rfl (Keep.cons rfl (Keep.cons rfl (Keep.cons rfl (Keep.cons rfl (Keep.cons rfl (Keep.app rfl (Keep.rm rfl Keep.base))))))))))))))))))))))))))))))))))))))))))))))))))), hh.less (.cons _ (List.Sublist.refl _))⟩, by omega⟩
          · have hG43 := hg43; try simp only [gS] at hG43
            refine ops_off hf (goff rfl rfl rfl (by first | assumption | rfl | (simp; done) | (simp; omega))) rfl rfl ?_; clear hf; clear a; intro a hf
            refine ops_off hf (goff rfl rfl rfl (by first | assumption | rfl | (simp; done) | (simp; omega))) rfl rfl ?_; clear hf; clear a; intro a hf
            refine ops_v hf hh (yv_pick_f rfl (by first | assumption | rfl | (simp; done) | (simp; omega)) rfl) (gon rfl rfl rfl (by first | assumption | rfl | (simp; done) | (simp; omega))) rfl rfl rfl ?_; clear hf; clear a; intro a hf
            refine ops_v hf hh (yv_move rfl) (gon rfl rfl rfl (by first | assumption | rfl | (simp; done) | (simp; omega))) rfl rfl rfl ?_; clear hf; clear a; intro a hf
            refine ops_v hf hh (yv_move rfl) (gon rfl rfl rfl (by first | assumption | rfl | (simp; done) | (simp; omega))) rfl rfl rfl ?_; clear hf; clear a; intro a hf
            refine ops_v hf hh (yv_move rfl) (gon rfl rfl rfl (by first | assumption | rfl | (simp; done) | (simp; omega))) rfl rfl rfl ?_; clear hf; clear a; intro a hf
            refine ops_v hf hh (yv_bin rfl rfl rfl) (gon rfl rfl rfl (by first | assumption | rfl | (simp; done) | (simp; omega))) rfl rfl rfl ?_; clear hf; clear a; intro a hf
            refine ops_v hf hh (yv_move rfl) (gon rfl rfl rfl (by first | assumption | rfl | (simp; done) | (simp; omega))) rfl rfl rfl ?_; clear hf; clear a; intro a hf
            refine guard_split hf (t := 181) rfl (fun hg51 => ?_) (fun hg51 => ?_)
            · have hG51 := hg51; try simp only [gS] at hG51
              refine ops_v hf hh (yv_move rfl) (gon rfl rfl rfl (by first | assumption | rfl | (simp; done) | (simp; omega))) rfl rfl rfl ?_; clear hf; clear a; intro a hf
              refine ops_v hf hh (yv_pick_t rfl (by first | assumption | rfl | (simp; done) | (simp; omega)) rfl) (gon rfl rfl rfl (by first | assumption | rfl | (simp; done) | (simp; omega))) rfl rfl rfl ?_; clear hf; clear a; intro a hf
              refine ops_v hf hh (yv_pick_f rfl (by first | assumption | rfl | (simp; done) | (simp; omega)) rfl) (gon rfl rfl rfl (by first | assumption | rfl | (simp; done) | (simp; omega))) rfl rfl rfl ?_; clear hf; clear a; intro a hf
              refine ops_v hf hh (yv_pick_t rfl (by first | assumption | rfl | (simp; done) | (simp; omega)) rfl) (gon rfl rfl rfl (by first | assumption | rfl | (simp; done) | (simp; omega))) rfl rfl rfl ?_; clear hf; clear a; intro a hf
              refine ops_v hf hh (yv_pick_f rfl (by first | assumption | rfl | (simp; done) | (simp; omega)) rfl) (.inl rfl) rfl rfl rfl ?_; clear hf; clear a; intro a hf
              refine ops_end ?_
              refine then_n ?_
              refine sy_cond hf rfl (fun hg52 => ?_) (fun hg52 => ?_)
              · have hG52 := hg52; try simp only [gS] at hG52
                refine sy_seq ?_
                refine sy_ops ?_
                refine ops_v hf hh (yv_assign rfl) (.inl rfl) rfl rfl rfl ?_; clear hf; clear a; intro a hf
                refine ops_end ?_
                refine then_n ?_
                refine sy_ret ?_
                refine then_r ?_
                refine blk_r ?_
                refine then_r ?_
                refine then_r ?_
                refine blk_r ?_
                refine then_r ?_
                refine ret_r hf rfl rfl ?_
                first
                  | exact ⟨rfl, hh.ext⟩
                  | (exfalso; omega)
                  | (exfalso
                     have h2 : neverB b (2 ^ i) = true := by assumption
                     rw [hn2 i (by omega)] at h2; cases h2)
                  | (exfalso
                     have hi : i = i0 := by omega
                     subst hi
                     have h2 : neverB b (2 ^ i) = false := by assumption
                     rw [hn1] at h2; cases h2)
              · have hG52 := hg52; try simp only [gS] at hG52
                refine sy_skip ?_
                refine then_n ?_
                refine sy_seq ?_
                refine sy_ops ?_
                refine ops_v hf hh (yv_move rfl) (.inl rfl) rfl rfl rfl ?_; clear hf; clear a; intro a hf
                first | refine ops_v hf hh (yv_add rfl rfl (by omega) (by omega)) (.inl rfl) rfl rfl rfl ?_; clear hf; clear a; intro a hf | refine ops_v hf hh (yv_bin rfl rfl rfl) (.inl rfl) rfl rfl rfl ?_; clear hf; clear a; intro a hf
                refine ops_v hf hh (yv_assign rfl) (.inl rfl) rfl rfl rfl ?_; clear hf; clear a; intro a hf
                refine ops_end ?_
                refine then_n ?_
                refine sy_block ?_
                refine sy_loopF (σ := Nat) [4, 17, 18, 189, 190, 191, 192, 193, 194, 195, 196, 197, 198, 199, 200, 201, 202, 203, 204, 205, 206, 207, 208, 209, 210, 211, 212, 213, 214, 215, 216, 217, 218, 219, 220, 221, 222, 223, 224, 225, 226, 227, 228, 229, 230, 231, 232, 233, 234, 235, 236, 237, 238, 239, 240, 241, 242, 243, 244] (fun k => [(17, .int .i64 k)]) (fun k => i + 1 ≤ k ∧ k ≤ b.scenes.length) (fun k => b.scenes.length - k) (i + 1) hf hh ?_ ?_ ?_
                · repeat' (first | exact True.intro | refine And.intro rfl ?_)
                · omega
                · rintro k a w ⟨hk1, hk2⟩ hf hh
                  refine sy_seq ?_
                  refine sy_seq ?_
                  refine sy_ops ?_
                  refine ops_v hf hh (yv_move rfl) (.inl rfl) rfl rfl rfl ?_; clear hf; clear a; intro a hf
                  refine ops_v hf hh (yv_move rfl) (.inl rfl) rfl rfl rfl ?_; clear hf; clear a; intro a hf
                  refine ops_v hf hh (yv_bin rfl rfl rfl) (.inl rfl) rfl rfl rfl ?_; clear hf; clear a; intro a hf
                  refine ops_v hf hh (yv_move rfl) (.inl rfl) rfl rfl rfl ?_; clear hf; clear a; intro a hf
                  refine guard_split hf (t := 192) rfl (fun hg54 => ?_) (fun hg54 => ?_)
                  · have hG54 := hg54; try simp only [gS] at hG54
                    refine ops_v hf hh (yv_move rfl) (gon rfl rfl rfl (by first | assumption | rfl | (simp; done) | (simp; omega))) rfl rfl rfl ?_; clear hf; clear a; intro a hf
                    refine ops_v hf hh (yv_bin rfl rfl rfl) (gon rfl rfl rfl (by first | assumption | rfl | (simp; done) | (simp; omega))) rfl rfl rfl ?_; clear hf; clear a; intro a hf
                    refine ops_v hf hh (yv_pick_t rfl (by first | assumption | rfl | (simp; done) | (simp; omega)) rfl) (.inl rfl) rfl rfl rfl ?_; clear hf; clear a; intro a hf
                    refine ops_end ?_
                    refine then_n ?_
                    refine sy_cf hf rfl (by first | assumption | rfl | (simp; done) | (simp; omega)) ?_
                    refine sy_exit ?_
                    refine then_e ?_
                    refine then_e ?_
                    refine blk_e ?_
                    refine blk_n ?_
                    refine then_n ?_
                    refine sy_ops ?_
                    first | refine ops_v hf hh (yv_add rfl rfl (by omega) (by omega)) (.inl rfl) rfl rfl rfl ?_; clear hf; clear a; intro a hf | refine ops_v hf hh (yv_bin rfl rfl rfl) (.inl rfl) rfl rfl rfl ?_; clear hf; clear a; intro a hf
                    refine ops_v hf hh (yv_move rfl) (.inl rfl) rfl rfl rfl ?_; clear hf; clear a; intro a hf
                    refine ops_end ?_
                    refine then_n ?_
                    exact ⟨i + 1, ⟨by omega, hf.head ⟨rfl, True.intro⟩ (Keep.cons rfl (Keep.cons rfl (Keep.cons rfl (Keep.cons rfl (Keep.cons rfl (Keep.cons rfl (Keep.cons rfl (Keep.cons rfl (Keep.cons rfl (Keep.app rfl (Keep.rm rfl (Keep.cons rfl (Keep.cons rfl (Keep.cons rfl (Keep.cons rfl (Keep.cons rfl (Keep.cons rfl (Keep.cons rfl (Keep.cons rfl (Keep.cons rfl (Keep.cons rfl (Keep.cons rfl (Keep.cons rfl (Keep.cons rfl (Keep.cons rfl (Keep.cons rfl (Keep.cons rfl (Keep.cons rfl (Keep.cons rfl (Keep.cons rfl (Keep.cons rfl (Keep.cons rfl (Keep.cons rfl (Keep.cons rfl (Keep.cons rfl (Keep.cons rfl (Keep.cons rfl (Keep.cons rfl (Keep.cons rfl (Keep.cons rfl (Keep.cons rfl (Keep.cons rfl (Keep.cons rfl (Keep.cons rfl (Keep.cons rfl (Keep.cons rfl (Keep.cons rfl (Keep.cons rfl (Keep.cons rfl (Keep.app rfl (Keep.rm rfl Keep.base))))))))))))))))))))))))))))))))))))))))))))))))))), hh.less (.cons _ (List.Sublist.refl _))⟩, by omega⟩
                  · have hG54 := hg54; try simp only [gS] at hG54
                    refine ops_off hf (goff rfl rfl rfl (by first | assumption | rfl | (simp; done) | (simp; omega))) rfl rfl ?_; clear hf; clear a; intro a hf
                    refine ops_off hf (goff rfl rfl rfl (by first | assumption | rfl | (simp; done) | (simp; omega))) rfl rfl ?_; clear hf; clear a; intro a hf
                    refine ops_v hf hh (yv_pick_f rfl (by first | assumption | rfl | (simp; done) | (simp; omega)) rfl) (.inl rfl) rfl rfl rfl ?_; clear hf; clear a; intro a hf
                    refine ops_end ?_
                    refine then_n ?_
                    refine sy_cf hf rfl (by first | assumption | rfl | (simp; done) | (simp; omega)) ?_
                    refine sy_exit ?_
                    refine then_e ?_
                    refine then_e ?_
                    refine blk_e ?_
                    refine blk_n ?_
                    refine then_n ?_
                    refine sy_ops ?_
                    first | refine ops_v hf hh (yv_add rfl rfl (by omega) (by omega)) (.inl rfl) rfl rfl rfl ?_; clear hf; clear a; intro a hf | refine ops_v hf hh (yv_bin rfl rfl rfl) (.inl rfl) rfl rfl rfl ?_; clear hf; clear a; intro a hf
                    refine ops_v hf hh (yv_move rfl) (.inl rfl) rfl rfl rfl ?_; clear hf; clear a; intro a hf
                    refine ops_end ?_
                    refine then_n ?_
                    exact ⟨i + 1, ⟨by omega, hf.head ⟨rfl, True.intro⟩ (Keep.cons rfl (Keep.cons rfl (Keep.cons rfl (Keep.cons rfl (Keep.cons rfl (Keep.cons rfl (Keep.cons rfl (Keep.cons rfl (Keep.cons rfl (Keep.app rfl (Keep.rm rfl (Keep.cons rfl (Keep.cons rfl (Keep.cons rfl (Keep.cons rfl (Keep.cons rfl (Keep.cons rfl (Keep.cons rfl (Keep.cons rfl (Keep.cons rfl (Keep.cons rfl (Keep.cons rfl (Keep.cons rfl (Keep.cons rfl (Keep.cons rfl (Keep.cons rfl (Keep.cons rfl (Keep.cons rfl (Keep.cons rfl (Keep.cons rfl (Keep.cons rfl (Keep.cons rfl (Keep.cons rfl (Keep.cons rfl (Keep.cons rfl (Keep.cons rfl (Keep.cons rfl (Keep.cons rfl (Keep.cons rfl (Keep.cons rfl (Keep.cons rfl (Keep.cons rfl (Keep.cons rfl (Keep.cons rfl (Keep.cons rfl (Keep.cons rfl (Keep.cons rfl (Keep.cons rfl (Keep.cons rfl (Keep.app rfl (Keep.rm rfl Keep.base))))))))))))))))))))))))))))))))))))))))))))))))))), hh.less (.cons _ (List.Sublist.refl _))⟩, by omega⟩
            · have hG51 := hg51; try simp only [gS] at hG51
              refine ops_off hf (goff rfl rfl rfl (by first | assumption | rfl | (simp; done) | (simp; omega))) rfl rfl ?_; clear hf; clear a; intro a hf
              refine ops_v hf hh (yv_pick_f rfl (by first | assumption | rfl | (simp; done) | (simp; omega)) rfl) (gon rfl rfl rfl (by first | assumption | rfl | (simp; done) | (simp; omega))) rfl rfl rfl ?_; clear hf; clear a; intro a hf
              refine ops_v hf hh (yv_pick_f rfl (by first | assumption | rfl | (simp; done) | (simp; omega)) rfl) (gon rfl rfl rfl (by first | assumption | rfl | (simp; done) | (simp; omega))) rfl rfl rfl ?_; clear hf; clear a; intro a hf
              refine ops_v hf hh (yv_pick_t rfl (by first | assumption | rfl | (simp; done) | (simp; omega)) rfl) (gon rfl rfl rfl (by first | assumption | rfl | (simp; done) | (simp; omega))) rfl rfl rfl ?_; clear hf; clear a; intro a hf
              refine ops_v hf hh (yv_pick_f rfl (by first | assumption | rfl | (simp; done) | (simp; omega)) rfl) (.inl rfl) rfl rfl rfl ?_; clear hf; clear a; intro a hf
              refine ops_end ?_
              refine then_n ?_
              refine sy_cf hf rfl (by first | assumption | rfl | (simp; done) | (simp; omega)) ?_
              refine sy_skip ?_
              refine then_n ?_
              refine sy_seq ?_
              refine sy_ops ?_
              refine ops_v hf hh (yv_move rfl) (.inl rfl) rfl rfl rfl ?_; clear hf; clear a; intro a hf
              first | refine ops_v hf hh (yv_add rfl rfl (by omega) (by omega)) (.inl rfl) rfl rfl rfl ?_; clear hf; clear a; intro a hf | refine ops_v hf hh (yv_bin rfl rfl rfl) (.inl rfl) rfl rfl rfl ?_; clear hf; clear a; intro a hf
              refine ops_v hf hh (yv_assign rfl) (.inl rfl) rfl rfl rfl ?_; clear hf; clear a; intro a hf
              refine ops_end ?_
              refine then_n ?_
              refine sy_block ?_
              refine sy_loopF (σ := Nat) [4, 17, 18, 189, 190, 191, 192, 193, 194, 195, 196, 197, 198, 199, 200, 201, 202, 203, 204, 205, 206, 207, 208, 209, 210, 211, 212, 213, 214, 215, 216, 217, 218, 219, 220, 221, 222, 223, 224, 225, 226, 227, 228, 229, 230, 231, 232, 233, 234, 235, 236, 237, 238, 239, 240, 241, 242, 243, 244] (fun k => [(17, .int .i64 k)]) (fun k => i + 1 ≤ k ∧ k ≤ b.scenes.length) (fun k => b.scenes.length - k) (i + 1) hf hh ?_ ?_ ?_
              · repeat' (first | exact True.intro | refine And.intro rfl ?_)
              · omega
              · rintro k a w ⟨hk1, hk2⟩ hf hh
                refine sy_seq ?_
                refine sy_seq ?_
                refine sy_ops ?_
                refine ops_v hf hh (yv_move rfl) (.inl rfl) rfl rfl rfl ?_; clear hf; clear a; intro a hf
                refine ops_v hf hh (yv_move rfl) (.inl rfl) rfl rfl rfl ?_; clear hf; clear a; intro a hf
                refine ops_v hf hh (yv_bin rfl rfl rfl) (.inl rfl) rfl rfl rfl ?_; clear hf; clear a; intro a hf
                refine ops_v hf hh (yv_move rfl) (.inl rfl) rfl rfl rfl ?_; clear hf; clear a; intro a hf
                refine guard_split hf (t := 192) rfl (fun hg57 => ?_) (fun hg57 => ?_)
                · have hG57 := hg57; try simp only [gS] at hG57
                  refine ops_v hf hh (yv_move rfl) (gon rfl rfl rfl (by first | assumption | rfl | (simp; done) | (simp; omega))) rfl rfl rfl ?_; clear hf; clear a; intro a hf
                  refine ops_v hf hh (yv_bin rfl rfl rfl) (gon rfl rfl rfl (by first | assumption | rfl | (simp; done) | (simp; omega))) rfl rfl rfl ?_; clear hf; clear a; intro a hf
                  refine ops_v hf hh (yv_pick_t rfl (by first | assumption | rfl | (simp; done) | (simp; omega)) rfl) (.inl rfl) rfl rfl rfl ?_; clear hf; clear a; intro a hf
                  refine ops_end ?_
                  refine then_n ?_
                  refine sy_cf hf rfl (by first | assumption | rfl | (simp; done) | (simp; omega)) ?_
                  refine sy_exit ?_
                  refine then_e ?_
                  refine then_e ?_
                  refine blk_e ?_
                  refine blk_n ?_
                  refine then_n ?_
                  refine sy_ops ?_
                  first | refine ops_v hf hh (yv_add rfl rfl (by omega) (by omega)) (.inl rfl) rfl rfl rfl ?_; clear hf; clear a; intro a hf | refine ops_v hf hh (yv_bin rfl rfl rfl) (.inl rfl) rfl rfl rfl ?_; clear hf; clear a; intro a hf
                  refine ops_v hf hh (yv_move rfl) (.inl rfl) rfl rfl rfl ?_; clear hf; clear a; intro a hf
                  refine ops_end ?_
                  refine then_n ?_
                  exact ⟨i + 1, ⟨by omega, hf.head ⟨rfl, True.intro⟩ (Keep.cons rfl (Keep.cons rfl (Keep.cons rfl (Keep.cons rfl (Keep.cons rfl (Keep.cons rfl (Keep.cons rfl (Keep.cons rfl (Keep.cons rfl (Keep.app rfl (Keep.rm rfl (Keep.cons rfl (Keep.cons rfl (Keep.cons rfl (Keep.cons rfl (Keep.cons rfl (Keep.cons rfl (Keep.cons rfl (Keep.cons rfl (Keep.cons rfl (Keep.cons rfl (Keep.cons rfl (Keep.cons rfl (Keep.cons rfl (Keep.cons rfl (Keep.cons rfl (Keep.cons rfl (Keep.cons rfl (Keep.cons rfl (Keep.cons rfl (Keep.cons rfl (Keep.cons rfl (Keep.cons rfl (Keep.cons rfl (Keep.cons rfl (Keep.cons rfl (Keep.cons rfl (Keep.cons rfl (Keep.cons rfl (Keep.cons rfl (Keep.cons rfl (Keep.cons rfl (Keep.cons rfl (Keep.cons rfl (Keep.cons rfl (Keep.cons rfl (Keep.cons rfl (Keep.cons rfl (Keep.cons rfl (Keep.app rfl (Keep.rm rfl Keep.base))))))))))))))))))))))))))))))))))))))))))))))))))), hh.less (.cons _ (List.Sublist.refl _))⟩, by omega⟩
                · have hG57 := hg57; try simp only [gS] at hG57
                  refine ops_off hf (goff rfl rfl rfl (by first | assumption | rfl | (simp; done) | (simp; omega))) rfl rfl ?_; clear hf; clear a; intro a hf
                  refine ops_off hf (goff rfl rfl rfl (by first | assumption | rfl | (simp; done) | (simp; omega))) rfl rfl ?_; clear hf; clear a; intro a hf
                  refine ops_v hf hh (yv_pick_f rfl (by first | assumption | rfl | (simp; done) | (simp; omega)) rfl) (.inl rfl) rfl rfl rfl ?_; clear hf; clear a; intro a hf
                  refine ops_end ?_
                  refine then_n ?_
                  refine sy_cf hf rfl (by first | assumption | rfl | (simp; done) | (simp; omega)) ?_
                  refine sy_exit ?_
                  refine then_e ?_
                  refine then_e ?_
                  refine blk_e ?_
                  refine blk_n ?_
                  refine then_n ?_
                  refine sy_ops ?_
                  first | refine ops_v hf hh (yv_add rfl rfl (by omega) (by omega)) (.inl rfl) rfl rfl rfl ?_; clear hf; clear a; intro a hf | refine ops_v hf hh (yv_bin rfl rfl rfl) (.inl rfl) rfl rfl rfl ?_; clear hf; clear a; intro a hf
                  refine ops_v hf hh (yv_move rfl) (.inl rfl) rfl rfl rfl ?_; clear hf; clear a; intro a hf
                  refine ops_end ?_
                  refine then_n ?_
                  exact ⟨i + 1, ⟨by omega, hf.head ⟨rfl, True.intro⟩ (Keep.cons rfl (Keep.cons rfl (Keep.cons rfl (Keep.cons rfl (Keep.cons rfl (Keep.cons rfl (Keep.cons rfl (Keep.cons rfl (Keep.cons rfl (Keep.app rfl (Keep.rm rfl (Keep.cons rfl (Keep.cons rfl (Keep.cons rfl (Keep.cons rfl (Keep.cons rfl (Keep.cons rfl (Keep.cons rfl (Keep.cons rfl (Keep.cons rfl (Keep.cons rfl (Keep.cons rfl (Keep.cons rfl (Keep.cons rfl (Keep.cons rfl (Keep.cons rfl (Keep.cons rfl (Keep.cons rfl (Keep.cons rfl (Keep.cons rfl (Keep.cons rfl (Keep.cons rfl (Keep.cons rfl (Keep.cons rfl (Keep.cons rfl (Keep.cons rfl (Keep.cons rfl (Keep.cons rfl (Keep.cons rfl (Keep.cons rfl (Keep.cons rfl (Keep.cons rfl (Keep.cons rfl (Keep.cons rfl (Keep.cons rfl (Keep.cons rfl (Keep.cons rfl (Keep.cons rfl (Keep.cons rfl (Keep.app rfl (Keep.rm rfl Keep.base))))))))))))))))))))))))))))))))))))))))))))))))))), hh.less (.cons _ (List.Sublist.refl _))⟩, by omega⟩
        · have hG38 := hg38; try simp only [gS] at hG38
          refine sy_exit ?_
          refine then_e ?_
          refine then_e ?_
          refine blk_e ?_
          refine then_n ?_
          refine sy_seq ?_
          refine sy_ops ?_
          refine ops_call hf Tryd.en_12 rfl rfl rfl (.inl rfl) rfl (c12 _ (hT.ext hh.ext (by simp))) ?_; clear hf; clear a; intro v a w hR hf
          obtain ⟨rfl, hx⟩ := hR; replace hh := hh.more hx; clear hx
          refine ops_v hf hh (yv_assign rfl) (.inl rfl) rfl rfl rfl ?_; clear hf; clear a; intro a hf
          refine ops_end ?_
          refine then_n ?_
          refine sy_ret ?_
          refine ret_r hf rfl rfl ?_
          first
            | exact ⟨rfl, hh.ext⟩
            | (exfalso; omega)
            | (exfalso
               have h2 : neverB b (2 ^ i) = true := by assumption
               rw [hn2 i (by omega)] at h2; cases h2)
            | (exfalso
               have hi : i = i0 := by omega
               subst hi
               have h2 : neverB b (2 ^ i) = false := by assumption
               rw [hn1] at h2; cases h2)
end Go.Proofs.YtkolcbjghphjeaaDoor
