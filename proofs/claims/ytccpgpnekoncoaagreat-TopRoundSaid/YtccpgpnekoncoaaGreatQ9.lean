/- Lemmas, in order: Counts of cards as keys; the counts that are reached card by card. The counts that can be.. -/
import Derived.Test.YtccpgpnekoncoaaGreatQ8
namespace Go.RoyM
open Go Go.Sy
abbrev intsC (n : Cts) : List Int := [((n.1 : Nat) : Int), ((n.2.1 : Nat) : Int), ((n.2.2.1 : Nat) : Int), ((n.2.2.2 : Nat) : Int)]
theorem intsC_inj (p q : Cts) (h : intsC p = intsC q) : p = q := by
  obtain ⟨a, b, c, d⟩ := p
  obtain ⟨a', b', c', d'⟩ := q
  simp only [intsC, List.cons.injEq, and_true, Int.natCast_inj] at h
  obtain ⟨rfl, rfl, rfl, rfl⟩ := h
  rfl
abbrev encC (n : Cts) : Value := .agg (ctC n)
/-- Counts with one card more, for one of the agents of a set. -/
def inT (m who : Nat) (done : List Cts) (n : Cts) : Prop := ∃ y ∈ done, ∃ g, g < m ∧ who.testBit g = true ∧ n = cinc y g
theorem inT_nil (m who : Nat) (n : Cts) : ¬ inT m who [] n := fun ⟨_, h, _⟩ => by cases h
theorem inT_snoc {m who : Nat} {done : List Cts} {y n : Cts} : inT m who (done ++ [y]) n ↔ inT m who done n ∨ ∃ g, g < m ∧ who.testBit g = true ∧ n = cinc y g := by
  unfold inT
  constructor
  · rintro ⟨z, hz, h⟩
    rcases List.mem_append.1 hz with hz | hz
    · exact .inl ⟨z, hz, h⟩
    · rw [List.mem_singleton.1 hz] at h; exact .inr h
  · rintro (⟨z, hz, h⟩ | h)
    · exact ⟨z, List.mem_append_left _ hz, h⟩
    · exact ⟨y, by simp, h⟩
theorem inT_all {m who : Nat} {S S' done : List Cts} (hS : ∀ n, n ∈ S ↔ n ∈ S') (h1 : ∀ y ∈ done, y ∈ S) (h2 : ∀ y ∈ S, y ∈ done) (n : Cts) : inT m who done n ↔ n ∈ stepC m who S' := by
  rw [stepC_mem]
  constructor
  · rintro ⟨y, hy, h⟩; exact ⟨y, (hS y).1 (h1 y hy), h⟩
  · rintro ⟨y, hy, h⟩; exact ⟨y, h2 y ((hS y).2 hy), h⟩
/-- Those of the first agents. -/
def inA (who i : Nat) (y n : Cts) : Prop := ∃ g, g < i ∧ who.testBit g = true ∧ n = cinc y g
theorem inA_zero (who : Nat) (y n : Cts) : ¬ inA who 0 y n := fun ⟨_, h, _⟩ => by omega
theorem inA_put {who i : Nat} {y n : Cts} (h : who.testBit i = true) : inA who (i + 1) y n ↔ inA who i y n ∨ n = cinc y i := by
  unfold inA
  constructor
  · rintro ⟨g, hg, h1, h2⟩
    rcases (show g < i ∨ g = i by omega) with h3 | h3
    · exact .inl ⟨g, h3, h1, h2⟩
    · subst h3; exact .inr h2
  · rintro (⟨g, hg, h1, h2⟩ | h2)
    · exact ⟨g, by omega, h1, h2⟩
    · exact ⟨i, by omega, h, h2⟩
theorem inA_no {who i : Nat} {y n : Cts} (h : who.testBit i = false) : inA who (i + 1) y n ↔ inA who i y n := by
  unfold inA
  constructor
  · rintro ⟨g, hg, h1, h2⟩
    rcases (show g < i ∨ g = i by omega) with h3 | h3
    · exact ⟨g, h3, h1, h2⟩
    · subst h3; rw [h] at h1; cases h1
  · rintro ⟨g, hg, h1, h2⟩
    exact ⟨g, by omega, h1, h2⟩
theorem insS_mem {S : List Cts} {p n : Cts} : n ∈ insS S p ↔ n ∈ S ∨ n = p := by
  unfold insS
  split
  · constructor
    · exact .inl
    · rintro (h | rfl)
      · exact h
      · assumption
  · simp
def cardsN (n : Cts) : Nat := n.1 + n.2.1 + n.2.2.1 + n.2.2.2
theorem cardsN_inc (n : Cts) (g : Nat) : cardsN (cinc n g) = cardsN n + 1 := by
  unfold cinc cardsN
  split
  · simp only; omega
  · split
    · simp only; omega
    · split
      · simp only; omega
      · simp only; omega
theorem cget_le (n : Cts) (g : Nat) : cget n g ≤ cardsN n := by
  unfold cget cardsN
  split
  · omega
  · split
    · omega
    · split <;> omega
theorem cards_N (n : Cts) : cards n = (cardsN n : Nat) := by unfold cards cardsN; omega
theorem foldC_cards (m : Nat) : ∀ (ws : List Nat) (S : List Cts) (a : Nat), (∀ n ∈ S, cardsN n = a) → ∀ n ∈ ws.foldl (fun S w => stepC m w S) S, cardsN n = a + ws.length
  | [], S, a, h, n, hn => h n hn
  | w :: ws, S, a, h, n, hn => by
    rw [List.foldl_cons] at hn
    have := foldC_cards m ws _ (a + 1) (fun n hn => by
      obtain ⟨y, hy, g, _, _, rfl⟩ := stepC_mem.1 hn
      rw [cardsN_inc, h y hy]) n hn
    rw [this, List.length_cons]; omega
theorem reachW_cards {m : Nat} {ws : List Nat} {n : Cts} (h : n ∈ reachW m ws) : cardsN n = ws.length := by
  have := foldC_cards m ws [(0, 0, 0, 0)] 0 (fun n hn => by rw [List.mem_singleton.1 hn]; rfl) n h
  omega
theorem whoS_at {d : RoyD} {k : Int} {i : Nat} {y : Nat × Nat} (h : (soldL d k)[i]? = some y) : reachW d.terms.length (((soldL d k).map Prod.snd).take (i + 1)) = stepC d.terms.length y.2 (reachW d.terms.length (((soldL d k).map Prod.snd).take i)) := by
  rw [List.take_add_one, List.getElem?_map, h]
  exact reachW_snoc _ _ _
theorem who_lt {d : RoyD} {k : Int} {i : Nat} {y : Nat × Nat} (h : (soldL d k)[i]? = some y) : y.2 < 16 := by
  have h1 := (soldT_mem.1 (List.mem_of_getElem? h)).2.1
  rw [h1]
  have := whoT_lt d k y.1 4
  exact this
theorem sold_len (d : RoyD) (k : Int) : (soldL d k).length ≤ 12 := soldT_len 12
theorem ctOk_of {n : Cts} (h : cardsN n ≤ 12) : ctOk n 12 := fun g _ => Nat.le_trans (cget_le n g) h
theorem reach_ok {d : RoyD} {k : Int} {n : Cts} (h : n ∈ reachL d k) : cardsN n ≤ 12 := by
  rw [reachW_cards h, List.length_map]; exact sold_len d k
theorem sV_at {d : RoyD} {k : Int} {i : Nat} {x : Array Value} (h : ((soldL d k).map sV)[i]? = some x) : ∃ y, (soldL d k)[i]? = some y ∧ x = sV y := by
  rw [List.getElem?_map] at h
  cases e : (soldL d k)[i]? with
  | none => rw [e] at h; cases h
  | some y => rw [e] at h; cases h; exact ⟨y, rfl, rfl⟩
end Go.RoyM

namespace Go.Proofs.YtccpgpnekoncoaaGreat
set_option maxRecDepth 100000
open Go Go.Sy Go.RoyM
theorem k97 : KeyOk Tryz.prog 101 encC := keyArr (k := .i64) intsC intsC_inj (fun _ => rfl) (show Tryz.prog.underlying 101 = some (.array 4 3) by kernel_rfl) (show Tryz.prog.underlying 3 = some (.int .i64) by kernel_rfl) (by kernel_rfl) (by kernel_rfl)
theorem mke94 : mapKE Tryz.prog 98 = some (101, 4) := by kernel_rfl
theorem un94 : Tryz.prog.underlying 98 = some (.map 101 4) := by kernel_rfl
set_option maxRecDepth 100000 in
theorem p76 (d : RoyD) (p : Pl) (Bc : Nat) (u : World) (hB : u.heap[Bc]? = some (.cells (royC d p) 89 (0, 0))) (hR : RoyAt u d p) (hO : RoyOk d) (kd : Nat) : Calls Tryz.prog 51 #[ptr Bc 0, .int .i64 (kd : Nat)] u (Ret fun v w' => ∃ bm es c S, v = .map (some bm) ∧ SetV encC (.bool true) S es c ∧ (∀ n, n ∈ S ↔ n ∈ reachL d kd) ∧ Hp u [] [(bm, .map es c)] w') := by
  refine calls_ofM Tryz.func51 rfl rfl (fun a hf => ?_)
  have hh := Hp.init u []
  obtain ⟨st, sp, ss, sr, sd, ct, cp, cs, cr, cd⟩ := p
  have hnt := hO.nt
  have hn1 := hR.n1
  refine sy_sq ?_
  refine o_box hf hh ?_; clear hf hh a; intro B2 a w hf hh
  refine o_v hf hh (yv_assign rfl) ?_; clear hf a; intro a hf
  refine o_end ?_
  refine sy_sq ?_
  refine ops_makeMap hf hh (.inl rfl) rfl ?_; clear hf hh; clear a; intro B12 a w hf hh
  refine o_v hf hh (yv_cast (yv_buildA Tryz.ba_101 rfl rfl) (show _ = encC ((0, 0, 0, 0) : Cts) from rfl)) ?_; clear hf a; intro a hf
  refine ops_insertS (i := 0) (p := ((0, 0, 0, 0) : Cts)) hf hh k97 mke94 rfl rfl rfl rfl (SetV.nil _ _) (.inl rfl) fun es0 c0 w hS0 hh => ?_
  refine o_v hf hh (yv_move rfl) ?_; clear hf a; intro a hf
  refine o_alloc hf hh Tryz.ze_98 ?_; clear hf hh a; intro B5 a w hf hh
  refine o_store hf hh Tryz.sz_98 fun w hh => ?_
  refine o_end ?_
  refine sy_seq ?_
  refine sy_sq ?_
  refine o_v hf hh (y_ld Tryz.sc_84 rfl) ?_; clear hf a; intro a hf
  refine o_v hf hh (yv_move rfl) ?_; clear hf a; intro a hf
  refine o_call hf Tryz.en_83 rfl rfl rfl (p82 Bc kd _) ?_; clear hf a; intro v a w hR hf
  obtain ⟨B1i, B2i, rfl, hx⟩ := hR; replace hh := hh.join hx; clear hx
  have hq : Hp u [] [(B2i, .cells #[.int .i64 (kd : Nat)] 3), (B1i, .cells #[ptr Bc 0] 84), (B5, .cells #[.map (some B12)] 98), (B12, .map es0 c0), (B2, .cells #[ptr Bc 0] 84)] w := hh
  replace hh := hq.less (.cons _ (.cons _ (.refl _)))
  refine o_end ?_
  refine sy_block ?_
  refine sy_rangeH (I := fun k H => ∃ bm es c S, SetV encC (.bool true) S es c ∧ (∀ n, n ∈ S ↔ n ∈ reachW d.terms.length (((soldL d kd).map Prod.snd).take k)) ∧ H = [(B5, .cells #[.map (some bm)] 98), (bm, .map es c), (B2, .cells #[ptr Bc 0] 84)]) (X := fun _ _ _ => False) hf hh Tryz.en_120 rfl (it100 d ⟨st, sp, ss, sr, sd, ct, cp, cs, cr, cd⟩ kd Bc B1i B2i hO hR.n4) (fun x hx => by cases hx) rfl (by intro x hx; obtain ⟨y, _, rfl⟩ := List.mem_map.1 hx; rfl) ?_ ?_ ?_ ?_ ?_ ?_
  · exact ⟨_, _, _, [(0, 0, 0, 0)], hS0, fun n => by rw [List.take_zero]; exact Iff.rfl, rfl⟩
  · intro N1 w1 e1 g1
    have h1 := (Hp.held (X := [(B5, .cells #[.map (some B12)] 98), (B12, .map es0 c0), (B2, .cells #[ptr Bc 0] 84)]) (is := [2, 3, 4]) hq rfl [1, 0])
    have h2 := Held.old hh hB h1
    refine ⟨(h2.sub fun q hq => ?_).step (e1.mono (by simp)) g1, (TOff.new hR.rp hh.ext hh.fresh).step (e1.mono (by simp)) g1⟩
    simp at hq ⊢
    rcases hq with rfl | rfl | rfl <;> simp
  ·rintro k x fn D l H w a tm hx ⟨bm, es, c, S, hS, hSm, rfl⟩ hv hh hf
   obtain ⟨x, hxk, rfl⟩ := sV_at hx
   obtain ⟨w9, rfl⟩ : ∃ z, z = w := ⟨_, rfl⟩
   have hBw := hv.old hB
   have hBn := round_off hv (hh.at (i := 0) rfl) (hh.at (i := 1) rfl) hB
   have hx16 := who_lt hxk
   have hsl := sold_len d kd
   have hkl := len_of hxk
   refine sy_ops ?_
   refine o_v hf hh (yv_assign rfl) ?_; clear hf a; intro a hf
   refine ops_end ?_
   refine then_n (Go.Sy.begun (i := 0) hh rfl fun w hh => ?_)
   refine sy_block ?_
   refine sy_seq ?_
   obtain ⟨ol, hol, hh⟩ := Hp.name (A := []) hh
   refine sy_ops ?_
   refine ops_makeMap hf hh (.inl rfl) rfl ?_; clear hf hh; clear a; intro B20 a w hf hh
   refine o_v hf hh (yv_assign rfl) ?_; clear hf a; intro a hf
   refine o_end ?_
   refine sy_sq ?_
   refine o_v hf hh (yv_move rfl) ?_; clear hf a; intro a hf
   refine o_v hf hh (yv_makeFunc rfl rfl) ?_; clear hf a; intro a hf
   refine o_v hf hh (yv_assign rfl) ?_; clear hf a; intro a hf
   refine o_end ?_
   refine sy_seq ?_
   refine sy_sq ?_
   refine o_v hf hh (y_ld Tryz.sc_98 rfl) ?_; clear hf a; intro a hf
   refine ops_range (κ := Cts) (enc := encC) (i := 4) hf hh un94 rfl rfl (.inl rfl) rfl fun Br o a w hRg hf hh => ?_
   refine o_end ?_
   refine sy_block ?_
   refine sy_loopH (σ := List Cts × List Cts × Array MapEntry × Nat × Obj) [10, 11, 25, 26, 27, 28, 29, 30, 31, 32, 33, 34, 35, 36, 37, 38, 39, 40, 41, 42, 43, 44, 45] (fun s => []) (fun s => fun w' => RngAt encC bm es c s.1 s.2.2.2.2 ∧ SetV encC (.bool true) s.2.1 s.2.2.1 s.2.2.2.1 ∧ (∀ n, n ∈ s.2.1 ↔ inT d.terms.length x.2 s.1 n) ∧ (∀ y ∈ s.1, y ∈ S) ∧ Hp w9 [l, D, B5, bm, B2] [(Br, s.2.2.2.2), (B20, .map s.2.2.1 s.2.2.2.1), (l, ol), (D, .deferred (some [])), (B5, .cells #[.map (some bm)] 98), (bm, .map es c), (B2, .cells #[ptr Bc 0] 84)] w') (fun s => leftS S s.1) (([], [], #[], 0, o)) hf ?_ ?_ ?_
   · repeat' (first | exact True.intro | refine And.intro rfl ?_)
   · exact ⟨hRg, SetV.nil _ _, fun n => ⟨fun h => (by cases h), fun h => absurd h (inT_nil _ _ _)⟩, fun y h => (by cases h), hh⟩
   ·rintro s a w ⟨hRg, hT, hTm, hsub, hh⟩ hf
    obtain ⟨s1, T, es2, c2, o⟩ := s; simp only at hRg hT hTm hsub hh hf ⊢
    refine sy_sq ?_
    refine ops_nextB (i := 0) (j := 5) k97 hf hh rfl rfl rfl hS hRg (.inl rfl) rfl fun b vs o2 a w hvs hb0 hb1 hf hh => ?_
    refine o_v hf hh (yv_extract rfl hvs) ?_; clear hf a; intro a hf
    refine o_end ?_
    refine sy_seq ?_
    refine sy_cond hf rfl (fun hg8 => ?_) (fun hg8 => ?_)
    ·have hG8 := hg8; try simp only [gS] at hG8
     refine sy_skip ?_
     refine then_n ?_
     refine sy_block ?_
     refine sy_seq ?_
     have hbt : b = true := by assumption
     obtain ⟨y, hyS, hyd, hRg2⟩ := hb1 hbt
     have hRg3 := hRg2
     have hyc := reachW_cards ((hSm y).1 hyS)
     rw [List.length_take, List.length_map] at hyc
     have hcy := cget_le y
     refine sy_ops ?_
     refine ops_v hf hh (yv_entry (done := s1) (p := y) rfl (fun w h => h.at (i := 0) rfl) (fun w h => h.at (i := 5) rfl) hS hRg2) (.inl rfl) rfl rfl rfl ?_; clear hf a; intro a hf
     refine o_v hf hh (yv_extract rfl rfl) ?_; clear hf a; intro a hf
     refine o_alloc hf hh Tryz.ze_101 ?_; clear hf hh a; intro B10 a w hf hh
     refine o_store hf hh Tryz.sz_101 fun w hh => ?_
     refine o_end ?_
     refine sy_sq ?_
     refine o_v hf hh (y_ld Tryz.sc_84 rfl) ?_; clear hf a; intro a hf
     refine o_v hf hh (yv_nilCheck rfl) ?_; clear hf a; intro a hf
     refine o_v hf hh (yv_fieldAddr Tryz.fo_89_0 rfl) ?_; clear hf a; intro a hf
     refine o_v hf hh (yv_fieldAddr Tryz.fo_45_0 rfl) ?_; clear hf a; intro a hf
     refine o_v hf hh (y_ld Tryz.sc_41 rfl) ?_; clear hf a; intro a hf
     refine o_v hf hh (yv_len Tryz.se_41 rfl) ?_; clear hf a; intro a hf
     refine o_v hf hh (yv_move rfl) ?_; clear hf a; intro a hf
     refine o_end ?_
     refine sy_block ?_
     refine sy_loopH (σ := Nat × List Cts × Array MapEntry × Nat) [11, 35, 36, 37, 38, 39, 40, 41, 42, 43, 44, 45] (fun s => [(35, .int .i64 (s.1 : Nat))]) (fun s => fun w' => s.1 ≤ d.terms.length ∧ SetV encC (.bool true) s.2.1 s.2.2.1 s.2.2.2 ∧ (∀ n, n ∈ s.2.1 ↔ inT d.terms.length x.2 s1 n ∨ inA x.2 s.1 y n) ∧ Hp w9 [l, D, B5, bm, B2] [(B10, .cells (ctC y) 101), (Br, o2), (B20, .map s.2.2.1 s.2.2.2), (l, ol), (D, .deferred (some [])), (B5, .cells #[.map (some bm)] 98), (bm, .map es c), (B2, .cells #[ptr Bc 0] 84)] w') (fun s => d.terms.length - s.1) ((0, T, es2, c2)) hf ?_ ?_ ?_
     · repeat' (first | exact True.intro | refine And.intro rfl ?_)
     · exact ⟨Nat.zero_le _, hT, fun n => by rw [hTm n]; exact ⟨.inl, fun h => h.elim id fun h => absurd h (inA_zero _ _ _)⟩, hh⟩
     ·rintro s a w ⟨hi, hT2, hT2m, hh⟩ hf
      obtain ⟨i, s⟩ := s; simp only at hi hT2 hT2m hh hf ⊢
      refine sy_sq ?_
      refine o_v hf hh (yv_bin rfl rfl rfl) ?_; clear hf a; intro a hf
      refine o_end ?_
      refine sy_seq ?_
      refine sy_cond hf rfl (fun hg12 => ?_) (fun hg12 => ?_)
      ·have hG12 := hg12; try simp only [gS] at hG12
       refine sy_skip ?_
       refine then_n ?_
       refine sy_seq ?_
       refine sy_block ?_
       refine sy_sq ?_
       refine o_v hf hh (yv_move rfl) ?_; clear hf a; intro a hf
       refine o_v hf hh (yv_assign rfl) ?_; clear hf a; intro a hf
       refine o_end ?_
       refine sy_sq ?_
       refine o_v hf hh (yv_move rfl) ?_; clear hf a; intro a hf
       refine o_v hf hh (yv_move rfl) ?_; clear hf a; intro a hf
       refine o_call hf Tryz.en_84 rfl rfl rfl (p84 x.2 i (by omega) (by omega) _) ?_; clear hf a; intro v a w hR hf
       obtain ⟨rfl, hx⟩ := hR; replace hh := hh.more hx; clear hx
       refine o_end ?_
       refine sy_cond hf rfl (fun hg14 => ?_) (fun hg14 => ?_)
       ·have hG14 := hg14; try simp only [gS] at hG14
        refine sy_ops ?_
        refine o_v hf hh (yv_move rfl) ?_; clear hf a; intro a hf
        refine o_v hf hh (y_lds Tryz.ag_101 rfl) ?_; clear hf a; intro a hf
        refine o_v hf hh (yv_move rfl) ?_; clear hf a; intro a hf
        refine o_call hf Tryz.en_85 rfl rfl rfl (p85 y i (by omega) (by have := hcy i; omega) _) ?_; clear hf a; intro v a w hR hf
        obtain ⟨rfl, hx⟩ := hR; replace hh := hh.more hx; clear hx
        refine ops_mapUpdateS (i := 2) (p := cinc y i) hf hh k97 mke94 rfl rfl rfl rfl hT2 (.inl rfl) fun es3 c3 w hT3 hh => ?_
        refine ops_end ?_
        refine blk_n ?_
        refine then_n ?_
        refine sy_ops ?_
        refine o_v hf hh (y_add rfl rfl) ?_; clear hf a; intro a hf
        refine o_v hf hh (yv_move rfl) ?_; clear hf a; intro a hf
        refine ops_end ?_
        refine then_n ?_
        first
          | exact ⟨(i + 1, s), ⟨⟨by simp only; omega, hT2, fun n => by rw [hT2m n, inA_no (by simp_all)], hh⟩, (hf.head (by repeat' (first | exact True.intro | refine And.intro rfl ?_)) (Keep.cons rfl (Keep.cons rfl (Keep.cons rfl (Keep.cons rfl (Keep.cons rfl (Keep.cons rfl (Keep.cons rfl (Keep.cons rfl (Keep.cons rfl (Keep.cons rfl (Keep.cons rfl (Keep.cons rfl (Keep.app rfl (Keep.rm rfl Keep.base)))))))))))))))⟩, by simp only; omega⟩
          | exact ⟨(i + 1, insS s.1 (cinc y i), es3, c3), ⟨⟨by simp only; omega, hT3, fun n => by simp only; rw [insS_mem, hT2m n, inA_put (by assumption), or_assoc], hh⟩, (hf.head (by repeat' (first | exact True.intro | refine And.intro rfl ?_)) (Keep.cons rfl (Keep.cons rfl (Keep.cons rfl (Keep.cons rfl (Keep.cons rfl (Keep.cons rfl (Keep.cons rfl (Keep.cons rfl (Keep.cons rfl (Keep.cons rfl (Keep.cons rfl (Keep.cons rfl (Keep.app rfl (Keep.rm rfl Keep.base)))))))))))))))⟩, by simp only; omega⟩
          | omega
       ·have hG14 := hg14; try simp only [gS] at hG14
        refine sy_skip ?_
        refine blk_n ?_
        refine then_n ?_
        refine sy_ops ?_
        refine o_v hf hh (y_add rfl rfl) ?_; clear hf a; intro a hf
        refine o_v hf hh (yv_move rfl) ?_; clear hf a; intro a hf
        refine ops_end ?_
        refine then_n ?_
        first
          | exact ⟨(i + 1, s), ⟨⟨by simp only; omega, hT2, fun n => by rw [hT2m n, inA_no (by simp_all)], hh⟩, (hf.head (by repeat' (first | exact True.intro | refine And.intro rfl ?_)) (Keep.cons rfl (Keep.cons rfl (Keep.cons rfl (Keep.cons rfl (Keep.cons rfl (Keep.cons rfl (Keep.cons rfl (Keep.cons rfl (Keep.app rfl (Keep.rm rfl Keep.base)))))))))))⟩, by simp only; omega⟩
          | exact ⟨(i + 1, insS s.1 (cinc y i), es3, c3), ⟨⟨by simp only; omega, hT3, fun n => by simp only; rw [insS_mem, hT2m n, inA_put (by assumption), or_assoc], hh⟩, (hf.head (by repeat' (first | exact True.intro | refine And.intro rfl ?_)) (Keep.cons rfl (Keep.cons rfl (Keep.cons rfl (Keep.cons rfl (Keep.cons rfl (Keep.cons rfl (Keep.cons rfl (Keep.cons rfl (Keep.app rfl (Keep.rm rfl Keep.base)))))))))))⟩, by simp only; omega⟩
          | omega
      ·have hG12 := hg12; try simp only [gS] at hG12
       refine sy_exit ?_
       refine then_e ?_
       refine then_e ?_
       refine blk_e ?_
       refine blk_n ?_
       refine then_n ?_
       exact ⟨(s1 ++ [y], s.1, s.2.1, s.2.2, o2), ⟨⟨hRg3, hT2, fun n => by
         show n ∈ s.1 ↔ _
         rw [hT2m n, inT_snoc, show i = d.terms.length by omega]; rfl, fun z hz => by
         rcases List.mem_append.1 hz with hz | hz
         · exact hsub z hz
         · rw [List.mem_singleton.1 hz]; exact hyS, hh.pick [1, 2, 3, 4, 5, 6, 7]⟩, (hf.head (by repeat' (first | exact True.intro | refine And.intro rfl ?_)) (Keep.cons rfl (Keep.app rfl (Keep.rm rfl (Keep.cons rfl (Keep.cons rfl (Keep.cons rfl (Keep.cons rfl (Keep.cons rfl (Keep.cons rfl (Keep.cons rfl (Keep.cons rfl (Keep.cons rfl (Keep.cons rfl (Keep.cons rfl (Keep.cons rfl (Keep.app rfl (Keep.rm rfl Keep.base))))))))))))))))))⟩, leftS_lt hyS hyd⟩
    ·have hG8 := hg8; try simp only [gS] at hG8
     refine sy_exit ?_
     refine then_e ?_
     refine then_e ?_
     refine blk_e ?_
     refine then_n ?_
     refine sy_ops ?_
     refine o_v hf hh (yv_move rfl) ?_; clear hf a; intro a hf
     refine o_store hf hh Tryz.sz_98 fun w hh => ?_
     refine ops_end ?_
     refine blk_n ?_
     rw [hol] at hh
     exact ⟨_, ⟨B20, _, _, _, hT, fun n => by rw [whoS_at hxk, hTm n, inT_all hSm hsub (hb0 (by simp_all))], rfl⟩, hh.pick [2, 3, 4, 1, 6]⟩
  ·rintro D H N2 a w ⟨bm, es, c, S, hS, hSm, rfl⟩ hOw hf hh
   refine blk_n ?_
   refine then_n ?_
   refine sy_sq ?_
   refine o_v hf hh (y_ld Tryz.sc_98 rfl) ?_; clear hf a; intro a hf
   refine o_v hf hh (yv_assign rfl) ?_; clear hf a; intro a hf
   refine o_end ?_
   refine sy_ret ?_
   exact ret_m (Ds := [D]) hf (hh.pick [0, 2]) fun w' hh => ⟨[_], ⟨rfl, True.intro⟩, bm, es, c, S, rfl, hS, fun n => by rw [hSm n, List.length_map, show (soldL d kd).length = ((soldL d kd).map Prod.snd).length by rw [List.length_map], List.take_length]; rfl, hh⟩
  ·rintro k c D H N2 a w hX hOw hf hh
   exact hX.elim
  · rintro N v v' b ⟨h, h'⟩ hb e; exact ⟨h.step (e.mono (by simpa using hb)) (.refl _ _), h'.step (e.mono (by simpa using hb)) (.refl _ _)⟩
end Go.Proofs.YtccpgpnekoncoaaGreat

