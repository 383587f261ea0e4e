/- Lemmas, in order: The truth with the least, card by card. Who sold the cards, if agents have least. Lists that are written out, in memory; the values of the examples. The document's examples. RoyalNames; the document's shares and terms. What the law of pence asks. Pence as the document shares them, in memory. The document's pence and commissions. What the document's functions on royalties compute. The document's functions on royalties. Lists of agents in memory; the document's claims. The document's claims. Sums of what is owed; royalties that are not great.. -/
import Derived.Test.YtkfkifkdncdhoaaQ13
namespace Go.RoyM
open Go Go.Sy
def uvs (l : List Nat) : List Value := l.map fun x => .int .u64 ((x : Nat) : Int)
def nvs (l : List Nat) : List Value := l.map fun x => .int .i64 ((x : Nat) : Int)
theorem uvs_snoc {l : List Nat} {i x : Nat} (h : l[i]? = some x) : uvs (l.take (i + 1)) = uvs (l.take i) ++ [.int .u64 ((x : Nat) : Int)] := by
  unfold uvs
  rw [List.take_add_one, h, List.map_append]; rfl
theorem nvs_app (l : List Nat) (x : Nat) : nvs (l ++ [x]) = nvs l ++ [.int .i64 ((x : Nat) : Int)] := by unfold nvs; rw [List.map_append]; rfl
theorem own_uat {e : Nat} {v : Value} {m : Nat} {l : List Nat} {X : List (Nat × Obj)} {w : World} (h : OwnSl e 1 v m (uvs l) X) (hX : ∀ q ∈ X, w.heap[q.1]? = some q.2) : ∃ oa cap, v = .slice oa m cap ∧ m = l.length ∧ UAt w oa l ∧ ∀ B off, oa = some ⟨B, off, none⟩ → B ∈ X.map Prod.fst := by
  have hm : m = l.length := by have := h.1; unfold uvs at this; rw [List.length_map, Nat.mul_one] at this; exact this.symm
  rcases h.2 with ⟨h1, h2, _⟩ | ⟨B, cap, cur, h1, h2, _, _, h5, h6⟩
  · refine ⟨none, 0, by rw [h1, h2], hm, fun i x hi => ?_, fun B off h => by cases h⟩
    have := len_of hi
    omega
  · refine ⟨_, _, h1, hm, fun i x hi => ⟨B, 0, cur, e, (0, 0), rfl, hX (B, .cells cur e (0, 0)) (by rw [h2]; exact .head _), ?_⟩, fun B' off h => by cases h; rw [h2]; exact .head _⟩
    have hl := len_of hi
    have h7 : (uvs l)[i]? = some (.int .u64 ((x : Nat) : Int)) := by unfold uvs; rw [List.getElem?_map, hi]; rfl
    rw [← h6, Nat.mul_one, List.getElem?_take, if_pos (by omega)] at h7
    rw [Int.toNat_natCast, Nat.zero_add, Nat.mul_one, ← Array.getElem?_toList]
    exact h7
theorem UAt.extN {w w' : World} {M : List Nat} {sa : Option Addr} {l : List Nat} (h : UAt w sa l) (e : Ext M w w') (hs : ∀ B off, sa = some ⟨B, off, none⟩ → B ∉ M) : UAt w' sa l := fun i s hi =>
  let ⟨blk, off, c, T, fr, h1, h2, h3⟩ := h i s hi
  ⟨blk, off, c, T, fr, h1, e.getM h2 (hs _ _ h1), h3⟩
/-- An agent who claims a card, with whom the least is reached. -/
def goodA (d : RoyD) (x : Int) (ws : List Nat) (i w : Nat) (n : Cts) (g : Nat) : Prop := w.testBit g = true ∧ lesK d x ws (i + 1, cinc n g) ≤ lesK d x ws (i, n)
theorem good_ex {d : RoyD} {x : Int} {ws : List Nat} {i w : Nat} {n : Cts} (h : ws[i]? = some w) (hne : clrL d.terms.length w ≠ []) : ∃ g, g < d.terms.length ∧ goodA d x ws i w n g := by
  have h1 := lesL_all (d := d) (x := x) h n
  have hn : lesL d x w (ws.drop (i + 1)) n d.terms.length ≠ [] := by
    intro e
    exact hne (List.map_eq_nil_iff.1 e)
  have h2 := (loL_spec hn).1
  rw [h1] at h2
  obtain ⟨g, hg, e⟩ := List.mem_map.1 h2
  rw [List.mem_filter, List.mem_range] at hg
  exact ⟨g, hg.1, hg.2, Int.le_of_eq e⟩
theorem good_is {d : RoyD} {x : Int} {ws : List Nat} {i w : Nat} {n : Cts} (h : ws[i]? = some w) {g : Nat} (hg : g < d.terms.length) (h1 : goodA d x ws i w n g) (h2 : ∀ g', g' < g → ¬ goodA d x ws i w n g') : pickA d x w (ws.drop (i + 1)) n = g := by
  have hi := len_of h
  have hd : ws.drop i = w :: ws.drop (i + 1) := by rw [List.drop_eq_getElem_cons hi, (List.getElem?_eq_some_iff.1 h).2]
  unfold pickA
  have key : ((List.range d.terms.length).find? fun g => w.testBit g && decide (leastV d x (ws.drop (i + 1)) (cinc n g) ≤ leastV d x (w :: ws.drop (i + 1)) n)) = some g := by
    rw [List.find?_eq_some_iff_getElem]
    unfold goodA lesK at h1
    rw [hd] at h1
    refine ⟨by simp only [h1.1, Bool.true_and, decide_eq_true_eq]; exact h1.2, g, by simpa using hg, by simp, fun j hj => ?_⟩
    have h3 := h2 j hj
    unfold goodA lesK at h3
    rw [hd] at h3
    simp only [List.getElem_range, Bool.not_eq_true', Bool.and_eq_false_iff, decide_eq_false_iff_not]
    by_cases hb : w.testBit j = true
    · exact .inr fun h4 => h3 ⟨hb, h4⟩
    · exact .inl (by simpa using hb)
  rw [key]; rfl
/-- How far the truth is told. -/
def ToldL (d : RoyD) (x : Int) (ws : List Nat) (i : Nat) (n : Cts) (pre : List Nat) : Prop := pre.length = i ∧ leastL d x ws (0, 0, 0, 0) = pre ++ leastL d x (ws.drop i) n
theorem ToldL.zero (d : RoyD) (x : Int) (ws : List Nat) : ToldL d x ws 0 (0, 0, 0, 0) [] := ⟨rfl, rfl⟩
theorem ToldL.next {d : RoyD} {x : Int} {ws : List Nat} {i : Nat} {n : Cts} {pre : List Nat} (h : ToldL d x ws i n pre) {w g : Nat} (hw : ws[i]? = some w) (hg : pickA d x w (ws.drop (i + 1)) n = g) : ToldL d x ws (i + 1) (cinc n g) (pre ++ [g]) := by
  have hi := len_of hw
  refine ⟨by rw [List.length_append, h.1]; rfl, ?_⟩
  rw [h.2, List.drop_eq_getElem_cons hi, (List.getElem?_eq_some_iff.1 hw).2, leastL, hg, List.append_assoc]; rfl
theorem ToldL.done {d : RoyD} {x : Int} {ws : List Nat} {i : Nat} {n : Cts} {pre : List Nat} (h : ToldL d x ws i n pre) (hi : i = ws.length) : leastL d x ws (0, 0, 0, 0) = pre := by
  rw [h.2, hi, List.drop_length]
  show pre ++ [] = pre
  exact List.append_nil _
theorem soldW_at {d : RoyD} {k : Int} {i : Nat} {y : Nat × Nat} (h : (soldL d k)[i]? = some y) : ((soldL d k).map Prod.snd)[i]? = some y.2 := by rw [List.getElem?_map, h]; rfl
theorem soldW_lt {d : RoyD} {k : Int} : ∀ w ∈ (soldL d k).map Prod.snd, w < 16 := fun w hw => by
  obtain ⟨i, hi⟩ := List.mem_iff_getElem?.1 hw
  rw [List.getElem?_map] at hi
  cases h : (soldL d k)[i]? with
  | none => rw [h] at hi; cases hi
  | some y => rw [h] at hi; cases hi; exact who_lt h
end Go.RoyM
namespace Go.Proofs.Ytkfkifkdncdhoaa
open Go Go.Sy Go.RoyM
set_option maxRecDepth 100000 in
set_option maxHeartbeats 4000000 in
theorem p30 (d : RoyD) (p : Pl) (g : Int) (u : World) (hRR : RoyAt u d p) : Calls Try.prog 30 #[.agg (royC d p), .int .i64 g] u (Ret fun v w' => ∃ sv X, v = .tuple #[sv, .int .i64 (allE d g)] ∧ OwnSl 3 1 sv (leaV d g).length (nvs (leaV d g)) X ∧ Hp u [] X w') := by
  refine calls_ofM Try.func30 rfl rfl (fun a hf => ?_)
  have hh := Hp.init u []
  refine sy_sq ?_
  refine o_box hf hh ?_; clear hf hh a; intro B2 a w hf hh
  refine o_box hf hh ?_; clear hf hh a; intro B3 a w hf hh
  refine o_v hf hh (yv_assign rfl) ?_; clear hf a; intro a hf
  refine o_alloc hf hh Try.ze_26 ?_; clear hf hh a; intro B5 a w hf hh
  refine o_end ?_
  refine sy_sq ?_
  refine o_v hf hh (yv_makeFunc rfl rfl) ?_; clear hf a; intro a hf
  refine o_defer hf ?_; clear hf a; intro a hf
  refine o_end ?_
  refine sy_sq ?_
  refine o_v hf hh (y_lds Try.ag_37 rfl) ?_; clear hf a; intro a hf
  refine o_v hf hh (yv_makeFunc rfl rfl) ?_; clear hf a; intro a hf
  refine o_callX hf Try.en_57 rfl rfl rfl (p57 d _ _ (hRR.ext hh.ext) 81 _ (isKd d g) Try.en_81 (fun hok Bc w2 e hc => p81 d _ Bc w2 hc B3 g (e.get (hh.at (i := 1) rfl)) hRR.n2)) ?_ ?_
  ·clear hf a; intro v a w hR hf
   obtain ⟨he, Bc, rfl, hx⟩ := hR; replace hh := hh.join hx; clear hx
   obtain ⟨hok, hask⟩ := openE_zero.1 he
   have hO := royB_iff.1 hok
   have hnt := hO.nt
   obtain ⟨hg0, hg1⟩ := inI_bd hask
   obtain ⟨q, rfl⟩ : ∃ q : Nat, g = q := ⟨g.toNat, by omega⟩
   obtain ⟨x, hx⟩ := ex_of (l := d.prices) (i := q) (by omega)
   have ep : priceN d q = x := getD_at hx
   have e0 : allE d q = 0 := he
   refine o_alloc hf hh Try.ze_76 ?_; clear hf hh a; intro B6 a w hf hh
   refine o_store hf hh Try.sz_76 fun w hh => ?_
   refine o_end ?_
   refine sy_sq ?_
   refine o_alloc hf hh Try.ze_101 ?_; clear hf hh a; intro B7 a w hf hh
   refine o_end ?_
   refine sy_seq ?_
   refine sy_sq ?_
   refine o_v hf hh (y_ld Try.sc_76 rfl) ?_; clear hf a; intro a hf
   refine o_v hf hh (y_ld Try.sc_3 rfl) ?_; clear hf a; intro a hf
   refine o_call hf Try.en_82 rfl rfl rfl (p82 Bc q _) ?_; clear hf a; intro v a w hR hf
   obtain ⟨B1i, B2i, rfl, hx⟩ := hR; replace hh := hh.join hx; clear hx
   have hq : Hp u [] [(B2i, .cells #[.int .i64 (q : Nat)] 3), (B1i, .cells #[ptr Bc 0] 76), (B7, .cells #[.slice none 0 0] 101), (B6, .cells #[ptr Bc 0] 76), (Bc, .cells (royC d p) 80), (B5, .cells #[.int .i64 0] 26), (B3, .cells #[.int .i64 (q : Nat)] 3), (B2, .cells (royC d p) 37)] w := hh
   replace hh := hq.pick [2, 3, 5, 6]
   refine o_end ?_
   refine sy_block ?_
   refine sy_rangeH (I := fun k H => ∃ v X, OwnSl 81 1 v k (uvs (((soldL d q).map Prod.snd).take k)) X ∧ H = [(B7, .cells #[v] 101), (B6, .cells #[ptr Bc 0] 76), (B5, .cells #[.int .i64 0] 26), (B3, .cells #[.int .i64 (q : Nat)] 3)] ++ X) (X := fun _ _ _ => False) hf hh Try.en_100 rfl (it100 d p q Bc B1i B2i hO hRR.n4) (fun x hx => by cases hx) rfl (by intro x hx; obtain ⟨y, _, rfl⟩ := List.mem_map.1 hx; rfl) ?_ ?_ ?_ ?_ ?_ ?_
   · exact ⟨_, [], OwnSl.nil _ _, rfl⟩
   · intro N1 w1 e1 g1
     have h1 := (Hp.held (X := [(B7, .cells #[.slice none 0 0] 101), (B6, .cells #[ptr Bc 0] 76), (B5, .cells #[.int .i64 0] 26), (B3, .cells #[.int .i64 (q : Nat)] 3)]) (is := [2, 3, 5, 6]) hq rfl [1, 0, 4])
     exact ⟨h1.step (e1.mono (by simp)) g1, (TOff.new hRR.rp hh.ext hh.fresh).step (e1.mono (by simp)) g1⟩
   ·rintro k x fn D l H w a tm hx ⟨v, X, hO3, rfl⟩ hv hh hf
    obtain ⟨y, hyk, rfl⟩ := sV_at hx
    have hsl := sold_len d q
    have hkl := len_of hyk
    refine sy_ops ?_
    refine o_v hf hh (yv_assign rfl) ?_; clear hf a; intro a hf
    refine ops_end ?_
    refine then_n (Go.Sy.begun (i := 0) hh rfl fun w hh => ?_)
    refine sy_block ?_
    refine sy_ops ?_
    refine o_v hf hh (y_ld Try.sc_101 rfl) ?_; clear hf a; intro a hf
    refine o_v hf hh (yv_move rfl) ?_; clear hf a; intro a hf
    refine ops_buildSl hf hh Try.bl_101_1 rfl rfl (.inl rfl) rfl ?_; clear hf hh; clear a; intro B25 a w hf hh
    refine ops_append (e := 81) (size := 1) (xs := uvs (((soldL d q).map Prod.snd).take k)) (X := X) (Z := _) (m := k) (q := 1) hf (hh.perm (.cons _ (List.perm_append_comm (l₁ := [_, _, _, _, _, _]) (l₂ := X)))) Try.eb_101 rfl rfl hO3 rfl rfl rfl (by simp only [maxLen]; omega) (by omega) (.inl rfl) rfl ?_; clear hf hh a; intro v2 X2 a w hO2 hf hh
    replace hh := hh.perm List.perm_append_comm
    obtain ⟨oa2, cpz, rfl⟩ := own_val hO2
    refine o_store hf hh Try.sz_101 fun w hh => ?_
    refine ops_end ?_
    refine blk_n ?_
    exact ⟨_, ⟨_, X2, by rw [uvs_snoc (soldW_at hyk)]; exact hO2, rfl⟩, hh⟩
   ·rintro D H N2 a w ⟨v, X, hO3, rfl⟩ hOw hf hh
    obtain ⟨hHeld, hTO⟩ := hOw
    have hBc := hHeld.at 2 rfl
    have hBcn : Bc ∉ [D, B7, B6, B5, B3] := fun h => by
      rcases List.mem_cons.1 h with h | h
      · have h8 := hh.at (i := 0) rfl
        rw [← h, hBc] at h8; cases h8
      · exact ((Hp.held (X := [(B7, .cells #[.slice none 0 0] 101), (B6, .cells #[ptr Bc 0] 76), (B5, .cells #[.int .i64 0] 26), (B3, .cells #[.int .i64 (q : Nat)] 3)]) (is := [2, 3, 5, 6]) hq rfl [4])).off 0 rfl h
    obtain ⟨ws, hws⟩ : ∃ ws, ws = (soldL d q).map Prod.snd := ⟨_, rfl⟩
    have hlen : ((soldL d q).map sV).length = ws.length := by rw [hws, List.length_map, List.length_map]
    rw [hlen, ← hws, List.take_length] at hO3
    have hwl : ws.length ≤ 12 := by rw [hws, List.length_map]; exact sold_len d q
    have hw16 : ∀ w ∈ ws, w < 16 := by rw [hws]; exact soldW_lt
    have hS1 : Some1 d.terms.length ws := by rw [hws]; exact sold_some hO q
    obtain ⟨sa, cap, rfl, _, hU, hUb⟩ := own_uat hO3 (w := w) (fun y hy => hh.get y (by simp [hy]))
    have hUn : ∀ B off, sa = some ⟨B, off, none⟩ → B ∉ [D, B7, B6, B5, B3] := fun B off h h2 => by
      have hnd := hh.nodup
      have h8 : Hp u [] ([(D, .deferred (some [])), (B7, .cells #[.slice sa ws.length cap] 101), (B6, .cells #[ptr Bc 0] 76), (B5, .cells #[.int .i64 0] 26), (B3, .cells #[.int .i64 (q : Nat)] 3)] ++ X) w := hh
      have h9 := h8.nodup
      rw [List.map_append, List.nodup_append] at h9
      exact h9.2.2 B h2 B (hUb B off h) rfl
    have hh0 : Hp u [] [(D, .deferred (some [])), (B7, .cells #[.slice sa ws.length cap] 101), (B6, .cells #[ptr Bc 0] 76), (B5, .cells #[.int .i64 0] 26), (B3, .cells #[.int .i64 (q : Nat)] 3)] w := hh.less (.cons_cons _ (.cons_cons _ (.cons_cons _ (.cons_cons _ (.cons_cons _ (List.nil_sublist _))))))
    have hRw := hRR.ext hh0.ext
    obtain ⟨w9, rfl⟩ : ∃ z, z = w := ⟨_, rfl⟩
    replace hh : Hp w9 [D, B7, B6, B5, B3] _ w9 := hh0.own
    refine blk_n ?_
    refine then_n ?_
    refine sy_sq ?_
    refine ops_makeMap hf hh (.inl rfl) rfl ?_; clear hf hh; clear a; intro B27 a w hf hh
    refine o_alloc hf hh Try.ze_105 ?_; clear hf hh a; intro B10 a w hf hh
    refine o_store hf hh Try.sz_105 fun w hh => ?_
    refine o_end ?_
    refine sy_sq ?_
    refine o_alloc hf hh Try.ze_106 ?_; clear hf hh a; intro B11 a w hf hh
    refine o_end ?_
    refine sy_sq ?_
    refine o_v hf hh (yv_makeFunc rfl rfl) ?_; clear hf a; intro a hf
    refine o_store hf hh Try.sz_106 fun w hh => ?_
    refine o_end ?_
    refine sy_seq ?_
    refine sy_sq ?_
    refine o_v hf hh (yv_cast (yv_buildS Try.bs_108 rfl rfl) (show _ = encS (0, (0, 0, 0, 0)) from rfl)) ?_; clear hf a; intro a hf
    refine o_alloc hf hh Try.ze_108 ?_; clear hf hh a; intro B12 a w hf hh
    refine o_store hf hh Try.sz_108 fun w hh => ?_
    refine o_end ?_
    refine sy_block ?_
    refine sy_loopH (σ := Nat × Cts × Nat × List Nat × Value × List (Nat × Obj) × Array MapEntry × Nat) [4, 12, 13, 30, 31, 32, 33, 34, 35, 36, 37, 38, 39, 40, 41, 42, 43, 44, 45, 46, 47, 48, 49, 50, 51, 52, 53, 54, 55, 56, 57, 58, 59, 60, 61, 62, 63, 64, 65, 66, 67, 68, 69, 70, 71, 72, 73, 74] (fun s => [(4, s.2.2.2.2.1), (12, ptr s.2.2.1 0)]) (fun s => fun w' => s.1 ≤ ws.length ∧ cardsN s.2.1 ≤ s.1 ∧ ToldL d x ws s.1 s.2.1 s.2.2.2.1 ∧ OwnSl 3 1 s.2.2.2.2.1 s.1 (nvs s.2.2.2.1) s.2.2.2.2.2.1 ∧ MemoK encS .i64 (lesK d x ws) s.2.2.2.2.2.2.1 ∧ Hp w9 [D, B7, B6, B5, B3] ([(s.2.2.1, .cells (stC s.1 s.2.1) 108), (B27, .map s.2.2.2.2.2.2.1 s.2.2.2.2.2.2.2), (B11, .cells #[.func (.func 83) #[] #[ptr B7 0, ptr B6 0, ptr B3 0, ptr B10 0, ptr B11 0]] 106), (B10, .cells #[.map (some B27)] 105), (B7, .cells #[.slice sa ws.length cap] 101), (B6, .cells #[ptr Bc 0] 76), (B5, .cells #[.int .i64 0] 26), (B3, .cells #[.int .i64 (q : Nat)] 3), (D, .deferred (some []))] ++ s.2.2.2.2.2.1) w') (fun s => ws.length - s.1) ((0, (0, 0, 0, 0), B12, [], .slice none 0 0, [], #[], 0)) hf ?_ ?_ ?_
    · repeat' (first | exact True.intro | refine And.intro rfl ?_)
    · exact ⟨Nat.zero_le _, Nat.le_refl _, .zero d x ws, OwnSl.nil _ _, MemoK.nil _ _ _, hh.pick [0, 3, 1, 2, 5, 6, 7, 8, 4]⟩
    ·rintro s a w ⟨hi, hcn, hTl, hO4, hM, hh⟩ hf
     obtain ⟨i, n, b12, pre, v4, X4, es, cm⟩ := s; simp only at hi hcn hTl hO4 hM hh hf ⊢
     refine sy_seq ?_
     refine sy_seq ?_
     
     refine sy_ops ?_
     refine o_v hf hh (yv_fieldAddr Try.fo_108_0 rfl) ?_; clear hf a; intro a hf
     refine o_v hf hh (y_ld Try.sc_3 rfl) ?_; clear hf a; intro a hf
     refine o_v hf hh (y_ld Try.sc_101 rfl) ?_; clear hf a; intro a hf
     refine o_v hf hh (yv_len Try.se_101 rfl) ?_; clear hf a; intro a hf
     refine o_v hf hh (yv_bin rfl rfl rfl) ?_; clear hf a; intro a hf
     refine o_end ?_
     refine sy_cond hf rfl (fun hg8 => ?_) (fun hg8 => ?_)
     ·have hG8 := hg8; try simp only [gS] at hG8
      refine sy_skip ?_
      refine then_n ?_
      refine sy_seq ?_
      refine sy_block ?_
      refine sy_seq ?_
      obtain ⟨wn, hwn⟩ := ex_of (l := ws) (i := i) (by omega)
      have hw := hw16 wn (List.mem_of_getElem? hwn)
      obtain ⟨blk, off, cc, T, fr, e9, hbw, hcw⟩ := hU i wn hwn
      have hbwn := hUn _ _ e9
      have hgex := good_ex (d := d) (x := x) (n := n) hwn (hS1 wn (List.mem_of_getElem? hwn))
      have hcy := cget_le n
      subst e9
      have hpre : (0 : Nat) < d.terms.length := by obtain ⟨g, hg, _⟩ := hgex; omega
      replace hh : Hp w9 [D, B7, B6, B5, B3] ([(b12, .cells (stC i n) 108), (B27, .map es cm), (B11, .cells #[.func (.func 83) #[] #[ptr B7 0, ptr B6 0, ptr B3 0, ptr B10 0, ptr B11 0]] 106), (B10, .cells #[.map (some B27)] 105), (B7, .cells #[.slice (some ⟨blk, off, none⟩) ws.length cap] 101), (B6, .cells #[ptr Bc 0] 76), (B5, .cells #[.int .i64 0] 26), (B3, .cells #[.int .i64 (q : Nat)] 3), (D, .deferred (some []))] ++ X4) w := hh
      refine sy_ops ?_
      refine o_v hf hh (yv_assign rfl) ?_; clear hf a; intro a hf
      refine o_end ?_
      refine sy_seq ?_
      refine sy_block ?_
      refine sy_loopH (σ := Nat × Array MapEntry × Nat) [13, 39, 40, 41, 42, 43, 44, 45, 46, 47, 48, 49, 50, 51, 52, 53, 54, 55, 56, 57, 58, 59, 60, 61, 62, 63, 64] (fun s => [(13, .int .i64 (s.1 : Nat))]) (fun s => fun w' => s.1 < d.terms.length ∧ (∀ g', g' < s.1 → ¬ goodA d x ws i wn n g') ∧ MemoK encS .i64 (lesK d x ws) s.2.1 ∧ Hp w9 [D, B7, B6, B5, B3] ([(b12, .cells (stC i n) 108), (B27, .map s.2.1 s.2.2), (B11, .cells #[.func (.func 83) #[] #[ptr B7 0, ptr B6 0, ptr B3 0, ptr B10 0, ptr B11 0]] 106), (B10, .cells #[.map (some B27)] 105), (B7, .cells #[.slice (some ⟨blk, off, none⟩) ws.length cap] 101), (B6, .cells #[ptr Bc 0] 76), (B5, .cells #[.int .i64 0] 26), (B3, .cells #[.int .i64 (q : Nat)] 3), (D, .deferred (some []))] ++ X4) w') (fun s => d.terms.length - s.1) ((0, es, cm)) hf ?_ ?_ ?_
      · repeat' (first | exact True.intro | refine And.intro rfl ?_)
      · exact ⟨hpre, fun g h => absurd h (by omega), hM, hh⟩
      ·rintro s a w ⟨ha, hno, hM2, hh⟩ hf
       obtain ⟨a9, es2, cm2⟩ := s; simp only at ha hno hM2 hh hf ⊢
       have mkLe : ∀ {es cm w'}, Hp w9 [D, B7, B6, B5, B3] ([(b12, .cells (stC i n) 108), (B27, .map es cm), (B11, .cells #[.func (.func 83) #[] #[ptr B7 0, ptr B6 0, ptr B3 0, ptr B10 0, ptr B11 0]] 106), (B10, .cells #[.map (some B27)] 105), (B7, .cells #[.slice (some ⟨blk, off, none⟩) ws.length cap] 101), (B6, .cells #[ptr Bc 0] 76), (B5, .cells #[.int .i64 0] 26), (B3, .cells #[.int .i64 (q : Nat)] 3), (D, .deferred (some []))] ++ X4) w' → LeC w' d p q ws (some ⟨blk, off, none⟩) cap Bc B7 B6 B3 B10 B11 B27 83 := fun h => ⟨h.oldM hBc hBcn, h.at (i := 4) rfl, h.at (i := 5) rfl, h.at (i := 7) rfl, h.at (i := 3) rfl, h.at (i := 2) rfl, hU.extN h.ext hUn, hRR.ext (hh0.comp h).ext⟩
       refine sy_seq ?_
       refine sy_seq ?_
       have clsP : ∀ {es cm w'}, Hp w9 [D, B7, B6, B5, B3] ([(b12, .cells (stC i n) 108), (B27, .map es cm), (B11, .cells #[.func (.func 83) #[] #[ptr B7 0, ptr B6 0, ptr B3 0, ptr B10 0, ptr B11 0]] 106), (B10, .cells #[.map (some B27)] 105), (B7, .cells #[.slice (some ⟨blk, off, none⟩) ws.length cap] 101), (B6, .cells #[ptr Bc 0] 76), (B5, .cells #[.int .i64 0] 26), (B3, .cells #[.int .i64 (q : Nat)] 3), (D, .deferred (some []))] ++ X4) w' → Hp w9 [D, B7, B6, B5, B3] [(b12, .cells (stC i n) 108), (B11, .cells #[.func (.func 83) #[] #[ptr B7 0, ptr B6 0, ptr B3 0, ptr B10 0, ptr B11 0]] 106), (B10, .cells #[.map (some B27)] 105), (B7, .cells #[.slice (some ⟨blk, off, none⟩) ws.length cap] 101), (B6, .cells #[ptr Bc 0] 76), (B5, .cells #[.int .i64 0] 26), (B3, .cells #[.int .i64 (q : Nat)] 3), (D, .deferred (some []))] w' := fun h => (h.less (List.sublist_append_left _ _)).less (.cons_cons _ (.cons _ (.refl _)))
       refine sy_treeC (.q 0 0 (.p 1 (.q 0 2 (.p 3 (.q 0 4 (.p 5 (.e1 6 (.p 7 (.p 8 (.q 0 9 (.p 10 (.q 0 11 (.p 12 (.p 13 (.q 0 14 (.p 15 (.q 0 19 (.q 0 20 (.e1 16 (.p 17 (.e1 18 (.e1 21 (.p 22 (.p 23 (.fin))))))))))))))))))))))))) [[]] [(Hp w9 [D, B7, B6, B5, B3] [(b12, .cells (stC i n) 108), (B11, .cells #[.func (.func 83) #[] #[ptr B7 0, ptr B6 0, ptr B3 0, ptr B10 0, ptr B11 0]] 106), (B10, .cells #[.map (some B27)] 105), (B7, .cells #[.slice (some ⟨blk, off, none⟩) ws.length cap] 101), (B6, .cells #[ptr Bc 0] 76), (B5, .cells #[.int .i64 0] 26), (B3, .cells #[.int .i64 (q : Nat)] 3), (D, .deferred (some []))], [])] Try.follows (by kernel_rfl) rfl hh (fun w hh => ?_)
       refine mc_q rfl rfl (clsP hh) hf (y_ld Try.sc_101 rfl) (.inl rfl) rfl rfl ?_; clear hf a; intro a hf
       refine mc_p rfl   hf (yv_fieldAddr Try.fo_108_0 rfl) (.inl rfl) rfl rfl ?_; clear hf a; intro a hf
       refine mc_q rfl rfl (clsP hh) hf (y_ld Try.sc_3 rfl) (.inl rfl) rfl rfl ?_; clear hf a; intro a hf
       refine mc_p rfl   hf (y_ix Try.se_101 rfl rfl) (.inl rfl) rfl rfl ?_; clear hf a; intro a hf
       refine mc_q rfl rfl (clsP hh) hf (y_ld Try.sc_81 rfl) (.inl rfl) rfl rfl ?_; clear hf a; intro a hf
       refine mc_p rfl   hf (yv_move rfl) (.inl rfl) rfl rfl ?_; clear hf a; intro a hf
       refine mc_e rfl fun Q1 => ?_
       refine o_call hf Try.en_84 rfl rfl rfl (p84 wn a9 (by omega) (by omega) _) ?_; clear hf a; intro v a w hR hf
       obtain ⟨rfl, hx⟩ := hR; replace hh := hh.more hx; clear hx
       refine ops_end ?_
       refine then_n ⟨⟨fun _ _ => (clsP hh), trivial⟩, ?_⟩
       refine mc_p rfl   hf (yv_not rfl) (.inl rfl) rfl rfl ?_; clear hf a; intro a hf
       refine mc_p rfl   hf (yv_move rfl) (.inl rfl) rfl rfl ?_; clear hf a; intro a hf
       refine guard_any hf (t := 47) rfl (fun hg10 => ?_) (fun hg10 => ?_)
       ·have hG10 := hg10; try simp only [gS] at hG10
        refine mc_offq rfl rfl (clsP hh) hf (goff rfl rfl rfl (by first | assumption | rfl | (simp; done) | (simp; omega))) rfl rfl ?_; clear hf a; intro a hf
        refine mc_off rfl hf (goff rfl rfl rfl (by first | assumption | rfl | (simp; done) | (simp; omega))) rfl rfl ?_; clear hf a; intro a hf
        refine mc_offq rfl rfl (clsP hh) hf (goff rfl rfl rfl (by first | assumption | rfl | (simp; done) | (simp; omega))) rfl rfl ?_; clear hf a; intro a hf
        refine mc_off rfl hf (goff rfl rfl rfl (by first | assumption | rfl | (simp; done) | (simp; omega))) rfl rfl ?_; clear hf a; intro a hf
        refine mc_off rfl hf (goff rfl rfl rfl (by first | assumption | rfl | (simp; done) | (simp; omega))) rfl rfl ?_; clear hf a; intro a hf
        refine mc_offq rfl rfl (clsP hh) hf (goff rfl rfl rfl (by first | assumption | rfl | (simp; done) | (simp; omega))) rfl rfl ?_; clear hf a; intro a hf
        refine mc_off rfl hf (goff rfl rfl rfl (by first | assumption | rfl | (simp; done) | (simp; omega))) rfl rfl ?_; clear hf a; intro a hf
        refine mc_offq rfl rfl (clsP hh) hf (goff rfl rfl rfl (by first | assumption | rfl | (simp; done) | (simp; omega))) rfl rfl ?_; clear hf a; intro a hf
        refine mc_offq rfl rfl (clsP hh) hf (goff rfl rfl rfl (by first | assumption | rfl | (simp; done) | (simp; omega))) rfl rfl ?_; clear hf a; intro a hf
        refine mc_e rfl fun Q1 => ?_
        refine o_off hf ?_; clear hf a; intro a hf
        refine ops_end ?_
        refine then_n ⟨⟨fun _ _ => (clsP hh), trivial⟩, ?_⟩
        refine mc_off rfl hf (goff rfl rfl rfl (by first | assumption | rfl | (simp; done) | (simp; omega))) rfl rfl ?_; clear hf a; intro a hf
        refine mc_e rfl fun Q1 => ?_
        refine o_off hf ?_; clear hf a; intro a hf
        refine ops_end ?_
        refine then_n ⟨⟨fun _ _ => (clsP hh), trivial⟩, ?_⟩
        refine mc_e rfl fun Q1 => ?_
        refine o_off hf ?_; clear hf a; intro a hf
        refine ops_end ?_
        refine then_n ⟨⟨fun _ _ => (clsP hh), trivial⟩, ?_⟩
        refine mc_off rfl hf (goff rfl rfl rfl (by first | assumption | rfl | (simp; done) | (simp; omega))) rfl rfl ?_; clear hf a; intro a hf
        refine mc_p rfl   hf (y_pt rfl rfl) (.inl rfl) rfl rfl ?_; clear hf a; intro a hf
        refine mc_end ?_
        refine then_n ?_
        refine c_t hf ?_
        refine sy_skip ?_
        refine then_n ?_
        refine sy_block ?_
        refine sy_ops ?_
        refine o_v hf hh (yv_move rfl) ?_; clear hf a; intro a hf
        refine o_v hf hh (y_add rfl rfl) ?_; clear hf a; intro a hf
        refine o_v hf hh (yv_assign rfl) ?_; clear hf a; intro a hf
        refine ops_end ?_
        refine blk_n ?_
        refine then_n ?_
        have hbad : ¬ goodA d x ws i wn n a9 := fun h => by
          obtain ⟨h1, h2⟩ := h
          first
          | (rw [h1] at *; simp_all; done)
          | omega
          | simp_all
        have hal : a9 + 1 < d.terms.length := by
          obtain ⟨g, hg, hgg⟩ := hgex
          rcases (show g < a9 ∨ g = a9 ∨ a9 < g by omega) with h | h | h
          · exact absurd hgg (hno g h)
          · subst h; exact absurd hgg hbad
          · omega
        exact ⟨(a9 + 1, es2, cm2), ⟨⟨hal, fun g' h => by
          rcases (show g' < a9 ∨ g' = a9 by simp only at h; omega) with h | h
          · exact hno g' h
          · subst h; exact hbad, hM2, hh⟩, (hf.head (by repeat' (first | exact True.intro | refine And.intro rfl ?_)) (Keep.cons rfl (Keep.cons rfl (Keep.cons rfl (Keep.cons rfl (Keep.cons rfl (Keep.cons rfl (Keep.cons rfl (Keep.cons rfl (Keep.cons rfl (Keep.cons rfl (Keep.cons rfl (Keep.cons rfl (Keep.cons rfl (Keep.cons rfl (Keep.cons rfl (Keep.cons rfl (Keep.cons rfl (Keep.cons rfl (Keep.cons rfl (Keep.cons rfl (Keep.cons rfl (Keep.cons rfl (Keep.cons rfl (Keep.cons rfl (Keep.cons rfl (Keep.cons rfl (Keep.cons rfl (Keep.app rfl (Keep.rm rfl Keep.base))))))))))))))))))))))))))))))⟩, by simp only; omega⟩
       ·have hG10 := hg10; try simp only [gS] at hG10
        refine mc_q rfl rfl (clsP hh) hf (y_ld Try.sc_106 rfl) (gon rfl rfl rfl (by first | assumption | rfl | (simp; done) | (simp; omega))) rfl rfl ?_; clear hf a; intro a hf
        refine mc_p rfl   hf (yv_fieldAddr Try.fo_108_0 rfl) (gon rfl rfl rfl (by first | assumption | rfl | (simp; done) | (simp; omega))) rfl rfl ?_; clear hf a; intro a hf
        refine mc_q rfl rfl (clsP hh) hf (y_ld Try.sc_3 rfl) (gon rfl rfl rfl (by first | assumption | rfl | (simp; done) | (simp; omega))) rfl rfl ?_; clear hf a; intro a hf
        refine mc_p rfl   hf (yv_cast (yv_add rfl rfl (by omega) (by omega)) (intv (b := ((i + 1 : Nat) : Int)) (by omega))) (gon rfl rfl rfl (by first | assumption | rfl | (simp; done) | (simp; omega))) rfl rfl ?_; clear hf a; intro a hf
        refine mc_p rfl   hf (yv_fieldAddr Try.fo_108_1 rfl) (gon rfl rfl rfl (by first | assumption | rfl | (simp; done) | (simp; omega))) rfl rfl ?_; clear hf a; intro a hf
        refine mc_q rfl rfl (clsP hh) hf (y_lds Try.ag_97 rfl) (gon rfl rfl rfl (by first | assumption | rfl | (simp; done) | (simp; omega))) rfl rfl ?_; clear hf a; intro a hf
        refine mc_p rfl   hf (yv_move rfl) (gon rfl rfl rfl (by first | assumption | rfl | (simp; done) | (simp; omega))) rfl rfl ?_; clear hf a; intro a hf
        refine mc_q rfl rfl (clsP hh) hf (y_ld Try.sc_106 rfl) (gon rfl rfl rfl (by first | assumption | rfl | (simp; done) | (simp; omega))) rfl rfl ?_; clear hf a; intro a hf
        refine mc_q rfl rfl (clsP hh) hf (y_lds Try.ag_108 rfl) (gon rfl rfl rfl (by first | assumption | rfl | (simp; done) | (simp; omega))) rfl rfl ?_; clear hf a; intro a hf
        refine mc_e rfl fun Q1 => ?_
        refine o_call hf Try.en_85 rfl rfl rfl (p85 n a9 (by omega) (by have := hcy a9; omega) _) ?_; clear hf a; intro v a w hR hf
        obtain ⟨rfl, hx⟩ := hR; replace hh := hh.more hx; clear hx
        refine ops_end ?_
        refine then_n ⟨⟨fun _ _ => (clsP hh), trivial⟩, ?_⟩
        refine mc_p rfl   hf (yv_cast (yv_buildS Try.bs_108 rfl rfl) (show _ = encS (i + 1, cinc n a9) from rfl)) (gon rfl rfl rfl (by first | assumption | rfl | (simp; done) | (simp; omega))) rfl rfl ?_; clear hf a; intro a hf
        refine mc_e rfl fun Q1 => ?_
        refine o_call hf Try.en_83 rfl rfl rfl (p83 d p q ws (some ⟨blk, off, none⟩) cap Bc B7 B6 B3 B10 B11 B27 x hO hx hwl hw16 (ws.length - (i + 1)) (i + 1) (cinc n a9) _ _ _ (hh.at (i := 1) rfl) hM2 (mkLe hh) (by omega) (by first | omega | (rw [cardsN_inc]; omega))) ?_; clear hf a; intro v a w hR hf
        obtain ⟨rfl, es2, cm2, hM2, hx3⟩ := hR; replace hh := hh.turn (i := 1) rfl hx3.ext (hx3.at (i := 0) rfl); clear hx3
        replace hh : Hp w9 [D, B7, B6, B5, B3] ([(b12, .cells (stC i n) 108), (B27, .map es2 cm2), (B11, .cells #[.func (.func 83) #[] #[ptr B7 0, ptr B6 0, ptr B3 0, ptr B10 0, ptr B11 0]] 106), (B10, .cells #[.map (some B27)] 105), (B7, .cells #[.slice (some ⟨blk, off, none⟩) ws.length cap] 101), (B6, .cells #[ptr Bc 0] 76), (B5, .cells #[.int .i64 0] 26), (B3, .cells #[.int .i64 (q : Nat)] 3), (D, .deferred (some []))] ++ X4) w := hh
        refine ops_end ?_
        refine then_n ⟨⟨fun _ _ => (clsP hh), trivial⟩, ?_⟩
        refine mc_e rfl fun Q1 => ?_
        refine o_call hf Try.en_83 rfl rfl rfl (p83 d p q ws (some ⟨blk, off, none⟩) cap Bc B7 B6 B3 B10 B11 B27 x hO hx hwl hw16 (ws.length - (i)) (i) (n) _ _ _ (hh.at (i := 1) rfl) hM2 (mkLe hh) (by omega) (by first | omega | (rw [cardsN_inc]; omega))) ?_; clear hf a; intro v a w hR hf
        obtain ⟨rfl, es2, cm2, hM2, hx3⟩ := hR; replace hh := hh.turn (i := 1) rfl hx3.ext (hx3.at (i := 0) rfl); clear hx3
        replace hh : Hp w9 [D, B7, B6, B5, B3] ([(b12, .cells (stC i n) 108), (B27, .map es2 cm2), (B11, .cells #[.func (.func 83) #[] #[ptr B7 0, ptr B6 0, ptr B3 0, ptr B10 0, ptr B11 0]] 106), (B10, .cells #[.map (some B27)] 105), (B7, .cells #[.slice (some ⟨blk, off, none⟩) ws.length cap] 101), (B6, .cells #[ptr Bc 0] 76), (B5, .cells #[.int .i64 0] 26), (B3, .cells #[.int .i64 (q : Nat)] 3), (D, .deferred (some []))] ++ X4) w := hh
        refine ops_end ?_
        refine then_n ⟨⟨fun _ _ => (clsP hh), trivial⟩, ?_⟩
        refine mc_p rfl   hf (yv_bin rfl rfl rfl) (gon rfl rfl rfl (by first | assumption | rfl | (simp; done) | (simp; omega))) rfl rfl ?_; clear hf a; intro a hf
        refine mc_p rfl   hf (y_pf rfl rfl) (.inl rfl) rfl rfl ?_; clear hf a; intro a hf
        refine mc_end ?_
        refine then_n ?_
        refine sy_cond hf rfl (fun hg17 => ?_) (fun hg17 => ?_)
        ·have hG17 := hg17; try simp only [gS] at hG17
         refine sy_skip ?_
         refine then_n ?_
         refine sy_block ?_
         refine sy_ops ?_
         refine o_v hf hh (yv_move rfl) ?_; clear hf a; intro a hf
         refine o_v hf hh (y_add rfl rfl) ?_; clear hf a; intro a hf
         refine o_v hf hh (yv_assign rfl) ?_; clear hf a; intro a hf
         refine ops_end ?_
         refine blk_n ?_
         refine then_n ?_
         have hbad : ¬ goodA d x ws i wn n a9 := fun h => by
           obtain ⟨h1, h2⟩ := h
           first
           | (rw [h1] at *; simp_all; done)
           | omega
           | simp_all
         have hal : a9 + 1 < d.terms.length := by
           obtain ⟨g, hg, hgg⟩ := hgex
           rcases (show g < a9 ∨ g = a9 ∨ a9 < g by omega) with h | h | h
           · exact absurd hgg (hno g h)
           · subst h; exact absurd hgg hbad
           · omega
         exact ⟨(a9 + 1, es2, cm2), ⟨⟨hal, fun g' h => by
           rcases (show g' < a9 ∨ g' = a9 by simp only at h; omega) with h | h
           · exact hno g' h
           · subst h; exact hbad, hM2, hh⟩, (hf.head (by repeat' (first | exact True.intro | refine And.intro rfl ?_)) (Keep.cons rfl (Keep.cons rfl (Keep.cons rfl (Keep.cons rfl (Keep.cons rfl (Keep.cons rfl (Keep.cons rfl (Keep.cons rfl (Keep.cons rfl (Keep.cons rfl (Keep.cons rfl (Keep.cons rfl (Keep.cons rfl (Keep.cons rfl (Keep.cons rfl (Keep.cons rfl (Keep.cons rfl (Keep.cons rfl (Keep.cons rfl (Keep.cons rfl (Keep.cons rfl (Keep.cons rfl (Keep.cons rfl (Keep.cons rfl (Keep.cons rfl (Keep.cons rfl (Keep.cons rfl (Keep.app rfl (Keep.rm rfl Keep.base))))))))))))))))))))))))))))))⟩, by simp only; omega⟩
        ·have hG17 := hg17; try simp only [gS] at hG17
         refine sy_exit ?_
         refine then_e ?_
         refine then_e ?_
         refine blk_e ?_
         refine then_n ?_
         have hgood : goodA d x ws i wn n a9 := ⟨by simp_all, by simp_all⟩
         have hpick := good_is hwn ha hgood hno
         have clsQ : ∀ {X w'}, Hp w9 [D, B7, B6, B5, B3] ([(b12, .cells (stC i n) 108), (B27, .map es2 cm2), (B11, .cells #[.func (.func 83) #[] #[ptr B7 0, ptr B6 0, ptr B3 0, ptr B10 0, ptr B11 0]] 106), (B10, .cells #[.map (some B27)] 105), (B7, .cells #[.slice (some ⟨blk, off, none⟩) ws.length cap] 101), (B6, .cells #[ptr Bc 0] 76), (B5, .cells #[.int .i64 0] 26), (B3, .cells #[.int .i64 (q : Nat)] 3), (D, .deferred (some []))] ++ X) w' → Hp w9 [D, B7, B6, B5, B3] [(b12, .cells (stC i n) 108), (B27, .map es2 cm2), (B11, .cells #[.func (.func 83) #[] #[ptr B7 0, ptr B6 0, ptr B3 0, ptr B10 0, ptr B11 0]] 106), (B10, .cells #[.map (some B27)] 105), (B7, .cells #[.slice (some ⟨blk, off, none⟩) ws.length cap] 101), (B6, .cells #[ptr Bc 0] 76), (B5, .cells #[.int .i64 0] 26), (B3, .cells #[.int .i64 (q : Nat)] 3), (D, .deferred (some []))] w' := fun h => h.less (List.sublist_append_left _ _)
         replace hh : Hp w9 [D, B7, B6, B5, B3] ([(b12, .cells (stC i n) 108), (B27, .map es2 cm2), (B11, .cells #[.func (.func 83) #[] #[ptr B7 0, ptr B6 0, ptr B3 0, ptr B10 0, ptr B11 0]] 106), (B10, .cells #[.map (some B27)] 105), (B7, .cells #[.slice (some ⟨blk, off, none⟩) ws.length cap] 101), (B6, .cells #[ptr Bc 0] 76), (B5, .cells #[.int .i64 0] 26), (B3, .cells #[.int .i64 (q : Nat)] 3), (D, .deferred (some []))] ++ X4) w := hh
         refine sy_treeC (.p 0 (.p 1 (.p 4 (.q 0 5 (.p 6 (.e1 2 (.e1 3 (.e1 7 (.p 8 (.p 9 (.e1 10 (.fin)))))))))))) [[10]] [(Hp w9 [D, B7, B6, B5, B3] [(b12, .cells (stC i n) 108), (B27, .map es2 cm2), (B11, .cells #[.func (.func 83) #[] #[ptr B7 0, ptr B6 0, ptr B3 0, ptr B10 0, ptr B11 0]] 106), (B10, .cells #[.map (some B27)] 105), (B7, .cells #[.slice (some ⟨blk, off, none⟩) ws.length cap] 101), (B6, .cells #[ptr Bc 0] 76), (B5, .cells #[.int .i64 0] 26), (B3, .cells #[.int .i64 (q : Nat)] 3), (D, .deferred (some []))], [10])] Try.follows (by kernel_rfl) rfl hh (fun w hh => ?_)
         refine mc_p rfl   hf (yv_move rfl) (.inl rfl) rfl rfl ?_; clear hf a; intro a hf
         refine mc_p rfl   hf (yv_move rfl) (.inl rfl) rfl rfl ?_; clear hf a; intro a hf
         refine mc_p rfl   hf (yv_fieldAddr Try.fo_108_1 rfl) (.inl rfl) rfl rfl ?_; clear hf a; intro a hf
         refine mc_q rfl rfl (by first | exact clsQ hh | exact clsQ (hh.less (.cons _ (.refl _)))) hf (y_lds Try.ag_97 rfl) (.inl rfl) rfl rfl ?_; clear hf a; intro a hf
         refine mc_p rfl   hf (yv_move rfl) (.inl rfl) rfl rfl ?_; clear hf a; intro a hf
         refine mc_e rfl fun Q1 => ?_
         refine ops_buildSl hf hh Try.bl_22_1 rfl rfl (.inl rfl) rfl ?_; clear hf hh; clear a; intro B67 a w hf hh
         refine ops_end ?_
         refine then_n ⟨⟨fun _ _ => (by first | exact clsQ hh | exact clsQ (hh.less (.cons _ (.refl _)))), trivial⟩, ?_⟩
         refine mc_e rfl fun Q1 => ?_
         refine ops_append (e := 3) (size := 1) (xs := nvs pre) (X := X4) (Z := _) (m := i) (q := 1) hf (hh.perm (.cons _ (List.perm_append_comm (l₁ := [_, _, _, _, _, _, _, _, _]) (l₂ := X4)))) Try.eb_22 rfl rfl hO4 rfl rfl rfl (by simp only [maxLen]; omega) (by omega) (.inl rfl) rfl ?_; clear hf hh a; intro v5 X5 a w hO5 hf hh
         replace hh := hh.perm List.perm_append_comm
         refine ops_end ?_
         refine then_n ⟨⟨fun _ _ => (by first | exact clsQ hh | exact clsQ (hh.less (.cons _ (.refl _)))), trivial⟩, ?_⟩
         refine mc_e rfl fun Q1 => ?_
         refine o_call hf Try.en_85 rfl rfl rfl (p85 n a9 (by omega) (by have := hcy a9; omega) _) ?_; clear hf a; intro v a w hR hf
         obtain ⟨rfl, hx⟩ := hR; replace hh := hh.more hx; clear hx
         refine ops_end ?_
         refine then_n ⟨⟨fun _ _ => (by first | exact clsQ hh | exact clsQ (hh.less (.cons _ (.refl _)))), trivial⟩, ?_⟩
         refine mc_p rfl   hf (yv_assign rfl) (.inl rfl) rfl rfl ?_; clear hf a; intro a hf
         refine mc_p rfl   hf (yv_fieldAddr Try.fo_108_1 rfl) (.inl rfl) rfl rfl ?_; clear hf a; intro a hf
         refine mc_e rfl fun Q1 => ?_
         refine o_store hf hh Try.sz_97 fun w hh => ?_
         refine ops_end ?_
         refine then_n ⟨⟨fun h => Bool.noConfusion (show true = false from h), trivial⟩, ?_⟩
         refine mc_end ?_
         refine blk_n ?_
         refine then_n ?_
         refine sy_seq ?_
         refine sy_sq ?_
         refine o_v hf hh (y_lds Try.ag_108 rfl) ?_; clear hf a; intro a hf
         refine o_end ?_
         refine sy_ops ?_
         refine o_alloc hf hh Try.ze_108 ?_; clear hf hh a; intro B12 a w hf hh
         refine o_store hf hh Try.sz_108 fun w hh => ?_
         refine o_end ?_
         refine sy_ops ?_
         refine o_v hf hh (yv_fieldAddr Try.fo_108_0 rfl) ?_; clear hf a; intro a hf
         refine o_v hf hh (y_ld Try.sc_3 rfl) ?_; clear hf a; intro a hf
         refine ops_v hf hh (yv_cast (yv_add rfl rfl (by omega) (by omega)) (intv (b := ((i + 1 : Nat) : Int)) (by omega))) (.inl rfl) rfl rfl rfl ?_; clear hf a; intro a hf
         refine o_v hf hh (yv_fieldAddr Try.fo_108_0 rfl) ?_; clear hf a; intro a hf
         refine o_store hf hh Try.sz_3 fun w hh => ?_
         refine ops_end ?_
         refine then_n ?_
         have hh9 : Hp w9 [D, B7, B6, B5, B3] ([(B12, .cells (stC (i + 1) (cinc n a9)) 108), (b12, .cells (stC i (cinc n a9)) 108), (B27, .map es2 cm2), (B11, .cells #[.func (.func 83) #[] #[ptr B7 0, ptr B6 0, ptr B3 0, ptr B10 0, ptr B11 0]] 106), (B10, .cells #[.map (some B27)] 105), (B7, .cells #[.slice (some ⟨blk, off, none⟩) ws.length cap] 101), (B6, .cells #[ptr Bc 0] 76), (B5, .cells #[.int .i64 0] 26), (B3, .cells #[.int .i64 (q : Nat)] 3), (D, .deferred (some []))] ++ X5) w := hh
         exact ⟨(i + 1, cinc n a9, B12, pre ++ [a9], v5, X5, es2, cm2), ⟨⟨by simp only; omega, by simp only; rw [cardsN_inc]; omega, hTl.next hwn hpick, by simp only; rw [nvs_app]; exact hO5, hM2, hh9.pickX [0, 2, 3, 4, 5, 6, 7, 8, 9]⟩, (hf.head (by repeat' (first | exact True.intro | refine And.intro rfl ?_)) (Keep.cons rfl (Keep.cons rfl (Keep.cons rfl (Keep.cons rfl (Keep.cons rfl (Keep.cons rfl (Keep.cons rfl (Keep.cons rfl (Keep.cons rfl (Keep.cons rfl (Keep.cons rfl (Keep.cons rfl (Keep.cons rfl (Keep.cons rfl (Keep.cons rfl (Keep.cons rfl (Keep.cons rfl (Keep.cons rfl (Keep.cons rfl (Keep.cons rfl (Keep.cons rfl (Keep.cons rfl (Keep.cons rfl (Keep.cons rfl (Keep.cons rfl (Keep.cons rfl (Keep.cons rfl (Keep.cons rfl (Keep.cons rfl (Keep.cons rfl (Keep.cons rfl (Keep.cons rfl (Keep.cons rfl (Keep.cons rfl (Keep.cons rfl (Keep.cons rfl (Keep.cons rfl (Keep.cons rfl (Keep.cons rfl (Keep.cons rfl (Keep.app rfl (Keep.rm rfl (Keep.cons rfl (Keep.cons rfl (Keep.cons rfl (Keep.cons rfl (Keep.cons rfl (Keep.cons rfl (Keep.app rfl (Keep.rm rfl Keep.base)))))))))))))))))))))))))))))))))))))))))))))))))))⟩, by simp only; omega⟩
     ·have hG8 := hg8; try simp only [gS] at hG8
      refine sy_exit ?_
      refine then_e ?_
      refine then_e ?_
      refine blk_e ?_
      refine then_n ?_
      refine sy_sq ?_
      refine o_v hf hh (yv_move rfl) ?_; clear hf a; intro a hf
      refine o_v hf hh (yv_assign rfl) ?_; clear hf a; intro a hf
      refine o_store hf hh Try.sz_26 fun w hh => ?_
      refine o_end ?_
      refine sy_ret ?_
      have hdone := hTl.done (show i = ws.length by omega)
      have ev : leaV d q = pre := by unfold leaV; rw [if_pos e0, ep, ← hws, hdone]
      rw [e0, ev, hTl.1]
      replace hh : Hp w9 [D, B7, B6, B5, B3] ((D, .deferred (some [])) :: (B5, .cells #[.int .i64 0] 26) :: X4) w := hh.pickX (F := [(b12, .cells (stC i n) 108), (B27, .map es cm), (B11, .cells #[.func (.func 83) #[] #[ptr B7 0, ptr B6 0, ptr B3 0, ptr B10 0, ptr B11 0]] 106), (B10, .cells #[.map (some B27)] 105), (B7, .cells #[.slice sa ws.length cap] 101), (B6, .cells #[ptr Bc 0] 76), (B5, .cells #[.int .i64 0] 26), (B3, .cells #[.int .i64 (q : Nat)] 3), (D, .deferred (some []))]) [8, 6]
      exact ret_d (Ds := [D]) hf hh Try.en_80 (fun w' => d80r B5 w') fun w' hh => ⟨[v4, .int .i64 0], ⟨rfl, ⟨B5, 0, _, _, _, rfl, hh.at (i := 0) rfl, .inl ⟨Try.sc_26, rfl⟩⟩, True.intro⟩, v4, X4, rfl, hO4, (hh0.comp hh).less (.cons _ (List.Sublist.refl _))⟩
   ·rintro k c D H N2 a w hX hOw hf hh
    exact hX.elim
   · rintro N v v' b ⟨h, h'⟩ hb e; exact ⟨h.step (e.mono (by simpa using hb)) (.refl _ _), h'.step (e.mono (by simpa using hb)) (.refl _ _)⟩
  ·intro ch w hX hf
   obtain ⟨rfl, he, hx⟩ := hX; replace hh := hh.more hx; clear hx
   refine then_p ?_
   have ev : leaV d g = [] := by unfold leaV; exact if_neg he
   rw [ev]
   exact pan_d (Ds := []) hf hh Try.en_80 (fun w' hh => d80p B5 _ 0 w' (hh.at (i := 0) rfl)) fun w' w'' hh h2 => ⟨[.slice none 0 0, .int .i64 (allE d g)], ⟨rfl, ⟨B5, 0, _, _, _, rfl, h2.at (i := 0) rfl, .inl ⟨Try.sc_26, rfl⟩⟩, True.intro⟩, _, [], rfl, OwnSl.nil _ _, (hh.turn (i := 0) rfl h2.ext (h2.at (i := 0) rfl)).less (List.nil_sublist _)⟩
end Go.Proofs.Ytkfkifkdncdhoaa
namespace Go.RoyM
open Go Go.Sy
theorem iat_lit {w : World} {B : Nat} {l : List Int} {cs : Array Value} {T : TypeId} (h : w.heap[B]? = some (.cells cs T (0, 0))) (hc : cs.toList = ivs l) : IAt w (some ⟨B, 0, none⟩) l := fun i x hi => by
  refine ⟨B, 0, _, _, _, rfl, h, ?_⟩
  rw [Int.toNat_natCast, Nat.zero_add, Nat.mul_one, ← Array.getElem?_toList, hc]
  unfold ivs
  rw [List.getElem?_map, hi]; rfl
theorem iat_own {oa : Option Addr} {m c : Nat} {l : List Int} {X : List (Nat × Obj)} {w : World} (h : OwnSl 3 1 (.slice oa m c) m (ivs l) X) (hX : ∀ q ∈ X, w.heap[q.1]? = some q.2) : IAt w oa l := by
  obtain ⟨oa2, c2, e, _, h2⟩ := own_iat h hX
  cases e
  exact h2
theorem nvs_ivs (l : List Nat) : nvs l = ivs (l.map fun x => ((x : Nat) : Int)) := by unfold nvs ivs; rw [List.map_map]; rfl
theorem eq_take {a b : List Int} {i : Nat} {x y : Int} (h : a.take i = b.take i) (hx : a[i]? = some x) (hy : b[i]? = some y) (he : x = y) : a.take (i + 1) = b.take (i + 1) := by
  rw [List.take_add_one, List.take_add_one, h, hx, hy, he]
theorem ne_at {a b : List Int} {i : Nat} {x y : Int} (hx : a[i]? = some x) (hy : b[i]? = some y) (he : ¬ x = y) : ¬ a = b := fun h => by
  rw [h, hy] at hx
  exact he (by cases hx; rfl)
theorem sx_sV : splV 604 [334, 333, 333] = [202, 201, 201] := by kernel_rfl
theorem sx_sE : splE 604 [334, 333, 333] = 0 := by kernel_rfl
theorem sx_sV2 : splV 600 [334, 333, 333] = [200, 200, 200] := by kernel_rfl
theorem sx_sE2 : splE 600 [334, 333, 333] = 0 := by kernel_rfl
theorem sx_sV3 : splV 595 [334, 333, 333] = [199, 198, 198] := by kernel_rfl
theorem sx_sE3 : splE 595 [334, 333, 333] = 0 := by kernel_rfl
theorem sx_cW : comW ⟨20, 3, 30⟩ 99 6 = 148 := by kernel_rfl
theorem sx_cE : comE ⟨20, 3, 30⟩ 99 6 = 0 := by kernel_rfl
theorem sx_cW2 : comW ⟨20, 3, 30⟩ 99 4 = 89 := by kernel_rfl
theorem sx_cE2 : comE ⟨20, 3, 30⟩ 99 4 = 0 := by kernel_rfl
theorem sx_tA : twA smpR = (1, 0) := by kernel_rfl
theorem sx_tE : twE smpR = 0 := by kernel_rfl
theorem sx_clE : claE smpR 1 0 = 0 := by kernel_rfl
theorem sx_clV2 : claV smpR 0 0 = (15, 63) := by kernel_rfl
theorem sx_clE2 : claE smpR 0 0 = 0 := by kernel_rfl
theorem sx_oE : oweE smpR 0 = 0 := by kernel_rfl
theorem sx_oV2 : oweV smpR 1 = (49, 99) := by kernel_rfl
theorem sx_oE2 : oweE smpR 1 = 0 := by kernel_rfl
theorem sx_aE : allE smpR 0 = 0 := by kernel_rfl
theorem sx_gE : getE smpR 0 1 = 0 := by kernel_rfl
theorem sx_gV2 : getV smpR 0 0 = (199, 202) := by kernel_rfl
theorem sx_gE2 : getE smpR 0 0 = 0 := by kernel_rfl
end Go.RoyM
namespace Go.Proofs.Ytkfkifkdncdhoaa
open Go Go.Sy Go.RoyM
theorem fl43 : flatB Try.prog 43 = some 2 := by kernel_rfl
theorem p36 (x y : Int) (w : World) : Calls Try.prog 36 #[.int .i64 x, .int .i64 y] w (Ret fun v w' => v = .agg #[.int .i64 x, .int .i64 y] ∧ Ext [] w w') := by
  refine calls_of Try.func36 rfl rfl (fun a hf => ?_)
  have hh := Hp.init w []
  refine sy_sq ?_
  refine o_alloc hf hh Try.ze_43 ?_; clear hf hh a; intro B4 a w hf hh
  refine o_end ?_
  refine sy_sq ?_
  refine o_v hf hh (yv_move rfl) ?_; clear hf a; intro a hf
  refine o_v hf hh (yv_move rfl) ?_; clear hf a; intro a hf
  refine o_v hf hh (yv_buildS Try.bs_43 rfl rfl) ?_; clear hf a; intro a hf
  refine o_store hf hh Try.sz_43 fun w hh => ?_
  refine o_end ?_
  refine sy_ret ?_
  refine ret_c (vs := [.agg #[.int .i64 x, .int .i64 y]]) hf ?_ ?_
  · exact ⟨⟨B4, 0, _, _, _, rfl, hh.at (i := 0) rfl, .inr ⟨2, _, Try.ag_43, rfl, rfl⟩⟩, True.intro⟩
  · exact ⟨rfl, hh.ext⟩
theorem p34 (u : World) : Calls Try.prog 34 #[] u (Ret fun v w' => ∃ B, v = .slice (some ⟨B, 0, none⟩) 2 2 ∧ Hp u [] [(B, .cells #[.int .i64 20, .int .i64 3, .int .i64 30, .int .i64 25, .int .i64 12, .int .i64 25] 24)] w') := by
  refine calls_of Try.func34 rfl rfl (fun a hf => ?_)
  have hh := Hp.init u []
  refine sy_sq ?_
  refine o_v hf hh (yv_assign rfl) ?_; clear hf a; intro a hf
  refine o_end ?_
  refine sy_sq ?_
  refine o_v hf hh (yv_buildS Try.bs_24 rfl rfl) ?_; clear hf a; intro a hf
  refine o_v hf hh (yv_buildS Try.bs_24 rfl rfl) ?_; clear hf a; intro a hf
  refine ops_buildSl hf hh Try.bl_33_2 rfl rfl (.inl rfl) rfl ?_; clear hf hh; clear a; intro B3 a w hf hh
  refine o_v hf hh (yv_assign rfl) ?_; clear hf a; intro a hf
  refine o_end ?_
  refine sy_ret ?_
  refine ret_r hf rfl rfl ?_
  exact ⟨B3, rfl, hh⟩
theorem p35 (u : World) : Calls Try.prog 35 #[] u (Ret fun v w' => ∃ p, v = .agg (royC smpR p) ∧ RoyAt w' smpR p ∧ Ext [] u w') := by
  refine calls_of Try.func35 rfl rfl (fun a hf => ?_)
  have hh := Hp.init u []
  refine sy_sq ?_
  refine o_alloc hf hh Try.ze_37 ?_; clear hf hh a; intro B0 a w hf hh
  refine o_end ?_
  refine sy_sq ?_
  refine o_call hf Try.en_34 rfl rfl rfl (p34 _) ?_; clear hf a; intro v a w hR hf
  obtain ⟨Bt, rfl, hx⟩ := hR; replace hh := hh.join hx; clear hx
  refine ops_buildSl hf hh Try.bl_22_1 rfl rfl (.inl rfl) rfl ?_; clear hf hh; clear a; intro B2 a w hf hh
  refine ops_buildSl hf hh Try.bl_22_3 rfl rfl (.inl rfl) rfl ?_; clear hf hh; clear a; intro B3 a w hf hh
  refine ops_buildSl hf hh Try.bl_34_1 rfl rfl (.inl rfl) rfl ?_; clear hf hh; clear a; intro B4 a w hf hh
  refine o_v hf hh (yv_buildS Try.bs_66 rfl rfl) ?_; clear hf a; intro a hf
  refine o_v hf hh (yv_buildS Try.bs_66 rfl rfl) ?_; clear hf a; intro a hf
  refine ops_buildSl hf hh Try.bl_35_2 rfl rfl (.inl rfl) rfl ?_; clear hf hh; clear a; intro B7 a w hf hh
  refine ops_buildSl hf hh Try.bl_22_2 rfl rfl (.inl rfl) rfl ?_; clear hf hh; clear a; intro B8 a w hf hh
  refine o_v hf hh (yv_buildS Try.bs_37 rfl rfl) ?_; clear hf a; intro a hf
  refine o_store hf hh Try.sz_37 fun w hh => ?_
  refine o_end ?_
  refine sy_ret ?_
  refine ret_c (vs := [.agg (royC smpR ⟨some ⟨Bt, 0, none⟩, some ⟨B2, 0, none⟩, some ⟨B4, 0, none⟩, some ⟨B7, 0, none⟩, some ⟨B8, 0, none⟩, 2, 1, 1, 2, 2⟩)]) hf ?_ ?_
  · exact ⟨⟨B0, 0, _, _, _, rfl, hh.at (i := 6) rfl, .inr ⟨5, _, Try.ag_37, rfl, rfl⟩⟩, True.intro⟩
  · refine ⟨_, rfl, ⟨fun i s hi => ?_, iat_lit (hh.at (i := 4) rfl) rfl, fun i s hi => ?_, fun i s hi => ?_, iat_lit (hh.at (i := 0) rfl) rfl, by decide, by decide, by decide, by decide, by decide, fun l hl => ?_, by show 2 ≤ 2; omega⟩, hh.ext⟩
    · refine ⟨Bt, 0, _, _, _, rfl, hh.at (i := 5) rfl, ?_⟩
      match i, hi with
      | 0, hi => cases hi; rfl
      | 1, hi => cases hi; rfl
    · match i, hi with
      | 0, hi => cases hi; exact ⟨B4, 0, _, _, _, some ⟨B3, 0, none⟩, 3, rfl, hh.at (i := 2) rfl, rfl, iat_lit (hh.at (i := 3) rfl) rfl⟩
    · refine ⟨B7, 0, _, _, _, rfl, hh.at (i := 1) rfl, ?_⟩
      match i, hi with
      | 0, hi => cases hi; rfl
      | 1, hi => cases hi; rfl
    · rw [show smpR.shares = [[334, 333, 333]] from rfl] at hl
      rw [List.mem_singleton.1 hl]; decide
theorem p19 (la lb : List Int) (sa sb : Option Addr) (ca cb : Nat) (u : World) (hA : IAt u sa la) (hB : IAt u sb lb) (hl : la.length ≤ 1000000) : Calls Try.prog 19 #[.slice sa la.length ca, .slice sb lb.length cb] u (Ret fun v w' => v = .bool (decide (la = lb)) ∧ Ext [] u w') := by
  refine calls_of Try.func19 rfl rfl (fun a hf => ?_)
  have hh := Hp.init u []
  refine sy_sq ?_
  refine o_v hf hh (yv_assign rfl) ?_; clear hf a; intro a hf
  refine o_end ?_
  refine sy_seq ?_
  refine sy_sq ?_
  refine o_v hf hh (yv_move rfl) ?_; clear hf a; intro a hf
  refine o_v hf hh (yv_len Try.se_22 rfl) ?_; clear hf a; intro a hf
  refine o_v hf hh (yv_move rfl) ?_; clear hf a; intro a hf
  refine o_v hf hh (yv_len Try.se_22 rfl) ?_; clear hf a; intro a hf
  refine o_v hf hh (yv_bin rfl rfl rfl) ?_; clear hf a; intro a hf
  refine o_end ?_
  refine sy_cond hf rfl (fun hg2 => ?_) (fun hg2 => ?_)
  ·have hG2 := hg2; try simp only [gS] at hG2
   refine sy_sq ?_
   refine o_v hf hh (yv_assign rfl) ?_; clear hf a; intro a hf
   refine o_end ?_
   refine sy_ret ?_
   refine then_r ?_
   refine ret_r hf rfl rfl ?_
   exact ⟨congrArg Value.bool (decide_eq_false fun h => by subst h; simp_all).symm, hh.ext⟩
  ·have hG2 := hg2; try simp only [gS] at hG2
   refine sy_skip ?_
   refine then_n ?_
   refine sy_seq ?_
   refine sy_sq ?_
   refine o_v hf hh (yv_assign rfl) ?_; clear hf a; intro a hf
   refine o_end ?_
   refine sy_block ?_
   refine sy_loopF (σ := Nat) [4, 5, 11, 12, 13, 14, 15, 16, 17, 18, 19, 20, 21, 22, 23, 24, 25] (fun i => [(5, .int .i64 (i : Nat))]) (fun i => i ≤ la.length ∧ la.take i = lb.take i) (fun i => la.length - i) (0) hf hh ?_ ?_ ?_
   · repeat' (first | exact True.intro | refine And.intro rfl ?_)
   · exact ⟨Nat.zero_le _, rfl⟩
   ·rintro i a w ⟨hi, hT⟩ hf hh
    refine sy_seq ?_
    refine sy_sq ?_
    refine o_v hf hh (yv_move rfl) ?_; clear hf a; intro a hf
    refine o_v hf hh (yv_move rfl) ?_; clear hf a; intro a hf
    refine o_v hf hh (yv_len Try.se_22 rfl) ?_; clear hf a; intro a hf
    refine o_v hf hh (yv_bin rfl rfl rfl) ?_; clear hf a; intro a hf
    refine o_end ?_
    refine sy_cond hf rfl (fun hg4 => ?_) (fun hg4 => ?_)
    ·have hG4 := hg4; try simp only [gS] at hG4
     refine sy_skip ?_
     refine then_n ?_
     refine sy_seq ?_
     refine sy_block ?_
     refine sy_seq ?_
     obtain ⟨x, hx⟩ := ex_of (l := la) (i := i) (by omega)
     obtain ⟨y, hy⟩ := ex_of (l := lb) (i := i) (by omega)
     obtain ⟨blk, off, cc, T, fr, e, hb, hc⟩ := hA i x hx; subst e
     obtain ⟨blk2, off2, cc2, T2, fr2, e2, hb2, hc2⟩ := hB i y hy; subst e2
     refine sy_quiet (C := Hp _ _ _) Try.follows (by kernel_rfl) (hh.drawn _) ?_
     refine oq_v hf (yv_move rfl) ?_; clear hf a; intro a hf
     refine oq_v hf (yv_move rfl) ?_; clear hf a; intro a hf
     refine oq_v hf (y_ix Try.se_22 rfl rfl) ?_; clear hf a; intro a hf
     refine oq_v hf (y_ld Try.sc_3 rfl) ?_; clear hf a; intro a hf
     refine oq_v hf (yv_move rfl) ?_; clear hf a; intro a hf
     refine oq_v hf (yv_move rfl) ?_; clear hf a; intro a hf
     refine oq_v hf (y_ix Try.se_22 rfl rfl) ?_; clear hf a; intro a hf
     refine oq_v hf (y_ld Try.sc_3 rfl) ?_; clear hf a; intro a hf
     refine oq_v hf (yv_bin rfl rfl rfl) ?_; clear hf a; intro a hf
     refine q_end fun w hh => ?_
     refine then_n ?_
     refine sy_cond hf rfl (fun hg6 => ?_) (fun hg6 => ?_)
     ·have hG6 := hg6; try simp only [gS] at hG6
      refine sy_sq ?_
      refine o_v hf hh (yv_assign rfl) ?_; clear hf a; intro a hf
      refine o_end ?_
      refine sy_ret ?_
      refine blk_r ?_
      refine then_r ?_
      refine then_r ?_
      refine blk_r ?_
      refine then_r ?_
      refine ret_r hf rfl rfl ?_
      exact ⟨congrArg Value.bool (decide_eq_false (ne_at hx hy (by simp_all))).symm, hh.ext⟩
     ·have hG6 := hg6; try simp only [gS] at hG6
      refine sy_skip ?_
      refine blk_n ?_
      refine then_n ?_
      refine sy_ops ?_
      refine o_v hf hh (yv_move rfl) ?_; clear hf a; intro a hf
      refine o_v hf hh (y_add rfl rfl) ?_; clear hf a; intro a hf
      refine o_v hf hh (yv_assign rfl) ?_; clear hf a; intro a hf
      refine ops_end ?_
      refine then_n ?_
      exact ⟨i + 1, ⟨⟨by omega, eq_take hT hx hy (by simp_all)⟩, (hf.head (by repeat' (first | exact True.intro | refine And.intro rfl ?_)) (Keep.cons rfl (Keep.cons rfl (Keep.cons rfl (Keep.cons rfl (Keep.cons rfl (Keep.cons rfl (Keep.cons rfl (Keep.cons rfl (Keep.cons rfl (Keep.cons rfl (Keep.cons rfl (Keep.cons rfl (Keep.cons rfl (Keep.cons rfl (Keep.cons rfl (Keep.cons rfl (Keep.app rfl (Keep.rm rfl Keep.base))))))))))))))))))), hh⟩, by omega⟩
    ·have hG4 := hg4; try simp only [gS] at hG4
     refine sy_exit ?_
     refine then_e ?_
     refine then_e ?_
     refine blk_e ?_
     refine then_n ?_
     refine sy_sq ?_
     refine o_v hf hh (yv_assign rfl) ?_; clear hf a; intro a hf
     refine o_end ?_
     refine sy_ret ?_
     refine ret_r hf rfl rfl ?_
     obtain rfl : i = la.length := by omega
     refine ⟨congrArg Value.bool (decide_eq_true ?_).symm, hh.ext⟩
     rw [List.take_length, List.take_of_length_le (by omega)] at hT
     exact hT
theorem p14 (u : World) : Calls Try.prog 14 #[] u (Ret fun v w' => v = .bool true ∧ Ext [] u w') := by
  refine calls_of Try.func14 rfl rfl (fun a hf => ?_)
  have hh := Hp.init u []
  refine sy_sq ?_
  refine o_v hf hh (yv_assign rfl) ?_; clear hf a; intro a hf
  refine o_end ?_
  refine sy_sq ?_
  refine ops_buildSl hf hh Try.bl_22_3 rfl rfl (.inl rfl) rfl ?_; clear hf hh; clear a; intro B20 a w hf hh
  refine o_call hf Try.en_15 rfl rfl rfl (p15 604 [334, 333, 333] _ 3 _ (iat_lit (hh.at (i := 0) rfl) rfl) (by decide)) ?_; clear hf a; intro v a w hR hf
  rw [sx_sV, sx_sE] at hR
  obtain ⟨oa1, cap1, X1, rfl, hO1, hx⟩ := hR
  replace hh := (hh.join hx).perm List.perm_append_comm; clear hx
  refine o_v hf hh (yv_move rfl) ?_; clear hf a; intro a hf
  refine o_v hf hh (yv_extract rfl rfl) ?_; clear hf a; intro a hf
  refine o_v hf hh (yv_extract rfl rfl) ?_; clear hf a; intro a hf
  refine o_v hf hh (yv_assign rfl) ?_; clear hf a; intro a hf
  refine o_v hf hh (yv_assign rfl) ?_; clear hf a; intro a hf
  refine o_end ?_
  refine sy_sq ?_
  refine o_call hf Try.en_34 rfl rfl rfl (p34 _) ?_; clear hf a; intro v a w hR hf
  obtain ⟨Bt, rfl, hx⟩ := hR; replace hh := hh.join hx; clear hx
  refine o_v hf hh (y_ix Try.se_33 rfl rfl) ?_; clear hf a; intro a hf
  refine o_v hf hh (yv_cast (y_lds Try.ag_24 rfl) (show _ = tmV ⟨20, 3, 30⟩ from rfl)) ?_; clear hf a; intro a hf
  refine o_call hf Try.en_17 rfl rfl rfl (p17 ⟨20, 3, 30⟩ 99 6 _) ?_; clear hf a; intro v a w hR hf
  rw [sx_cW, sx_cE] at hR
  obtain ⟨rfl, hx⟩ := hR; replace hh := hh.more hx; clear hx
  refine o_v hf hh (yv_move rfl) ?_; clear hf a; intro a hf
  refine o_v hf hh (yv_extract rfl rfl) ?_; clear hf a; intro a hf
  refine o_v hf hh (yv_extract rfl rfl) ?_; clear hf a; intro a hf
  refine o_v hf hh (yv_assign rfl) ?_; clear hf a; intro a hf
  refine o_v hf hh (yv_assign rfl) ?_; clear hf a; intro a hf
  refine o_end ?_
  refine sy_sq ?_
  refine o_call hf Try.en_35 rfl rfl rfl (p35 _) ?_; clear hf a; intro v a w hR hf
  obtain ⟨pl3, rfl, hA3, hx⟩ := hR; replace hh := hh.more hx; clear hx
  refine o_call hf Try.en_21 rfl rfl rfl (p21 smpR pl3  _ hA3) ?_; clear hf a; intro v a w hR hf
  rw [sx_tA, sx_tE] at hR
  obtain ⟨rfl, hx⟩ := hR; replace hh := hh.more hx; clear hx
  refine o_v hf hh (yv_move rfl) ?_; clear hf a; intro a hf
  refine o_v hf hh (yv_extract rfl rfl) ?_; clear hf a; intro a hf
  refine o_v hf hh (yv_extract rfl rfl) ?_; clear hf a; intro a hf
  refine o_v hf hh (yv_extract rfl rfl) ?_; clear hf a; intro a hf
  refine o_v hf hh (yv_assign rfl) ?_; clear hf a; intro a hf
  refine o_v hf hh (yv_assign rfl) ?_; clear hf a; intro a hf
  refine o_v hf hh (yv_assign rfl) ?_; clear hf a; intro a hf
  refine o_end ?_
  refine sy_sq ?_
  refine o_call hf Try.en_35 rfl rfl rfl (p35 _) ?_; clear hf a; intro v a w hR hf
  obtain ⟨pl4, rfl, hA4, hx⟩ := hR; replace hh := hh.more hx; clear hx
  refine o_call hf Try.en_23 rfl rfl rfl (p23 smpR pl4 1 0 _ hA4) ?_; clear hf a; intro v a w hR hf
  rw [sm_cla, sx_clE] at hR
  obtain ⟨rfl, hx⟩ := hR; replace hh := hh.more hx; clear hx
  refine o_v hf hh (yv_move rfl) ?_; clear hf a; intro a hf
  refine o_v hf hh (yv_extract rfl rfl) ?_; clear hf a; intro a hf
  refine o_v hf hh (yv_extract rfl rfl) ?_; clear hf a; intro a hf
  refine o_v hf hh (yv_extract rfl rfl) ?_; clear hf a; intro a hf
  refine o_v hf hh (yv_assign rfl) ?_; clear hf a; intro a hf
  refine o_v hf hh (yv_assign rfl) ?_; clear hf a; intro a hf
  refine o_v hf hh (yv_assign rfl) ?_; clear hf a; intro a hf
  refine o_end ?_
  refine sy_sq ?_
  refine o_call hf Try.en_35 rfl rfl rfl (p35 _) ?_; clear hf a; intro v a w hR hf
  obtain ⟨pl5, rfl, hA5, hx⟩ := hR; replace hh := hh.more hx; clear hx
  refine o_call hf Try.en_25 rfl rfl rfl (p25 smpR pl5 0 _ hA5) ?_; clear hf a; intro v a w hR hf
  rw [sm_owe, sx_oE] at hR
  obtain ⟨rfl, hx⟩ := hR; replace hh := hh.more hx; clear hx
  refine o_v hf hh (yv_move rfl) ?_; clear hf a; intro a hf
  refine o_v hf hh (yv_extract rfl rfl) ?_; clear hf a; intro a hf
  refine o_v hf hh (yv_extract rfl rfl) ?_; clear hf a; intro a hf
  refine o_alloc hf hh Try.ze_43 ?_; clear hf hh a; intro B11 a w hf hh
  refine o_store hf hh Try.sz_43 fun w hh => ?_
  refine o_v hf hh (yv_assign rfl) ?_; clear hf a; intro a hf
  refine o_end ?_
  refine sy_sq ?_
  refine o_call hf Try.en_35 rfl rfl rfl (p35 _) ?_; clear hf a; intro v a w hR hf
  obtain ⟨pl6, rfl, hA6, hx⟩ := hR; replace hh := hh.more hx; clear hx
  refine o_call hf Try.en_28 rfl rfl rfl (p28 smpR pl6 0 _ hA6) ?_; clear hf a; intro v a w hR hf
  rw [sm_all, sx_aE] at hR
  obtain ⟨rfl, hx⟩ := hR; replace hh := hh.more hx; clear hx
  refine o_v hf hh (yv_move rfl) ?_; clear hf a; intro a hf
  refine o_v hf hh (yv_extract rfl rfl) ?_; clear hf a; intro a hf
  refine o_v hf hh (yv_extract rfl rfl) ?_; clear hf a; intro a hf
  refine o_alloc hf hh Try.ze_43 ?_; clear hf hh a; intro B13 a w hf hh
  refine o_store hf hh Try.sz_43 fun w hh => ?_
  refine o_v hf hh (yv_assign rfl) ?_; clear hf a; intro a hf
  refine o_end ?_
  refine sy_sq ?_
  refine o_call hf Try.en_35 rfl rfl rfl (p35 _) ?_; clear hf a; intro v a w hR hf
  obtain ⟨pl7, rfl, hA7, hx⟩ := hR; replace hh := hh.more hx; clear hx
  refine o_call hf Try.en_30 rfl rfl rfl (p30 smpR pl7 0 _ hA7) ?_; clear hf a; intro v a w hR hf
  rw [sm_lea, sx_aE] at hR
  obtain ⟨sv7, X7, rfl, hO7, hx⟩ := hR; rw [nvs_ivs] at hO7
  obtain ⟨oa7, cap7, rfl, _, _⟩ := own_iat hO7 hx.get
  replace hh := (hh.join hx).perm List.perm_append_comm; clear hx
  refine o_v hf hh (yv_move rfl) ?_; clear hf a; intro a hf
  refine o_v hf hh (yv_extract rfl rfl) ?_; clear hf a; intro a hf
  refine o_v hf hh (yv_extract rfl rfl) ?_; clear hf a; intro a hf
  refine o_v hf hh (yv_assign rfl) ?_; clear hf a; intro a hf
  refine o_v hf hh (yv_assign rfl) ?_; clear hf a; intro a hf
  refine o_end ?_
  refine sy_sq ?_
  refine o_call hf Try.en_35 rfl rfl rfl (p35 _) ?_; clear hf a; intro v a w hR hf
  obtain ⟨pl8, rfl, hA8, hx⟩ := hR; replace hh := hh.more hx; clear hx
  refine o_call hf Try.en_32 rfl rfl rfl (p32 smpR pl8 0 1 _ hA8) ?_; clear hf a; intro v a w hR hf
  rw [sm_get, sx_gE] at hR
  obtain ⟨rfl, hx⟩ := hR; replace hh := hh.more hx; clear hx
  refine o_v hf hh (yv_move rfl) ?_; clear hf a; intro a hf
  refine o_v hf hh (yv_extract rfl rfl) ?_; clear hf a; intro a hf
  refine o_v hf hh (yv_extract rfl rfl) ?_; clear hf a; intro a hf
  refine o_alloc hf hh Try.ze_43 ?_; clear hf hh a; intro B17 a w hf hh
  refine o_store hf hh Try.sz_43 fun w hh => ?_
  refine o_v hf hh (yv_assign rfl) ?_; clear hf a; intro a hf
  refine o_end ?_
  refine sy_seq ?_
  refine sy_sq ?_
  refine o_v hf hh (yv_move rfl) ?_; clear hf a; intro a hf
  refine ops_buildSl hf hh Try.bl_22_3 rfl rfl (.inl rfl) rfl ?_; clear hf hh; clear a; intro B64 a w hf hh
  refine o_call hf Try.en_19 rfl rfl rfl (p19 [202, 201, 201] [202, 201, 201] oa1 _ cap1 _ _ (hO1.iat fun q hq => hh.get q (by simp [hq])) (iat_lit (hh.at (i := 0) rfl) rfl) (by decide)) ?_; clear hf a; intro v a w hR hf
  obtain ⟨rfl, hx⟩ := hR; replace hh := hh.more hx; clear hx
  refine o_v hf hh (yv_not rfl) ?_; clear hf a; intro a hf
  refine o_v hf hh (yv_move rfl) ?_; clear hf a; intro a hf
  refine o_v hf hh (yv_move rfl) ?_; clear hf a; intro a hf
  refine o_v hf hh (yv_bin rfl rfl rfl) ?_; clear hf a; intro a hf
  refine o_v hf hh (y_pf rfl rfl) ?_; clear hf a; intro a hf
  refine o_v hf hh (yv_move rfl) ?_; clear hf a; intro a hf
  refine o_v hf hh (yv_move rfl) ?_; clear hf a; intro a hf
  refine o_v hf hh (yv_bin rfl rfl rfl) ?_; clear hf a; intro a hf
  refine o_v hf hh (y_pf rfl rfl) ?_; clear hf a; intro a hf
  refine o_v hf hh (yv_move rfl) ?_; clear hf a; intro a hf
  refine o_v hf hh (yv_move rfl) ?_; clear hf a; intro a hf
  refine o_v hf hh (yv_bin rfl rfl rfl) ?_; clear hf a; intro a hf
  refine o_v hf hh (y_pf rfl rfl) ?_; clear hf a; intro a hf
  refine o_v hf hh (yv_move rfl) ?_; clear hf a; intro a hf
  refine o_v hf hh (yv_move rfl) ?_; clear hf a; intro a hf
  refine o_v hf hh (yv_bin rfl rfl rfl) ?_; clear hf a; intro a hf
  refine o_v hf hh (y_pf rfl rfl) ?_; clear hf a; intro a hf
  refine o_v hf hh (yv_move rfl) ?_; clear hf a; intro a hf
  refine o_v hf hh (yv_move rfl) ?_; clear hf a; intro a hf
  refine o_v hf hh (yv_bin rfl rfl rfl) ?_; clear hf a; intro a hf
  refine o_v hf hh (y_pf rfl rfl) ?_; clear hf a; intro a hf
  refine o_v hf hh (yv_move rfl) ?_; clear hf a; intro a hf
  refine o_v hf hh (yv_move rfl) ?_; clear hf a; intro a hf
  refine o_v hf hh (yv_bin rfl rfl rfl) ?_; clear hf a; intro a hf
  refine o_v hf hh (y_pf rfl rfl) ?_; clear hf a; intro a hf
  refine o_v hf hh (yv_move rfl) ?_; clear hf a; intro a hf
  refine o_v hf hh (yv_move rfl) ?_; clear hf a; intro a hf
  refine o_v hf hh (yv_bin rfl rfl rfl) ?_; clear hf a; intro a hf
  refine o_v hf hh (y_pf rfl rfl) ?_; clear hf a; intro a hf
  refine o_v hf hh (yv_move rfl) ?_; clear hf a; intro a hf
  refine o_v hf hh (yv_move rfl) ?_; clear hf a; intro a hf
  refine o_v hf hh (yv_bin rfl rfl rfl) ?_; clear hf a; intro a hf
  refine o_v hf hh (y_pf rfl rfl) ?_; clear hf a; intro a hf
  refine o_v hf hh (yv_move rfl) ?_; clear hf a; intro a hf
  refine o_v hf hh (yv_move rfl) ?_; clear hf a; intro a hf
  refine o_v hf hh (yv_bin rfl rfl rfl) ?_; clear hf a; intro a hf
  refine o_v hf hh (y_pf rfl rfl) ?_; clear hf a; intro a hf
  refine o_end ?_
  refine c_f hf ?_
  refine sy_skip ?_
  refine then_n ?_
  refine sy_seq ?_
  refine sy_tree1 (.q 0 0 (.e1 1 (.p 2 (.p 3 (.p 4 (.p 5 (.p 6 (.p 7 (.q 0 8 (.e1 9 (.p 10 (.p 11 (.p 12 (.p 13 (.p 14 (.p 15 (.p 16 (.p 17 (.e1 18 (.e1 19 (.p 20 (.p 21 (.p 22 (.p 23 (.p 24 (.p 25 (.q 0 26 (.e1 27 (.p 28 (.p 29 (.p 30 (.p 31 (.p 32 (.p 33 (.p 34 (.fin)))))))))))))))))))))))))))))))))))) [] Try.follows (by kernel_rfl) hh (fun w hh => ?_)
  refine mc_q rfl rfl hh hf (y_lds Try.ag_43 rfl) (.inl rfl) rfl rfl ?_; clear hf a; intro a hf
  refine mc_e rfl fun Q1 => ?_
  refine o_call hf Try.en_36 rfl rfl rfl (p36 _ _ _) ?_; clear hf a; intro v a w hR hf
  obtain ⟨rfl, hx⟩ := hR; replace hh := hh.more hx; clear hx
  refine ops_end ?_
  refine then_n ⟨⟨fun _ _ => hh, trivial⟩, ?_⟩
  refine mc_p rfl   hf (yv_eqF [89, 148] [89, 148] fl43 rfl rfl) (.inl rfl) rfl rfl ?_; clear hf a; intro a hf
  refine mc_p rfl   hf (yv_move rfl) (.inl rfl) rfl rfl ?_; clear hf a; intro a hf
  refine mc_p rfl   hf (yv_move rfl) (gon rfl rfl rfl (by first | assumption | rfl | (simp; done) | (simp; omega))) rfl rfl ?_; clear hf a; intro a hf
  refine mc_p rfl   hf (yv_bin rfl rfl rfl) (gon rfl rfl rfl (by first | assumption | rfl | (simp; done) | (simp; omega))) rfl rfl ?_; clear hf a; intro a hf
  refine mc_p rfl   hf (y_pt rfl rfl) (.inl rfl) rfl rfl ?_; clear hf a; intro a hf
  refine mc_p rfl   hf (yv_move rfl) (.inl rfl) rfl rfl ?_; clear hf a; intro a hf
  refine mc_q rfl rfl hh hf (y_lds Try.ag_43 rfl) (gon rfl rfl rfl (by first | assumption | rfl | (simp; done) | (simp; omega))) rfl rfl ?_; clear hf a; intro a hf
  refine mc_e rfl fun Q1 => ?_
  refine o_call hf Try.en_36 rfl rfl rfl (p36 _ _ _) ?_; clear hf a; intro v a w hR hf
  obtain ⟨rfl, hx⟩ := hR; replace hh := hh.more hx; clear hx
  refine ops_end ?_
  refine then_n ⟨⟨fun _ _ => hh, trivial⟩, ?_⟩
  refine mc_p rfl   hf (yv_eqF [188, 197] [188, 197] fl43 rfl rfl) (gon rfl rfl rfl (by first | assumption | rfl | (simp; done) | (simp; omega))) rfl rfl ?_; clear hf a; intro a hf
  refine mc_p rfl   hf (y_pt rfl rfl) (.inl rfl) rfl rfl ?_; clear hf a; intro a hf
  refine mc_p rfl   hf (yv_move rfl) (.inl rfl) rfl rfl ?_; clear hf a; intro a hf
  refine mc_p rfl   hf (yv_move rfl) (gon rfl rfl rfl (by first | assumption | rfl | (simp; done) | (simp; omega))) rfl rfl ?_; clear hf a; intro a hf
  refine mc_p rfl   hf (yv_bin rfl rfl rfl) (gon rfl rfl rfl (by first | assumption | rfl | (simp; done) | (simp; omega))) rfl rfl ?_; clear hf a; intro a hf
  refine mc_p rfl   hf (y_pt rfl rfl) (.inl rfl) rfl rfl ?_; clear hf a; intro a hf
  refine mc_p rfl   hf (yv_move rfl) (.inl rfl) rfl rfl ?_; clear hf a; intro a hf
  refine mc_p rfl   hf (yv_move rfl) (gon rfl rfl rfl (by first | assumption | rfl | (simp; done) | (simp; omega))) rfl rfl ?_; clear hf a; intro a hf
  refine mc_e rfl fun Q1 => ?_
  refine ops_buildSl hf hh Try.bl_22_8 rfl rfl (gon rfl rfl rfl (by first | assumption | rfl | (simp; done) | (simp; omega))) rfl ?_; clear hf hh; clear a; intro B121 a w hf hh
  refine ops_end ?_
  refine then_n ⟨⟨fun _ _ => (hh.less (.cons _ (List.Sublist.refl _))), trivial⟩, ?_⟩
  refine mc_e rfl fun Q1 => ?_
  refine o_call hf Try.en_19 rfl rfl rfl (p19 [0, 0, 0, 0, 1, 1, 1, 1] [0, 0, 0, 0, 1, 1, 1, 1] oa7 _ cap7 _ _ (iat_own hO7 fun q hq => hh.get q (by simp [hq])) (iat_lit (hh.at (i := 0) rfl) rfl) (by decide)) ?_; clear hf a; intro v a w hR hf
  obtain ⟨rfl, hx⟩ := hR; replace hh := hh.more hx; clear hx
  refine ops_end ?_
  refine then_n ⟨⟨fun _ _ => (hh.less (.cons _ (List.Sublist.refl _))), trivial⟩, ?_⟩
  refine mc_p rfl   hf (y_pt rfl rfl) (.inl rfl) rfl rfl ?_; clear hf a; intro a hf
  refine mc_p rfl   hf (yv_move rfl) (.inl rfl) rfl rfl ?_; clear hf a; intro a hf
  refine mc_p rfl   hf (yv_move rfl) (gon rfl rfl rfl (by first | assumption | rfl | (simp; done) | (simp; omega))) rfl rfl ?_; clear hf a; intro a hf
  refine mc_p rfl   hf (yv_bin rfl rfl rfl) (gon rfl rfl rfl (by first | assumption | rfl | (simp; done) | (simp; omega))) rfl rfl ?_; clear hf a; intro a hf
  refine mc_p rfl   hf (y_pt rfl rfl) (.inl rfl) rfl rfl ?_; clear hf a; intro a hf
  refine mc_p rfl   hf (yv_move rfl) (.inl rfl) rfl rfl ?_; clear hf a; intro a hf
  refine mc_q rfl rfl (hh.less (.cons _ (List.Sublist.refl _))) hf (y_lds Try.ag_43 rfl) (gon rfl rfl rfl (by first | assumption | rfl | (simp; done) | (simp; omega))) rfl rfl ?_; clear hf a; intro a hf
  refine mc_e rfl fun Q1 => ?_
  refine o_call hf Try.en_36 rfl rfl rfl (p36 _ _ _) ?_; clear hf a; intro v a w hR hf
  obtain ⟨rfl, hx⟩ := hR; replace hh := hh.more hx; clear hx
  refine ops_end ?_
  refine then_n ⟨⟨fun _ _ => (hh.less (.cons _ (List.Sublist.refl _))), trivial⟩, ?_⟩
  refine mc_p rfl   hf (yv_eqF [198, 201] [198, 201] fl43 rfl rfl) (gon rfl rfl rfl (by first | assumption | rfl | (simp; done) | (simp; omega))) rfl rfl ?_; clear hf a; intro a hf
  refine mc_p rfl   hf (y_pt rfl rfl) (.inl rfl) rfl rfl ?_; clear hf a; intro a hf
  refine mc_p rfl   hf (yv_move rfl) (.inl rfl) rfl rfl ?_; clear hf a; intro a hf
  refine mc_p rfl   hf (yv_move rfl) (gon rfl rfl rfl (by first | assumption | rfl | (simp; done) | (simp; omega))) rfl rfl ?_; clear hf a; intro a hf
  refine mc_p rfl   hf (yv_bin rfl rfl rfl) (gon rfl rfl rfl (by first | assumption | rfl | (simp; done) | (simp; omega))) rfl rfl ?_; clear hf a; intro a hf
  refine mc_p rfl   hf (y_pt rfl rfl) (.inl rfl) rfl rfl ?_; clear hf a; intro a hf
  refine mc_p rfl   hf (yv_assign rfl) (.inl rfl) rfl rfl ?_; clear hf a; intro a hf
  refine mc_end ?_
  refine then_n ?_
  refine sy_ret ?_
  refine ret_r hf rfl rfl ?_
  exact ⟨rfl, hh.ext⟩
end Go.Proofs.Ytkfkifkdncdhoaa
namespace Go.Proofs.Ytkfkifkdncdhoaa
open Go Go.Sy Go.RoyM
theorem p6 (u : World) : Calls Try.prog 6 #[] u (Ret fun v w' => v = .bool true ∧ Ext [] u w') := by
  refine calls_of Try.func6 rfl rfl (fun a hf => ?_)
  have hh := Hp.init u []
  refine sy_sq ?_
  refine o_v hf hh (yv_assign rfl) ?_; clear hf a; intro a hf
  refine o_end ?_
  refine sy_sq ?_
  refine ops_buildSl hf hh Try.bl_22_3 rfl rfl (.inl rfl) rfl ?_; clear hf hh; clear a; intro B15 a w hf hh
  refine o_call hf Try.en_15 rfl rfl rfl (p15 600 [334, 333, 333] _ 3 _ (iat_lit (hh.at (i := 0) rfl) rfl) (by decide)) ?_; clear hf a; intro v a w hR hf
  rw [sx_sV2, sx_sE2] at hR
  obtain ⟨oa1, cap1, X1, rfl, hO1, hx⟩ := hR
  replace hh := (hh.join hx).perm List.perm_append_comm; clear hx
  refine o_v hf hh (yv_move rfl) ?_; clear hf a; intro a hf
  refine o_v hf hh (yv_extract rfl rfl) ?_; clear hf a; intro a hf
  refine o_v hf hh (yv_extract rfl rfl) ?_; clear hf a; intro a hf
  refine o_v hf hh (yv_assign rfl) ?_; clear hf a; intro a hf
  refine o_v hf hh (yv_assign rfl) ?_; clear hf a; intro a hf
  refine o_end ?_
  refine sy_sq ?_
  refine ops_buildSl hf hh Try.bl_22_3 rfl rfl (.inl rfl) rfl ?_; clear hf hh; clear a; intro B20 a w hf hh
  refine o_call hf Try.en_15 rfl rfl rfl (p15 595 [334, 333, 333] _ 3 _ (iat_lit (hh.at (i := 0) rfl) rfl) (by decide)) ?_; clear hf a; intro v a w hR hf
  rw [sx_sV3, sx_sE3] at hR
  obtain ⟨oa2, cap2, X2, rfl, hO2, hx⟩ := hR
  replace hh := (hh.join hx).perm List.perm_append_comm; clear hx
  refine o_v hf hh (yv_move rfl) ?_; clear hf a; intro a hf
  refine o_v hf hh (yv_extract rfl rfl) ?_; clear hf a; intro a hf
  refine o_v hf hh (yv_extract rfl rfl) ?_; clear hf a; intro a hf
  refine o_v hf hh (yv_assign rfl) ?_; clear hf a; intro a hf
  refine o_v hf hh (yv_assign rfl) ?_; clear hf a; intro a hf
  refine o_end ?_
  refine sy_sq ?_
  refine o_call hf Try.en_34 rfl rfl rfl (p34 _) ?_; clear hf a; intro v a w hR hf
  obtain ⟨Bt, rfl, hx⟩ := hR; replace hh := hh.join hx; clear hx
  refine o_v hf hh (y_ix Try.se_33 rfl rfl) ?_; clear hf a; intro a hf
  refine o_v hf hh (yv_cast (y_lds Try.ag_24 rfl) (show _ = tmV ⟨20, 3, 30⟩ from rfl)) ?_; clear hf a; intro a hf
  refine o_call hf Try.en_17 rfl rfl rfl (p17 ⟨20, 3, 30⟩ 99 4 _) ?_; clear hf a; intro v a w hR hf
  rw [sx_cW2, sx_cE2] at hR
  obtain ⟨rfl, hx⟩ := hR; replace hh := hh.more hx; clear hx
  refine o_v hf hh (yv_move rfl) ?_; clear hf a; intro a hf
  refine o_v hf hh (yv_extract rfl rfl) ?_; clear hf a; intro a hf
  refine o_v hf hh (yv_extract rfl rfl) ?_; clear hf a; intro a hf
  refine o_v hf hh (yv_assign rfl) ?_; clear hf a; intro a hf
  refine o_v hf hh (yv_assign rfl) ?_; clear hf a; intro a hf
  refine o_end ?_
  refine sy_sq ?_
  refine o_call hf Try.en_35 rfl rfl rfl (p35 _) ?_; clear hf a; intro v a w hR hf
  obtain ⟨pl4, rfl, hA4, hx⟩ := hR; replace hh := hh.more hx; clear hx
  refine o_call hf Try.en_23 rfl rfl rfl (p23 smpR pl4 0 0 _ hA4) ?_; clear hf a; intro v a w hR hf
  rw [sx_clV2, sx_clE2] at hR
  obtain ⟨rfl, hx⟩ := hR; replace hh := hh.more hx; clear hx
  refine o_v hf hh (yv_move rfl) ?_; clear hf a; intro a hf
  refine o_v hf hh (yv_extract rfl rfl) ?_; clear hf a; intro a hf
  refine o_v hf hh (yv_extract rfl rfl) ?_; clear hf a; intro a hf
  refine o_v hf hh (yv_extract rfl rfl) ?_; clear hf a; intro a hf
  refine o_v hf hh (yv_assign rfl) ?_; clear hf a; intro a hf
  refine o_v hf hh (yv_assign rfl) ?_; clear hf a; intro a hf
  refine o_v hf hh (yv_assign rfl) ?_; clear hf a; intro a hf
  refine o_end ?_
  refine sy_sq ?_
  refine o_call hf Try.en_35 rfl rfl rfl (p35 _) ?_; clear hf a; intro v a w hR hf
  obtain ⟨pl5, rfl, hA5, hx⟩ := hR; replace hh := hh.more hx; clear hx
  refine o_call hf Try.en_25 rfl rfl rfl (p25 smpR pl5 1 _ hA5) ?_; clear hf a; intro v a w hR hf
  rw [sx_oV2, sx_oE2] at hR
  obtain ⟨rfl, hx⟩ := hR; replace hh := hh.more hx; clear hx
  refine o_v hf hh (yv_move rfl) ?_; clear hf a; intro a hf
  refine o_v hf hh (yv_extract rfl rfl) ?_; clear hf a; intro a hf
  refine o_v hf hh (yv_extract rfl rfl) ?_; clear hf a; intro a hf
  refine o_alloc hf hh Try.ze_43 ?_; clear hf hh a; intro B10 a w hf hh
  refine o_store hf hh Try.sz_43 fun w hh => ?_
  refine o_v hf hh (yv_assign rfl) ?_; clear hf a; intro a hf
  refine o_end ?_
  refine sy_sq ?_
  refine o_call hf Try.en_35 rfl rfl rfl (p35 _) ?_; clear hf a; intro v a w hR hf
  obtain ⟨pl6, rfl, hA6, hx⟩ := hR; replace hh := hh.more hx; clear hx
  refine o_call hf Try.en_32 rfl rfl rfl (p32 smpR pl6 0 0 _ hA6) ?_; clear hf a; intro v a w hR hf
  rw [sx_gV2, sx_gE2] at hR
  obtain ⟨rfl, hx⟩ := hR; replace hh := hh.more hx; clear hx
  refine o_v hf hh (yv_move rfl) ?_; clear hf a; intro a hf
  refine o_v hf hh (yv_extract rfl rfl) ?_; clear hf a; intro a hf
  refine o_v hf hh (yv_extract rfl rfl) ?_; clear hf a; intro a hf
  refine o_alloc hf hh Try.ze_43 ?_; clear hf hh a; intro B12 a w hf hh
  refine o_store hf hh Try.sz_43 fun w hh => ?_
  refine o_v hf hh (yv_assign rfl) ?_; clear hf a; intro a hf
  refine o_end ?_
  refine sy_seq ?_
  refine sy_tree1 (.p 0 (.e1 1 (.p 2 (.p 3 (.p 4 (.e1 5 (.e1 6 (.p 7 (.p 8 (.p 9 (.p 10 (.p 11 (.p 12 (.p 13 (.e1 14 (.e1 15 (.p 16 (.p 17 (.p 18 (.p 19 (.p 20 (.p 21 (.p 22 (.p 23 (.p 24 (.p 25 (.p 26 (.p 27 (.p 28 (.p 29 (.p 30 (.p 31 (.p 32 (.p 33 (.p 34 (.p 35 (.p 36 (.p 37 (.p 38 (.p 39 (.p 40 (.p 41 (.q 0 42 (.e1 43 (.p 44 (.p 45 (.p 46 (.p 47 (.p 48 (.p 49 (.p 50 (.q 0 51 (.e1 52 (.p 53 (.p 54 (.p 55 (.p 56 (.p 57 (.p 58 (.p 59 (.fin))))))))))))))))))))))))))))))))))))))))))))))))))))))))))))) [] Try.follows (by kernel_rfl) hh (fun w hh => ?_)
  refine mc_p rfl   hf (yv_move rfl) (.inl rfl) rfl rfl ?_; clear hf a; intro a hf
  refine mc_e rfl fun Q1 => ?_
  refine o_call hf Try.en_14 rfl rfl rfl (p14 _) ?_; clear hf a; intro v a w hR hf
  obtain ⟨rfl, hx⟩ := hR; replace hh := hh.more hx; clear hx
  refine ops_end ?_
  refine then_n ⟨⟨fun _ _ => hh, trivial⟩, ?_⟩
  refine mc_p rfl   hf (y_pt rfl rfl) (.inl rfl) rfl rfl ?_; clear hf a; intro a hf
  refine mc_p rfl   hf (yv_move rfl) (.inl rfl) rfl rfl ?_; clear hf a; intro a hf
  refine mc_p rfl   hf (yv_move rfl) (gon rfl rfl rfl (by first | assumption | rfl | (simp; done) | (simp; omega))) rfl rfl ?_; clear hf a; intro a hf
  refine mc_e rfl fun Q1 => ?_
  refine ops_buildSl hf hh Try.bl_22_3 rfl rfl (gon rfl rfl rfl (by first | assumption | rfl | (simp; done) | (simp; omega))) rfl ?_; clear hf hh; clear a; intro B52 a w hf hh
  refine ops_end ?_
  refine then_n ⟨⟨fun _ _ => (hh.less (.cons _ (List.Sublist.refl _))), trivial⟩, ?_⟩
  refine mc_e rfl fun Q1 => ?_
  refine o_call hf Try.en_19 rfl rfl rfl (p19 [200, 200, 200] [200, 200, 200] oa1 _ cap1 _ _ (hO1.iat fun q hq => hh.get q (by simp [hq])) (iat_lit (hh.at (i := 0) rfl) rfl) (by decide)) ?_; clear hf a; intro v a w hR hf
  obtain ⟨rfl, hx⟩ := hR; replace hh := hh.more hx; clear hx
  refine ops_end ?_
  refine then_n ⟨⟨fun _ _ => (hh.less (.cons _ (List.Sublist.refl _))), trivial⟩, ?_⟩
  refine mc_p rfl   hf (y_pt rfl rfl) (.inl rfl) rfl rfl ?_; clear hf a; intro a hf
  refine mc_p rfl   hf (yv_move rfl) (.inl rfl) rfl rfl ?_; clear hf a; intro a hf
  refine mc_p rfl   hf (yv_move rfl) (gon rfl rfl rfl (by first | assumption | rfl | (simp; done) | (simp; omega))) rfl rfl ?_; clear hf a; intro a hf
  refine mc_p rfl   hf (yv_bin rfl rfl rfl) (gon rfl rfl rfl (by first | assumption | rfl | (simp; done) | (simp; omega))) rfl rfl ?_; clear hf a; intro a hf
  refine mc_p rfl   hf (y_pt rfl rfl) (.inl rfl) rfl rfl ?_; clear hf a; intro a hf
  refine mc_p rfl   hf (yv_move rfl) (.inl rfl) rfl rfl ?_; clear hf a; intro a hf
  refine mc_p rfl   hf (yv_move rfl) (gon rfl rfl rfl (by first | assumption | rfl | (simp; done) | (simp; omega))) rfl rfl ?_; clear hf a; intro a hf
  refine mc_e rfl fun Q1 => ?_
  refine ops_buildSl hf hh Try.bl_22_3 rfl rfl (gon rfl rfl rfl (by first | assumption | rfl | (simp; done) | (simp; omega))) rfl ?_; clear hf hh; clear a; intro B61 a w hf hh
  refine ops_end ?_
  refine then_n ⟨⟨fun _ _ => (hh.less (.cons _ (.cons _ (List.Sublist.refl _)))), trivial⟩, ?_⟩
  refine mc_e rfl fun Q1 => ?_
  refine o_call hf Try.en_19 rfl rfl rfl (p19 [199, 198, 198] [199, 198, 198] oa2 _ cap2 _ _ (hO2.iat fun q hq => hh.get q (by simp [hq])) (iat_lit (hh.at (i := 0) rfl) rfl) (by decide)) ?_; clear hf a; intro v a w hR hf
  obtain ⟨rfl, hx⟩ := hR; replace hh := hh.more hx; clear hx
  refine ops_end ?_
  refine then_n ⟨⟨fun _ _ => (hh.less (.cons _ (.cons _ (List.Sublist.refl _)))), trivial⟩, ?_⟩
  refine mc_p rfl   hf (y_pt rfl rfl) (.inl rfl) rfl rfl ?_; clear hf a; intro a hf
  refine mc_p rfl   hf (yv_move rfl) (.inl rfl) rfl rfl ?_; clear hf a; intro a hf
  refine mc_p rfl   hf (yv_move rfl) (gon rfl rfl rfl (by first | assumption | rfl | (simp; done) | (simp; omega))) rfl rfl ?_; clear hf a; intro a hf
  refine mc_p rfl   hf (yv_bin rfl rfl rfl) (gon rfl rfl rfl (by first | assumption | rfl | (simp; done) | (simp; omega))) rfl rfl ?_; clear hf a; intro a hf
  refine mc_p rfl   hf (y_pt rfl rfl) (.inl rfl) rfl rfl ?_; clear hf a; intro a hf
  refine mc_p rfl   hf (yv_move rfl) (.inl rfl) rfl rfl ?_; clear hf a; intro a hf
  refine mc_p rfl   hf (yv_move rfl) (gon rfl rfl rfl (by first | assumption | rfl | (simp; done) | (simp; omega))) rfl rfl ?_; clear hf a; intro a hf
  refine mc_p rfl   hf (yv_bin rfl rfl rfl) (gon rfl rfl rfl (by first | assumption | rfl | (simp; done) | (simp; omega))) rfl rfl ?_; clear hf a; intro a hf
  refine mc_p rfl   hf (y_pt rfl rfl) (.inl rfl) rfl rfl ?_; clear hf a; intro a hf
  refine mc_p rfl   hf (yv_move rfl) (.inl rfl) rfl rfl ?_; clear hf a; intro a hf
  refine mc_p rfl   hf (yv_move rfl) (gon rfl rfl rfl (by first | assumption | rfl | (simp; done) | (simp; omega))) rfl rfl ?_; clear hf a; intro a hf
  refine mc_p rfl   hf (yv_bin rfl rfl rfl) (gon rfl rfl rfl (by first | assumption | rfl | (simp; done) | (simp; omega))) rfl rfl ?_; clear hf a; intro a hf
  refine mc_p rfl   hf (y_pt rfl rfl) (.inl rfl) rfl rfl ?_; clear hf a; intro a hf
  refine mc_p rfl   hf (yv_move rfl) (.inl rfl) rfl rfl ?_; clear hf a; intro a hf
  refine mc_p rfl   hf (yv_move rfl) (gon rfl rfl rfl (by first | assumption | rfl | (simp; done) | (simp; omega))) rfl rfl ?_; clear hf a; intro a hf
  refine mc_p rfl   hf (yv_bin rfl rfl rfl) (gon rfl rfl rfl (by first | assumption | rfl | (simp; done) | (simp; omega))) rfl rfl ?_; clear hf a; intro a hf
  refine mc_p rfl   hf (y_pt rfl rfl) (.inl rfl) rfl rfl ?_; clear hf a; intro a hf
  refine mc_p rfl   hf (yv_move rfl) (.inl rfl) rfl rfl ?_; clear hf a; intro a hf
  refine mc_p rfl   hf (yv_move rfl) (gon rfl rfl rfl (by first | assumption | rfl | (simp; done) | (simp; omega))) rfl rfl ?_; clear hf a; intro a hf
  refine mc_p rfl   hf (yv_bin rfl rfl rfl) (gon rfl rfl rfl (by first | assumption | rfl | (simp; done) | (simp; omega))) rfl rfl ?_; clear hf a; intro a hf
  refine mc_p rfl   hf (y_pt rfl rfl) (.inl rfl) rfl rfl ?_; clear hf a; intro a hf
  refine mc_p rfl   hf (yv_move rfl) (.inl rfl) rfl rfl ?_; clear hf a; intro a hf
  refine mc_p rfl   hf (yv_move rfl) (gon rfl rfl rfl (by first | assumption | rfl | (simp; done) | (simp; omega))) rfl rfl ?_; clear hf a; intro a hf
  refine mc_p rfl   hf (yv_bin rfl rfl rfl) (gon rfl rfl rfl (by first | assumption | rfl | (simp; done) | (simp; omega))) rfl rfl ?_; clear hf a; intro a hf
  refine mc_p rfl   hf (y_pt rfl rfl) (.inl rfl) rfl rfl ?_; clear hf a; intro a hf
  refine mc_p rfl   hf (yv_move rfl) (.inl rfl) rfl rfl ?_; clear hf a; intro a hf
  refine mc_q rfl rfl (hh.less (.cons _ (.cons _ (List.Sublist.refl _)))) hf (y_lds Try.ag_43 rfl) (gon rfl rfl rfl (by first | assumption | rfl | (simp; done) | (simp; omega))) rfl rfl ?_; clear hf a; intro a hf
  refine mc_e rfl fun Q1 => ?_
  refine o_call hf Try.en_36 rfl rfl rfl (p36 _ _ _) ?_; clear hf a; intro v a w hR hf
  obtain ⟨rfl, hx⟩ := hR; replace hh := hh.more hx; clear hx
  refine ops_end ?_
  refine then_n ⟨⟨fun _ _ => (hh.less (.cons _ (.cons _ (List.Sublist.refl _)))), trivial⟩, ?_⟩
  refine mc_p rfl   hf (yv_eqF [49, 99] [49, 99] fl43 rfl rfl) (gon rfl rfl rfl (by first | assumption | rfl | (simp; done) | (simp; omega))) rfl rfl ?_; clear hf a; intro a hf
  refine mc_p rfl   hf (y_pt rfl rfl) (.inl rfl) rfl rfl ?_; clear hf a; intro a hf
  refine mc_p rfl   hf (yv_move rfl) (.inl rfl) rfl rfl ?_; clear hf a; intro a hf
  refine mc_p rfl   hf (yv_move rfl) (gon rfl rfl rfl (by first | assumption | rfl | (simp; done) | (simp; omega))) rfl rfl ?_; clear hf a; intro a hf
  refine mc_p rfl   hf (yv_bin rfl rfl rfl) (gon rfl rfl rfl (by first | assumption | rfl | (simp; done) | (simp; omega))) rfl rfl ?_; clear hf a; intro a hf
  refine mc_p rfl   hf (y_pt rfl rfl) (.inl rfl) rfl rfl ?_; clear hf a; intro a hf
  refine mc_p rfl   hf (yv_move rfl) (.inl rfl) rfl rfl ?_; clear hf a; intro a hf
  refine mc_q rfl rfl (hh.less (.cons _ (.cons _ (List.Sublist.refl _)))) hf (y_lds Try.ag_43 rfl) (gon rfl rfl rfl (by first | assumption | rfl | (simp; done) | (simp; omega))) rfl rfl ?_; clear hf a; intro a hf
  refine mc_e rfl fun Q1 => ?_
  refine o_call hf Try.en_36 rfl rfl rfl (p36 _ _ _) ?_; clear hf a; intro v a w hR hf
  obtain ⟨rfl, hx⟩ := hR; replace hh := hh.more hx; clear hx
  refine ops_end ?_
  refine then_n ⟨⟨fun _ _ => (hh.less (.cons _ (.cons _ (List.Sublist.refl _)))), trivial⟩, ?_⟩
  refine mc_p rfl   hf (yv_eqF [199, 202] [199, 202] fl43 rfl rfl) (gon rfl rfl rfl (by first | assumption | rfl | (simp; done) | (simp; omega))) rfl rfl ?_; clear hf a; intro a hf
  refine mc_p rfl   hf (y_pt rfl rfl) (.inl rfl) rfl rfl ?_; clear hf a; intro a hf
  refine mc_p rfl   hf (yv_move rfl) (.inl rfl) rfl rfl ?_; clear hf a; intro a hf
  refine mc_p rfl   hf (yv_move rfl) (gon rfl rfl rfl (by first | assumption | rfl | (simp; done) | (simp; omega))) rfl rfl ?_; clear hf a; intro a hf
  refine mc_p rfl   hf (yv_bin rfl rfl rfl) (gon rfl rfl rfl (by first | assumption | rfl | (simp; done) | (simp; omega))) rfl rfl ?_; clear hf a; intro a hf
  refine mc_p rfl   hf (y_pt rfl rfl) (.inl rfl) rfl rfl ?_; clear hf a; intro a hf
  refine mc_p rfl   hf (yv_assign rfl) (.inl rfl) rfl rfl ?_; clear hf a; intro a hf
  refine mc_end ?_
  refine then_n ?_
  refine sy_ret ?_
  refine ret_r hf rfl rfl ?_
  exact ⟨rfl, hh.ext⟩
theorem p51 (n l h : Int) (w : World) : Calls Try.prog 51 #[.int .i64 n, .int .i64 l, .int .i64 h] w (Ret fun v w' => v = .bool (inI n l h) ∧ Ext [] w w') := by
  refine calls_of Try.func51 rfl rfl (fun a hf => ?_)
  have hh := Hp.init w []
  refine sy_sq ?_
  refine o_v hf hh (yv_assign rfl) ?_; clear hf a; intro a hf
  refine o_end ?_
  refine sy_sq ?_
  refine o_v hf hh (yv_move rfl) ?_; clear hf a; intro a hf
  refine o_v hf hh (yv_move rfl) ?_; clear hf a; intro a hf
  refine o_v hf hh (yv_bin rfl rfl rfl) ?_; clear hf a; intro a hf
  refine o_v hf hh (yv_move rfl) ?_; clear hf a; intro a hf
  refine guard_split hf (t := 10) rfl (fun hg2 => ?_) (fun hg2 => ?_)
  ·have hG2 := hg2; try simp only [gS] at hG2
   refine o_v hf hh (yv_move rfl) ?_; clear hf a; intro a hf
   refine o_v hf hh (yv_move rfl) ?_; clear hf a; intro a hf
   refine o_v hf hh (yv_bin rfl rfl rfl) ?_; clear hf a; intro a hf
   refine o_v hf hh (y_pt rfl rfl) ?_; clear hf a; intro a hf
   refine o_v hf hh (yv_assign rfl) ?_; clear hf a; intro a hf
   refine o_end ?_
   refine sy_ret ?_
   refine ret_r hf rfl rfl ?_
   unfold inI
   first
     | (rw [decide_eq_true (show l ≤ n by omega), Bool.true_and]; exact ⟨rfl, hh.ext⟩)
     | (rw [decide_eq_false (show ¬ l ≤ n by omega), Bool.false_and]; exact ⟨rfl, hh.ext⟩)
  ·have hG2 := hg2; try simp only [gS] at hG2
   refine o_off hf ?_; clear hf a; intro a hf
   refine o_off hf ?_; clear hf a; intro a hf
   refine o_off hf ?_; clear hf a; intro a hf
   refine o_v hf hh (y_pf rfl rfl) ?_; clear hf a; intro a hf
   refine o_v hf hh (yv_assign rfl) ?_; clear hf a; intro a hf
   refine o_end ?_
   refine sy_ret ?_
   refine ret_r hf rfl rfl ?_
   unfold inI
   first
     | (rw [decide_eq_true (show l ≤ n by omega), Bool.true_and]; exact ⟨rfl, hh.ext⟩)
     | (rw [decide_eq_false (show ¬ l ≤ n by omega), Bool.false_and]; exact ⟨rfl, hh.ext⟩)
theorem p39 (t : TermD) (w : World) : Calls Try.prog 39 #[tmV t] w (Ret fun v w' => v = .bool (termB t) ∧ Ext [] w w') := by
  refine calls_of Try.func39 rfl rfl (fun a hf => ?_)
  have hh := Hp.init w []
  rw [termB_in]
  refine sy_sq ?_
  refine o_box hf hh ?_; clear hf hh a; intro B1 a w hf hh
  refine o_v hf hh (yv_assign rfl) ?_; clear hf a; intro a hf
  refine o_end ?_
  refine sy_sq ?_
  refine o_v hf hh (yv_fieldAddr Try.fo_24_0 rfl) ?_; clear hf a; intro a hf
  refine o_v hf hh (y_ld Try.sc_3 rfl) ?_; clear hf a; intro a hf
  refine o_call hf Try.en_51 rfl rfl rfl (p51 _ _ _ _) ?_; clear hf a; intro v a w hR hf
  obtain ⟨rfl, hx⟩ := hR; replace hh := hh.more hx; clear hx
  refine o_v hf hh (yv_move rfl) ?_; clear hf a; intro a hf
  refine guard_split hf (t := 6) rfl (fun hg2 => ?_) (fun hg2 => ?_)
  ·have hG2 := hg2; try simp only [gS] at hG2
   refine o_v hf hh (yv_fieldAddr Try.fo_24_2 rfl) ?_; clear hf a; intro a hf
   refine o_v hf hh (y_ld Try.sc_3 rfl) ?_; clear hf a; intro a hf
   refine o_call hf Try.en_51 rfl rfl rfl (p51 _ _ _ _) ?_; clear hf a; intro v a w hR hf
   obtain ⟨rfl, hx⟩ := hR; replace hh := hh.more hx; clear hx
   refine o_v hf hh (y_pt rfl rfl) ?_; clear hf a; intro a hf
   refine o_v hf hh (yv_move rfl) ?_; clear hf a; intro a hf
   refine guard_split hf (t := 11) rfl (fun hg4 => ?_) (fun hg4 => ?_)
   ·have hG4 := hg4; try simp only [gS] at hG4
    refine o_v hf hh (yv_fieldAddr Try.fo_24_1 rfl) ?_; clear hf a; intro a hf
    refine o_v hf hh (y_ld Try.sc_3 rfl) ?_; clear hf a; intro a hf
    refine o_call hf Try.en_51 rfl rfl rfl (p51 _ _ _ _) ?_; clear hf a; intro v a w hR hf
    obtain ⟨rfl, hx⟩ := hR; replace hh := hh.more hx; clear hx
    refine o_v hf hh (y_pt rfl rfl) ?_; clear hf a; intro a hf
    refine o_v hf hh (yv_assign rfl) ?_; clear hf a; intro a hf
    refine o_end ?_
    refine sy_ret ?_
    refine ret_r hf rfl rfl ?_
    refine ⟨congrArg Value.bool ?_, hh.ext⟩
    clear hf hh
    first
      | (simp_all; done)
      | (simp only [*, Bool.false_and, Bool.and_false, Bool.true_and, Bool.and_true, Bool.not_true, Bool.not_false]; done)
      | (rw [Bool.eq_iff_iff]; simp_all <;> omega)
   ·have hG4 := hg4; try simp only [gS] at hG4
    refine o_off hf ?_; clear hf a; intro a hf
    refine o_off hf ?_; clear hf a; intro a hf
    refine o_off hf ?_; clear hf a; intro a hf
    refine o_v hf hh (y_pf rfl rfl) ?_; clear hf a; intro a hf
    refine o_v hf hh (yv_assign rfl) ?_; clear hf a; intro a hf
    refine o_end ?_
    refine sy_ret ?_
    refine ret_r hf rfl rfl ?_
    refine ⟨congrArg Value.bool ?_, hh.ext⟩
    clear hf hh
    first
      | (simp_all; done)
      | (simp only [*, Bool.false_and, Bool.and_false, Bool.true_and, Bool.and_true, Bool.not_true, Bool.not_false]; done)
      | (rw [Bool.eq_iff_iff]; simp_all <;> omega)
  ·have hG2 := hg2; try simp only [gS] at hG2
   refine o_off hf ?_; clear hf a; intro a hf
   refine o_off hf ?_; clear hf a; intro a hf
   refine o_off hf ?_; clear hf a; intro a hf
   refine o_v hf hh (y_pf rfl rfl) ?_; clear hf a; intro a hf
   refine o_v hf hh (yv_move rfl) ?_; clear hf a; intro a hf
   refine o_off hf ?_; clear hf a; intro a hf
   refine o_off hf ?_; clear hf a; intro a hf
   refine o_off hf ?_; clear hf a; intro a hf
   refine o_v hf hh (y_pf rfl rfl) ?_; clear hf a; intro a hf
   refine o_v hf hh (yv_assign rfl) ?_; clear hf a; intro a hf
   refine o_end ?_
   refine sy_ret ?_
   refine ret_r hf rfl rfl ?_
   refine ⟨congrArg Value.bool ?_, hh.ext⟩
   clear hf hh
   first
     | (simp_all; done)
     | (simp only [*, Bool.false_and, Bool.and_false, Bool.true_and, Bool.and_true, Bool.not_true, Bool.not_false]; done)
     | (rw [Bool.eq_iff_iff]; simp_all <;> omega)
theorem all_take {l : List Int} {i : Nat} {x : Int} {f : Int → Bool} (h : (l.take i).all f = true) (hx : l[i]? = some x) (hf : f x = true) : (l.take (i + 1)).all f = true := by
  rw [List.take_add_one, hx, List.all_append, h]
  simp [hf]
theorem all_no {l : List Int} {i : Nat} {x : Int} {f : Int → Bool} (hx : l[i]? = some x) (hf : f x = false) : l.all f = false := by
  rw [List.all_eq_false]
  exact ⟨x, List.mem_of_getElem? hx, by rw [hf]; decide⟩
theorem p37 (l : List Int) (sa : Option Addr) (c0 : Nat) (u : World) (hA : IAt u sa l) (hl : l.length ≤ 1000) : Calls Try.prog 37 #[.slice sa l.length c0] u (Ret fun v w' => v = .bool (shB l) ∧ Ext [] u w') := by
  refine calls_of Try.func37 rfl rfl (fun a hf => ?_)
  have hh := Hp.init u []
  refine sy_sq ?_
  refine o_v hf hh (yv_assign rfl) ?_; clear hf a; intro a hf
  refine o_end ?_
  refine sy_sq ?_
  refine o_v hf hh (yv_assign rfl) ?_; clear hf a; intro a hf
  refine o_end ?_
  refine sy_seq ?_
  refine sy_sq ?_
  refine o_v hf hh (yv_assign rfl) ?_; clear hf a; intro a hf
  refine o_end ?_
  refine sy_block ?_
  refine sy_loopF (σ := Nat) [2, 3, 4, 5, 6, 7, 8, 9, 10, 11, 12, 13, 14, 15, 16, 17, 18, 19, 20, 21, 22] (fun i => [(3, .int .i64 (sumI (l.take i))), (4, .int .i64 (i : Nat))]) (fun i => i ≤ l.length ∧ (l.take i).all (fun s => inI s 0 1000) = true) (fun i => l.length - i) (0) hf hh ?_ ?_ ?_
  · repeat' (first | exact True.intro | refine And.intro rfl ?_)
  · exact ⟨Nat.zero_le _, rfl⟩
  ·rintro i a w ⟨hi, hT⟩ hf hh
   refine sy_seq ?_
   refine sy_sq ?_
   refine o_v hf hh (yv_move rfl) ?_; clear hf a; intro a hf
   refine o_v hf hh (yv_move rfl) ?_; clear hf a; intro a hf
   refine o_v hf hh (yv_len Try.se_22 rfl) ?_; clear hf a; intro a hf
   refine o_v hf hh (yv_bin rfl rfl rfl) ?_; clear hf a; intro a hf
   refine o_end ?_
   refine sy_cond hf rfl (fun hg2 => ?_) (fun hg2 => ?_)
   ·have hG2 := hg2; try simp only [gS] at hG2
    refine sy_skip ?_
    refine then_n ?_
    refine sy_seq ?_
    refine sy_block ?_
    refine sy_seq ?_
    refine sy_seq ?_
    obtain ⟨x, hx⟩ := ex_of (l := l) (i := i) (by omega)
    obtain ⟨blk, off, cc, T, fr, e, hb, hc⟩ := hA i x hx; subst e
    refine sy_ops ?_
    refine o_v hf hh (yv_move rfl) ?_; clear hf a; intro a hf
    refine o_v hf hh (yv_move rfl) ?_; clear hf a; intro a hf
    refine o_v hf hh (y_ix Try.se_22 rfl rfl) ?_; clear hf a; intro a hf
    refine o_v hf hh (y_ld Try.sc_3 rfl) ?_; clear hf a; intro a hf
    refine o_call hf Try.en_51 rfl rfl rfl (p51 _ _ _ _) ?_; clear hf a; intro v a w hR hf
    obtain ⟨rfl, hx⟩ := hR; replace hh := hh.more hx; clear hx
    refine o_v hf hh (yv_not rfl) ?_; clear hf a; intro a hf
    refine o_end ?_
    refine sy_cond hf rfl (fun hg4 => ?_) (fun hg4 => ?_)
    ·have hG4 := hg4; try simp only [gS] at hG4
     refine sy_sq ?_
     refine o_v hf hh (yv_assign rfl) ?_; clear hf a; intro a hf
     refine o_end ?_
     refine sy_ret ?_
     refine then_r ?_
     refine blk_r ?_
     refine then_r ?_
     refine then_r ?_
     refine blk_r ?_
     refine then_r ?_
     refine ret_r hf rfl rfl ?_
     refine ⟨congrArg Value.bool ?_, hh.ext⟩
     unfold shB
     rw [all_no (f := fun s => inI s 0 1000) hx (by simp_all), Bool.false_and, Bool.and_false]
    ·have hG4 := hg4; try simp only [gS] at hG4
     refine sy_skip ?_
     refine then_n ?_
     have hin : inI x 0 1000 = true := by simp_all
     have hxb := inI_bd hin
     have hs1 := take_bd (b := 1000) (l := l.take i) (fun y hy => by have := inI_bd (List.all_eq_true.1 hT y hy); omega) (by omega) i (by rw [List.length_take]; omega)
     rw [List.take_take, Nat.min_self] at hs1
     refine sy_ops ?_
     refine o_v hf hh (yv_move rfl) ?_; clear hf a; intro a hf
     refine o_v hf hh (yv_move rfl) ?_; clear hf a; intro a hf
     refine o_v hf hh (yv_move rfl) ?_; clear hf a; intro a hf
     refine o_v hf hh (y_ix Try.se_22 rfl rfl) ?_; clear hf a; intro a hf
     refine o_v hf hh (y_ld Try.sc_3 rfl) ?_; clear hf a; intro a hf
     refine o_v hf hh (y_add rfl rfl) ?_; clear hf a; intro a hf
     refine o_v hf hh (yv_assign rfl) ?_; clear hf a; intro a hf
     refine ops_end ?_
     refine blk_n ?_
     refine then_n ?_
     refine sy_ops ?_
     refine o_v hf hh (yv_move rfl) ?_; clear hf a; intro a hf
     refine o_v hf hh (y_add rfl rfl) ?_; clear hf a; intro a hf
     refine o_v hf hh (yv_assign rfl) ?_; clear hf a; intro a hf
     refine ops_end ?_
     refine then_n ?_
     exact ⟨i + 1, ⟨⟨by omega, all_take hT hx (by simp_all)⟩, hf.head ⟨congrArg some (intv (sumI_take hx).symm), rfl, True.intro⟩ (Keep.cons rfl (Keep.cons rfl (Keep.cons rfl (Keep.cons rfl (Keep.cons rfl (Keep.cons rfl (Keep.cons rfl (Keep.cons rfl (Keep.cons rfl (Keep.cons rfl (Keep.cons rfl (Keep.cons rfl (Keep.cons rfl (Keep.cons rfl (Keep.cons rfl (Keep.cons rfl (Keep.cons rfl (Keep.cons rfl (Keep.cons rfl (Keep.cons rfl (Keep.app rfl (Keep.rm rfl Keep.base)))))))))))))))))))))), hh⟩, by omega⟩
   ·have hG2 := hg2; try simp only [gS] at hG2
    refine sy_exit ?_
    refine then_e ?_
    refine then_e ?_
    refine blk_e ?_
    refine then_n ?_
    refine sy_seq ?_
    obtain rfl : i = l.length := by omega
    rw [List.take_length] at hT hf
    refine sy_ops ?_
    refine o_v hf hh (yv_move rfl) ?_; clear hf a; intro a hf
    refine o_v hf hh (yv_len Try.se_22 rfl) ?_; clear hf a; intro a hf
    refine o_call hf Try.en_51 rfl rfl rfl (p51 _ _ _ _) ?_; clear hf a; intro v a w hR hf
    obtain ⟨rfl, hx⟩ := hR; replace hh := hh.more hx; clear hx
    refine o_v hf hh (yv_move rfl) ?_; clear hf a; intro a hf
    refine guard_split hf (t := 26) rfl (fun hg6 => ?_) (fun hg6 => ?_)
    ·have hG6 := hg6; try simp only [gS] at hG6
     refine o_v hf hh (yv_move rfl) ?_; clear hf a; intro a hf
     refine o_v hf hh (yv_bin rfl rfl rfl) ?_; clear hf a; intro a hf
     refine o_v hf hh (y_pt rfl rfl) ?_; clear hf a; intro a hf
     refine o_v hf hh (yv_assign rfl) ?_; clear hf a; intro a hf
     refine o_end ?_
     refine sy_ret ?_
     refine ret_r hf rfl rfl ?_
     refine ⟨congrArg Value.bool ?_, hh.ext⟩
     unfold shB
     rw [hT, Bool.true_and]
     clear hf hh
     simp_all
    ·have hG6 := hg6; try simp only [gS] at hG6
     refine o_off hf ?_; clear hf a; intro a hf
     refine o_off hf ?_; clear hf a; intro a hf
     refine o_v hf hh (y_pf rfl rfl) ?_; clear hf a; intro a hf
     refine o_v hf hh (yv_assign rfl) ?_; clear hf a; intro a hf
     refine o_end ?_
     refine sy_ret ?_
     refine ret_r hf rfl rfl ?_
     refine ⟨congrArg Value.bool ?_, hh.ext⟩
     unfold shB
     rw [hT, Bool.true_and]
     clear hf hh
     simp_all
end Go.Proofs.Ytkfkifkdncdhoaa
namespace Go.RoyM
open Go Go.Sy
theorem splE_zero {n : Int} {l : List Int} (h : splE n l = 0) : inI n 0 1099511627776 = true ∧ shB l = true := by
  unfold splE splB at h
  cases h1 : inI n 0 1099511627776 <;> cases h2 : shB l <;> simp [h1, h2] at h ⊢
theorem splE_no {n : Int} {l : List Int} (h : ¬ splE n l = 0) : splV n l = [] ∧ splE n l = 1 ∧ (n < 0 ∨ 1099511627776 < n ∨ shB l = false) := by
  have hB : splB n l = false := by
    unfold splE at h
    cases h1 : splB n l
    · rfl
    · rw [h1] at h; exact absurd rfl h
  obtain ⟨h1, h2⟩ := splV_no hB
  refine ⟨h1, h2, ?_⟩
  unfold splB at hB
  cases h3 : shB l
  · exact .inr (.inr rfl)
  · rw [h3, Bool.and_true] at hB
    unfold inI at hB
    simp only [Bool.and_eq_false_iff, decide_eq_false_iff_not] at hB
    omega
theorem OwnN.pos {oa : Option Addr} {cap : Nat} {l : List Int} {H : List (Nat × Obj)} (h : OwnN oa cap l H) (hl : 1 ≤ l.length) : ∃ B cur, oa = some ⟨B, 0, none⟩ ∧ cap = l.length ∧ H = [(B, .cells cur 3 (0, 0))] ∧ CF cur l.length (fun j => l.getD j 0) := by
  rcases h with ⟨_, _, rfl, _⟩ | h
  · simp at hl
  · exact h
/-- A part: its share, rounded down, and a penny of those that are left, or none. -/
theorem split_at {n : Int} {l : List Int} {j : Nat} (h : j < l.length) : (splitL n l).getD j 0 = flo n (l.getD j 0) + moreN n l j := by
  rw [split_get h]; rfl
theorem split_bd {n : Int} {l : List Int} (h0 : 0 ≤ n) (h1 : n ≤ 1099511627776) (hS : ShOk l) {j : Nat} (h : j < l.length) : 0 ≤ (splitL n l).getD j 0 ∧ (splitL n l).getD j 0 ≤ 1099511627777 := by
  rw [split_get h]; exact out_bd h0 h1 hS.bd _ h
theorem split_mem {n : Int} {l : List Int} (h0 : 0 ≤ n) (h1 : n ≤ 1099511627776) (hS : ShOk l) : ∀ x ∈ splitL n l, -1099511627777 ≤ x ∧ x ≤ 1099511627777 := fun x hx => by
  obtain ⟨j, hj⟩ := List.mem_iff_getElem?.1 hx
  have hl := len_of hj
  rw [split_len] at hl
  have := split_bd h0 h1 hS hl
  rw [getD_at hj] at this
  omega
theorem split_take {n : Int} {l : List Int} (h0 : 0 ≤ n) (h1 : n ≤ 1099511627776) (hS : ShOk l) (i : Nat) : -1099511627777000 ≤ sumI ((splitL n l).take i) ∧ sumI ((splitL n l).take i) ≤ 1099511627777000 := by
  have := take_bd (split_mem h0 h1 hS) (by omega) i (by rw [split_len]; have := hS.n2; omega)
  omega
theorem sum_takeD {l : List Int} {i : Nat} (h : i < l.length) : sumI (l.take (i + 1)) = sumI (l.take i) + l.getD i 0 := by
  obtain ⟨x, hx⟩ := ex_of h
  rw [sumI_take hx, getD_at hx]
/-- Of two parts the one with the greater remainder, or the first of two with the same, has no fewer pence. -/
theorem more_facts {n : Int} {l : List Int} {i k : Nat} (hi : i < l.length) (hk : k < i) : (remF n l i < remF n l k → moreN n l i ≤ moreN n l k) ∧ (remF n l k < remF n l i → moreN n l k ≤ moreN n l i) ∧ (remF n l k = remF n l i → moreN n l i ≤ moreN n l k) :=
  ⟨fun h => more_ord (by omega) hi (.inl h), fun h => more_ord hi (by omega) (.inl h), fun h => more_ord (by omega) hi (.inr ⟨h, hk⟩)⟩
end Go.RoyM
namespace Go.RoyM
open Go Go.Sy
theorem ivs_CF {cur : Array Value} {l : List Int} {m : Nat} (hm : m = l.length) (hs : m ≤ cur.size) (h : cur.toList.take (m * 1) = ivs l) : CF cur l.length (fun j => l.getD j 0) := by
  subst hm
  refine ⟨hs, fun j hj => ?_⟩
  obtain ⟨x, hx⟩ := ex_of hj
  have h1 : (ivs l)[j]? = some (.int .i64 x) := by unfold ivs; rw [List.getElem?_map, hx]; rfl
  rw [← h, Nat.mul_one, List.getElem?_take, if_pos hj] at h1
  rw [Int.toNat_natCast, Nat.zero_add, Nat.mul_one, ← Array.getElem?_toList, h1]
  dsimp only
  rw [getD_at hx]
theorem take_snoc {l : List Int} {i : Nat} {x : Int} (h : l[i]? = some x) (f : Int → Int) : ivs ((l.take (i + 1)).map f) = ivs ((l.take i).map f) ++ [.int .i64 (f x)] := by
  rw [List.take_add_one, h, List.map_append, ivs_app]; rfl
theorem floors_take (n : Int) (l : List Int) (i : Nat) : (floors n l).take i = (l.take i).map (flo n) := by unfold floors; rw [List.map_take]
theorem floD {n : Int} {l : List Int} {j : Nat} (h : j < l.length) : (l.map (flo n)).getD j 0 = flo n (l.getD j 0) := by simp [List.getD, h]
theorem rmdD {n : Int} {l : List Int} {j : Nat} (h : j < l.length) : (l.map (rmd n)).getD j 0 = rmd n (l.getD j 0) := by simp [List.getD, h]
theorem bestN_le (f : Nat → Int) : ∀ {i m : Nat}, i ≤ m → 0 < m → bestN f i < m
  | 0, m, _, h => h
  | i + 1, m, h, h0 => by
    rw [bestN]
    split
    · omega
    · exact bestN_le f (by omega) h0
theorem rest_bd (n : Int) (l : List Int) (k i : Nat) : -1 ≤ restF n l k i ∧ restF n l k i < 1000 := by
  have := rem_nn n l i
  unfold restF
  split <;> omega
end Go.RoyM
namespace Go.Proofs.Ytkfkifkdncdhoaa
open Go Go.Sy Go.RoyM
theorem p54 (t : TermD) (ht : TermOk t) (price many : Int) (hp0 : 0 ≤ price) (hp1 : price ≤ 1048576) (hm0 : 0 ≤ many) (hm1 : many ≤ 12) (u : World) : Calls Try.prog 54 #[tmV t, .int .i64 price, .int .i64 many] u (Ret fun v w' => v = .int .i64 (comV t price many) ∧ Ext [] u w') := by
  refine calls_of Try.func54 rfl rfl (fun a hf => ?_)
  have hh := Hp.init u []
  obtain ⟨m, rfl⟩ : ∃ m : Nat, many = m := ⟨many.toNat, by omega⟩
  have hf0 := ht.f0; have hf1 := ht.f1; have hb0 := ht.b0; have hb1 := ht.b1
  have hpn : ∀ i : Nat, 0 ≤ perR t i ∧ perR t i ≤ 100 * i := fun i => by rw [perR_eq ht.u0 i]; exact perN_bd ht (Int.natCast_nonneg i)
  refine sy_sq ?_
  refine o_box hf hh ?_; clear hf hh a; intro B3 a w hf hh
  refine o_v hf hh (yv_assign rfl) ?_; clear hf a; intro a hf
  refine o_end ?_
  refine sy_sq ?_
  refine o_v hf hh (yv_assign rfl) ?_; clear hf a; intro a hf
  refine o_end ?_
  refine sy_seq ?_
  refine sy_sq ?_
  refine o_v hf hh (yv_assign rfl) ?_; clear hf a; intro a hf
  refine o_end ?_
  refine sy_block ?_
  refine sy_loopF (σ := Nat) [7, 8, 9, 10, 11, 12, 13, 14, 15, 16, 17, 18, 19, 20, 21, 22, 23, 24, 25] (fun i => [(7, .int .i64 (perR t i)), (8, .int .i64 (i : Nat))]) (fun i => i ≤ m) (fun i => m - i) (0) hf hh ?_ ?_ ?_
  · repeat' (first | exact True.intro | refine And.intro rfl ?_)
  · exact Nat.zero_le _
  ·rintro i a w hi hf hh
   have hq := hpn i
   refine sy_seq ?_
   refine sy_sq ?_
   refine o_v hf hh (yv_move rfl) ?_; clear hf a; intro a hf
   refine o_v hf hh (yv_move rfl) ?_; clear hf a; intro a hf
   refine o_v hf hh (yv_bin rfl rfl rfl) ?_; clear hf a; intro a hf
   refine o_end ?_
   refine sy_cond hf rfl (fun hg2 => ?_) (fun hg2 => ?_)
   ·have hG2 := hg2; try simp only [gS] at hG2
    refine sy_skip ?_
    refine then_n ?_
    refine sy_seq ?_
    refine sy_block ?_
    refine sy_sq ?_
    refine o_v hf hh (yv_move rfl) ?_; clear hf a; intro a hf
    refine o_v hf hh (yv_fieldAddr Try.fo_24_1 rfl) ?_; clear hf a; intro a hf
    refine o_v hf hh (y_ld Try.sc_3 rfl) ?_; clear hf a; intro a hf
    refine o_v hf hh (yv_bin rfl rfl rfl) ?_; clear hf a; intro a hf
    refine o_end ?_
    refine sy_cond hf rfl (fun hg4 => ?_) (fun hg4 => ?_)
    ·have hG4 := hg4; try simp only [gS] at hG4
     refine sy_ops ?_
     refine o_v hf hh (yv_move rfl) ?_; clear hf a; intro a hf
     refine o_v hf hh (yv_fieldAddr Try.fo_24_0 rfl) ?_; clear hf a; intro a hf
     refine o_v hf hh (y_ld Try.sc_3 rfl) ?_; clear hf a; intro a hf
     refine o_v hf hh (y_add rfl rfl) ?_; clear hf a; intro a hf
     refine o_v hf hh (yv_assign rfl) ?_; clear hf a; intro a hf
     refine ops_end ?_
     refine blk_n ?_
     refine then_n ?_
     refine sy_ops ?_
     refine o_v hf hh (yv_move rfl) ?_; clear hf a; intro a hf
     refine o_v hf hh (y_add rfl rfl) ?_; clear hf a; intro a hf
     refine o_v hf hh (yv_assign rfl) ?_; clear hf a; intro a hf
     refine ops_end ?_
     refine then_n ?_
     first
       | exact ⟨i + 1, ⟨by omega, hf.head ⟨congrArg some (intv (by rw [perR, if_pos (by assumption)])), rfl, True.intro⟩ (Keep.cons rfl (Keep.cons rfl (Keep.cons rfl (Keep.cons rfl (Keep.cons rfl (Keep.cons rfl (Keep.cons rfl (Keep.cons rfl (Keep.cons rfl (Keep.cons rfl (Keep.cons rfl (Keep.cons rfl (Keep.cons rfl (Keep.cons rfl (Keep.cons rfl (Keep.app rfl (Keep.rm rfl Keep.base))))))))))))))))), hh⟩, by omega⟩
       | exact ⟨i + 1, ⟨by omega, hf.head ⟨congrArg some (intv (by rw [perR, if_neg (by omega)])), rfl, True.intro⟩ (Keep.cons rfl (Keep.cons rfl (Keep.cons rfl (Keep.cons rfl (Keep.cons rfl (Keep.cons rfl (Keep.cons rfl (Keep.cons rfl (Keep.cons rfl (Keep.cons rfl (Keep.cons rfl (Keep.cons rfl (Keep.cons rfl (Keep.cons rfl (Keep.cons rfl (Keep.app rfl (Keep.rm rfl Keep.base))))))))))))))))), hh⟩, by omega⟩
    ·have hG4 := hg4; try simp only [gS] at hG4
     refine sy_ops ?_
     refine o_v hf hh (yv_move rfl) ?_; clear hf a; intro a hf
     refine o_v hf hh (yv_fieldAddr Try.fo_24_2 rfl) ?_; clear hf a; intro a hf
     refine o_v hf hh (y_ld Try.sc_3 rfl) ?_; clear hf a; intro a hf
     refine o_v hf hh (y_add rfl rfl) ?_; clear hf a; intro a hf
     refine o_v hf hh (yv_assign rfl) ?_; clear hf a; intro a hf
     refine ops_end ?_
     refine blk_n ?_
     refine then_n ?_
     refine sy_ops ?_
     refine o_v hf hh (yv_move rfl) ?_; clear hf a; intro a hf
     refine o_v hf hh (y_add rfl rfl) ?_; clear hf a; intro a hf
     refine o_v hf hh (yv_assign rfl) ?_; clear hf a; intro a hf
     refine ops_end ?_
     refine then_n ?_
     first
       | exact ⟨i + 1, ⟨by omega, hf.head ⟨congrArg some (intv (by rw [perR, if_pos (by assumption)])), rfl, True.intro⟩ (Keep.cons rfl (Keep.cons rfl (Keep.cons rfl (Keep.cons rfl (Keep.cons rfl (Keep.cons rfl (Keep.cons rfl (Keep.cons rfl (Keep.cons rfl (Keep.cons rfl (Keep.cons rfl (Keep.cons rfl (Keep.cons rfl (Keep.cons rfl (Keep.cons rfl (Keep.app rfl (Keep.rm rfl Keep.base))))))))))))))))), hh⟩, by omega⟩
       | exact ⟨i + 1, ⟨by omega, hf.head ⟨congrArg some (intv (by rw [perR, if_neg (by omega)])), rfl, True.intro⟩ (Keep.cons rfl (Keep.cons rfl (Keep.cons rfl (Keep.cons rfl (Keep.cons rfl (Keep.cons rfl (Keep.cons rfl (Keep.cons rfl (Keep.cons rfl (Keep.cons rfl (Keep.cons rfl (Keep.cons rfl (Keep.cons rfl (Keep.cons rfl (Keep.cons rfl (Keep.app rfl (Keep.rm rfl Keep.base))))))))))))))))), hh⟩, by omega⟩
   ·have hG2 := hg2; try simp only [gS] at hG2
    refine sy_exit ?_
    refine then_e ?_
    refine then_e ?_
    refine blk_e ?_
    refine then_n ?_
    refine sy_seq ?_
    obtain rfl : i = m := by omega
    obtain ⟨hq0, hq1⟩ := hpn i
    have hqm : perR t i * price ≤ 1200 * 1048576 := Int.le_trans (Int.mul_le_mul_of_nonneg_right (show perR t i ≤ 1200 by omega) hp0) (Int.mul_le_mul_of_nonneg_left hp1 (by omega))
    have hqz : 0 ≤ perR t i * price := Int.mul_nonneg hq0 hp0
    refine sy_ops ?_
    refine o_v hf hh (yv_move rfl) ?_; clear hf a; intro a hf
    refine o_v hf hh (yv_move rfl) ?_; clear hf a; intro a hf
    refine o_v hf hh (y_mul rfl rfl) ?_; clear hf a; intro a hf
    refine o_v hf hh (yv_quo rfl rfl (by omega) (by omega) (by omega)) ?_; clear hf a; intro a hf
    refine o_v hf hh (yv_assign rfl) ?_; clear hf a; intro a hf
    refine o_end ?_
    refine sy_ret ?_
    refine ret_r hf rfl rfl ?_
    exact ⟨intv (by unfold comV; rw [perR_eq ht.u0 i]), hh.ext⟩
theorem p18 (t : TermD) (price many : Int) (u : World) : Calls Try.prog 18 #[tmV t, .int .i64 price, .int .i64 many] u (Ret fun v w' => v = .tuple #[.int .i64 (comW t price many), .int .i64 (comE t price many)] ∧ Ext [] u w') := by
  refine calls_of Try.func18 rfl rfl (fun a hf => ?_)
  have hh := Hp.init u []
  refine sy_sq ?_
  refine o_box hf hh ?_; clear hf hh a; intro B3 a w hf hh
  refine o_v hf hh (yv_assign rfl) ?_; clear hf a; intro a hf
  refine o_v hf hh (yv_assign rfl) ?_; clear hf a; intro a hf
  refine o_end ?_
  refine sy_seq ?_
  refine sy_sq ?_
  refine o_v hf hh (y_lds Try.ag_24 rfl) ?_; clear hf a; intro a hf
  refine o_call hf Try.en_39 rfl rfl rfl (p39 t _) ?_; clear hf a; intro v a w hR hf
  obtain ⟨rfl, hx⟩ := hR; replace hh := hh.more hx; clear hx
  refine o_v hf hh (yv_not rfl) ?_; clear hf a; intro a hf
  refine o_v hf hh (yv_move rfl) ?_; clear hf a; intro a hf
  refine guard_split hf (t := 11) rfl (fun hg2 => ?_) (fun hg2 => ?_)
  ·have hG2 := hg2; try simp only [gS] at hG2
   refine o_off hf ?_; clear hf a; intro a hf
   refine o_off hf ?_; clear hf a; intro a hf
   refine o_off hf ?_; clear hf a; intro a hf
   refine o_v hf hh (y_pt rfl rfl) ?_; clear hf a; intro a hf
   refine o_v hf hh (yv_move rfl) ?_; clear hf a; intro a hf
   refine o_off hf ?_; clear hf a; intro a hf
   refine o_off hf ?_; clear hf a; intro a hf
   refine o_off hf ?_; clear hf a; intro a hf
   refine o_v hf hh (y_pt rfl rfl) ?_; clear hf a; intro a hf
   refine o_end ?_
   refine c_t hf ?_
   refine sy_sq ?_
   refine o_v hf hh (yv_assign rfl) ?_; clear hf a; intro a hf
   refine o_v hf hh (yv_assign rfl) ?_; clear hf a; intro a hf
   refine o_end ?_
   refine sy_ret ?_
   refine then_r ?_
   refine ret_r hf rfl rfl ?_
   refine ⟨?_, hh.ext⟩
   first
     | (have e : comB t price many = true := by rw [comB_in, h1, h2, h3]; rfl
        unfold comW comE; rw [e]; rfl)
     | (have e : comB t price many = false := by rw [comB_in]; simp_all
        unfold comW comE; rw [e]; rfl)
  ·have hG2 := hg2; try simp only [gS] at hG2
   refine o_v hf hh (yv_move rfl) ?_; clear hf a; intro a hf
   refine o_call hf Try.en_51 rfl rfl rfl (p51 _ _ _ _) ?_; clear hf a; intro v a w hR hf
   obtain ⟨rfl, hx⟩ := hR; replace hh := hh.more hx; clear hx
   refine o_v hf hh (yv_not rfl) ?_; clear hf a; intro a hf
   refine o_v hf hh (y_pf rfl rfl) ?_; clear hf a; intro a hf
   refine o_v hf hh (yv_move rfl) ?_; clear hf a; intro a hf
   refine guard_split hf (t := 16) rfl (fun hg4 => ?_) (fun hg4 => ?_)
   ·have hG4 := hg4; try simp only [gS] at hG4
    refine o_off hf ?_; clear hf a; intro a hf
    refine o_off hf ?_; clear hf a; intro a hf
    refine o_off hf ?_; clear hf a; intro a hf
    refine o_v hf hh (y_pt rfl rfl) ?_; clear hf a; intro a hf
    refine o_end ?_
    refine c_t hf ?_
    refine sy_sq ?_
    refine o_v hf hh (yv_assign rfl) ?_; clear hf a; intro a hf
    refine o_v hf hh (yv_assign rfl) ?_; clear hf a; intro a hf
    refine o_end ?_
    refine sy_ret ?_
    refine then_r ?_
    refine ret_r hf rfl rfl ?_
    refine ⟨?_, hh.ext⟩
    first
      | (have e : comB t price many = true := by rw [comB_in, h1, h2, h3]; rfl
         unfold comW comE; rw [e]; rfl)
      | (have e : comB t price many = false := by rw [comB_in]; simp_all
         unfold comW comE; rw [e]; rfl)
   ·have hG4 := hg4; try simp only [gS] at hG4
    refine o_v hf hh (yv_move rfl) ?_; clear hf a; intro a hf
    refine o_call hf Try.en_51 rfl rfl rfl (p51 _ _ _ _) ?_; clear hf a; intro v a w hR hf
    obtain ⟨rfl, hx⟩ := hR; replace hh := hh.more hx; clear hx
    refine o_v hf hh (yv_not rfl) ?_; clear hf a; intro a hf
    refine o_v hf hh (y_pf rfl rfl) ?_; clear hf a; intro a hf
    refine o_end ?_
    refine sy_cond hf rfl (fun hg6 => ?_) (fun hg6 => ?_)
    ·have hG6 := hg6; try simp only [gS] at hG6
     refine sy_sq ?_
     refine o_v hf hh (yv_assign rfl) ?_; clear hf a; intro a hf
     refine o_v hf hh (yv_assign rfl) ?_; clear hf a; intro a hf
     refine o_end ?_
     refine sy_ret ?_
     refine then_r ?_
     refine ret_r hf rfl rfl ?_
     refine ⟨?_, hh.ext⟩
     first
       | (have e : comB t price many = true := by rw [comB_in, h1, h2, h3]; rfl
          unfold comW comE; rw [e]; rfl)
       | (have e : comB t price many = false := by rw [comB_in]; simp_all
          unfold comW comE; rw [e]; rfl)
    ·have hG6 := hg6; try simp only [gS] at hG6
     refine sy_skip ?_
     refine then_n ?_
     refine sy_seq ?_
     have h1 : termB t = true := by assumption
     have h2 : inI price 0 1048576 = true := by assumption
     have h3 : inI many 0 12 = true := by assumption
     have b2 := inI_bd h2
     have b3 := inI_bd h3
     refine sy_ops ?_
     refine o_v hf hh (y_lds Try.ag_24 rfl) ?_; clear hf a; intro a hf
     refine o_v hf hh (yv_move rfl) ?_; clear hf a; intro a hf
     refine o_v hf hh (yv_move rfl) ?_; clear hf a; intro a hf
     refine o_call hf Try.en_54 rfl rfl rfl (p54 t (termB_iff.1 h1) price many b2.1 b2.2 b3.1 b3.2 _) ?_; clear hf a; intro v a w hR hf
     obtain ⟨rfl, hx⟩ := hR; replace hh := hh.more hx; clear hx
     refine o_v hf hh (yv_assign rfl) ?_; clear hf a; intro a hf
     refine o_v hf hh (yv_assign rfl) ?_; clear hf a; intro a hf
     refine o_end ?_
     refine sy_ret ?_
     refine ret_r hf rfl rfl ?_
     refine ⟨?_, hh.ext⟩
     first
       | (have e : comB t price many = true := by rw [comB_in, h1, h2, h3]; rfl
          unfold comW comE; rw [e]; rfl)
       | (have e : comB t price many = false := by rw [comB_in]; simp_all
          unfold comW comE; rw [e]; rfl)
set_option maxRecDepth 100000 in
set_option maxHeartbeats 4000000 in
theorem p16 (n : Int) (l : List Int) (sa : Option Addr) (c0 : Nat) (u : World) (hA : IAt u sa l) (hl : l.length ≤ 1000) : Calls Try.prog 16 #[.int .i64 n, .slice sa l.length c0] u (Ret fun v w' => ∃ oa cap, v = .tuple #[.slice oa (splV n l).length cap, .int .i64 (splE n l)] ∧ IAt w' oa (splV n l) ∧ (∀ B off, oa = some ⟨B, off, none⟩ → u.heap.size ≤ B) ∧ Ext [] u w') := by
  refine calls_of Try.func16 rfl rfl (fun a hf => ?_)
  have hh := Hp.init u []
  refine sy_sq ?_
  refine o_v hf hh (yv_assign rfl) ?_; clear hf a; intro a hf
  refine o_v hf hh (yv_assign rfl) ?_; clear hf a; intro a hf
  refine o_end ?_
  refine sy_seq ?_
  refine sy_sq ?_
  refine o_v hf hh (yv_move rfl) ?_; clear hf a; intro a hf
  refine o_call hf Try.en_51 rfl rfl rfl (p51 _ _ _ _) ?_; clear hf a; intro v a w hR hf
  obtain ⟨rfl, hx⟩ := hR; replace hh := hh.more hx; clear hx
  refine o_v hf hh (yv_not rfl) ?_; clear hf a; intro a hf
  refine o_v hf hh (yv_move rfl) ?_; clear hf a; intro a hf
  refine guard_split hf (t := 15) rfl (fun hg2 => ?_) (fun hg2 => ?_)
  ·have hG2 := hg2; try simp only [gS] at hG2
   refine o_off hf ?_; clear hf a; intro a hf
   refine o_off hf ?_; clear hf a; intro a hf
   refine o_off hf ?_; clear hf a; intro a hf
   refine o_v hf hh (y_pt rfl rfl) ?_; clear hf a; intro a hf
   refine o_end ?_
   refine c_t hf ?_
   refine sy_sq ?_
   refine o_v hf hh (yv_assign rfl) ?_; clear hf a; intro a hf
   refine o_v hf hh (yv_assign rfl) ?_; clear hf a; intro a hf
   refine o_end ?_
   refine sy_ret ?_
   refine then_r ?_
   refine ret_r hf rfl rfl ?_
   first
     | (obtain ⟨e1, e2⟩ := splV_no (n := n) (l := l) (by unfold splB; simp_all)
        exact ⟨none, 0, by rw [e1, e2]; rfl, by rw [e1]; (intro i x hi; simp at hi), fun B off h => by (cases h), hh.ext⟩)
     | (obtain rfl : k = leftN n l := by omega
        exact ⟨some ⟨B6, 0, none⟩, c6, by rw [e1, e2, split_len]; rfl, by rw [e1]; exact CF.iat (by rw [split_len]; exact hC6.congr fun z hz => (split_get hz).symm) (hh.at (i := 0) rfl), fun B off h => by (cases h; rcases hh.mine _ (.head _) with h1 | h1; exact h1; cases h1), hh.ext⟩)
     | omega
  ·have hG2 := hg2; try simp only [gS] at hG2
   refine o_v hf hh (yv_move rfl) ?_; clear hf a; intro a hf
   refine o_call hf Try.en_37 rfl rfl rfl (p37 l sa c0 _ (hA.ext hh.ext) hl) ?_; clear hf a; intro v a w hR hf
   obtain ⟨rfl, hx⟩ := hR; replace hh := hh.more hx; clear hx
   refine o_v hf hh (yv_not rfl) ?_; clear hf a; intro a hf
   refine o_v hf hh (y_pf rfl rfl) ?_; clear hf a; intro a hf
   refine o_end ?_
   refine sy_cond hf rfl (fun hg4 => ?_) (fun hg4 => ?_)
   ·have hG4 := hg4; try simp only [gS] at hG4
    refine sy_sq ?_
    refine o_v hf hh (yv_assign rfl) ?_; clear hf a; intro a hf
    refine o_v hf hh (yv_assign rfl) ?_; clear hf a; intro a hf
    refine o_end ?_
    refine sy_ret ?_
    refine then_r ?_
    refine ret_r hf rfl rfl ?_
    first
      | (obtain ⟨e1, e2⟩ := splV_no (n := n) (l := l) (by unfold splB; simp_all)
         exact ⟨none, 0, by rw [e1, e2]; rfl, by rw [e1]; (intro i x hi; simp at hi), fun B off h => by (cases h), hh.ext⟩)
      | (obtain rfl : k = leftN n l := by omega
         exact ⟨some ⟨B6, 0, none⟩, c6, by rw [e1, e2, split_len]; rfl, by rw [e1]; exact CF.iat (by rw [split_len]; exact hC6.congr fun z hz => (split_get hz).symm) (hh.at (i := 0) rfl), fun B off h => by (cases h; rcases hh.mine _ (.head _) with h1 | h1; exact h1; cases h1), hh.ext⟩)
      | omega
   ·have hG4 := hg4; try simp only [gS] at hG4
    refine sy_skip ?_
    refine then_n ?_
    refine sy_seq ?_
    have hin : inI n 0 1099511627776 = true := by assumption
    have hsh : shB l = true := by assumption
    obtain ⟨hn0, hn1⟩ := inI_bd hin
    have hS := shB_iff.1 hsh
    have hs1 := hS.n1; have hs2 := hS.n2; have hsb := hS.bd
    obtain ⟨e1, e2⟩ := splV_ok hin hsh
    have hlb := left_bd (n := n) hS
    have hlk : ((leftN n l : Nat) : Int) = n - sumI (floors n l) := by unfold leftN; omega
    have hlf : leftN n l < l.length := by omega
    refine sy_ops ?_
    refine o_v hf hh (yv_assign rfl) ?_; clear hf a; intro a hf
    refine o_v hf hh (yv_assign rfl) ?_; clear hf a; intro a hf
    refine o_end ?_
    refine sy_sq ?_
    refine o_v hf hh (yv_move rfl) ?_; clear hf a; intro a hf
    refine o_v hf hh (yv_assign rfl) ?_; clear hf a; intro a hf
    refine o_end ?_
    refine sy_seq ?_
    refine sy_sq ?_
    refine o_v hf hh (yv_assign rfl) ?_; clear hf a; intro a hf
    refine o_end ?_
    refine sy_block ?_
    refine sy_loopH (σ := Nat × Value × List (Nat × Obj) × Value × List (Nat × Obj)) [6, 7, 8, 9, 21, 22, 23, 24, 25, 26, 27, 28, 29, 30, 31, 32, 33, 34, 35, 36, 37, 38, 39, 40, 41, 42, 43, 44, 45, 46, 47, 48, 49, 50, 51, 52] (fun s => [(6, s.2.1), (7, s.2.2.2.1), (8, .int .i64 (n - sumI ((floors n l).take s.1))), (9, .int .i64 (s.1 : Nat))]) (fun s => fun w' => s.1 ≤ l.length ∧ OwnSl 3 1 s.2.1 s.1 (ivs ((l.take s.1).map (flo n))) s.2.2.1 ∧ OwnSl 3 1 s.2.2.2.1 s.1 (ivs ((l.take s.1).map (rmd n))) s.2.2.2.2 ∧ Hp u [] (s.2.2.1 ++ s.2.2.2.2) w') (fun s => l.length - s.1) ((0, .slice none 0 0, [], .slice none 0 0, [])) hf ?_ ?_ ?_
    · exact ⟨rfl, rfl, congrArg some (intv (by simp [sumI])), rfl, True.intro⟩
    · exact ⟨Nat.zero_le _, OwnSl.nil _ _, OwnSl.nil _ _, hh⟩
    ·rintro s a w ⟨hi, hO6, hO7, hh⟩ hf
     obtain ⟨i, v6, X6, v7, X7⟩ := s; simp only at hi hO6 hO7 hh hf ⊢
     refine sy_seq ?_
     refine sy_sq ?_
     refine o_v hf hh (yv_move rfl) ?_; clear hf a; intro a hf
     refine o_v hf hh (yv_move rfl) ?_; clear hf a; intro a hf
     refine o_v hf hh (yv_len Try.se_22 rfl) ?_; clear hf a; intro a hf
     refine o_v hf hh (yv_bin rfl rfl rfl) ?_; clear hf a; intro a hf
     refine o_end ?_
     refine sy_cond hf rfl (fun hg6 => ?_) (fun hg6 => ?_)
     ·have hG6 := hg6; try simp only [gS] at hG6
      refine sy_skip ?_
      refine then_n ?_
      refine sy_seq ?_
      refine sy_block ?_
      refine sy_seq ?_
      obtain ⟨x, hx⟩ := ex_of (l := l) (i := i) (by omega)
      obtain ⟨blk, off, cc, T, fr, e, hb, hc⟩ := hA i x hx; subst e
      have hxs := hsb x (List.mem_of_getElem? hx)
      have hmu := mul_facts hn0 hn1 hxs
      have hfb := flo_bd hn0 hn1 hxs
      have hfx : flo n x = n * x / 1000 := rfl
      have hst : sumI ((floors n l).take (i + 1)) = sumI ((floors n l).take i) + flo n x := by
        have h9 : (floors n l)[i]? = some (flo n x) := by unfold floors; rw [List.getElem?_map, hx]; rfl
        exact sumI_take h9
      have hb1 := floors_bd hn0 hn1 hsb (by omega) i
      refine sy_treeC (.p 0 (.p 1 (.p 2 (.p 3 (.p 4 (.q 0 5 (.p 6 (.p 7 (.p 10 (.p 11 (.p 12 (.p 13 (.p 14 (.q 0 15 (.p 16 (.p 17 (.e2 8 (.e2 9 (.e1 18 (.e1 19 (.p 20 (.p 21 (.fin))))) 18 (.e1 9 (.e1 19 (.p 20 (.p 21 (.fin)))))) 18 (.e1 8 (.e1 9 (.e1 19 (.p 20 (.p 21 (.fin))))))))))))))))))))))) [[]] [(AtE u [] [], [])] Try.follows (by kernel_rfl) rfl hh (fun w hh => ?_)
      refine mc_p rfl   hf (yv_move rfl) (.inl rfl) rfl rfl ?_; clear hf a; intro a hf
      refine mc_p rfl   hf (yv_move rfl) (.inl rfl) rfl rfl ?_; clear hf a; intro a hf
      refine mc_p rfl   hf (yv_move rfl) (.inl rfl) rfl rfl ?_; clear hf a; intro a hf
      refine mc_p rfl   hf (yv_move rfl) (.inl rfl) rfl rfl ?_; clear hf a; intro a hf
      refine mc_p rfl   hf (y_ix Try.se_22 rfl rfl) (.inl rfl) rfl rfl ?_; clear hf a; intro a hf
      refine mc_q rfl rfl (AtE.of hh (List.nil_subset _)) hf (y_ld Try.sc_3 rfl) (.inl rfl) rfl rfl ?_; clear hf a; intro a hf
      refine mc_p rfl   hf (y_mul rfl rfl) (.inl rfl) rfl rfl ?_; clear hf a; intro a hf
      refine mc_p rfl   hf (yv_quo rfl rfl (by omega) (by omega) (by omega)) (.inl rfl) rfl rfl ?_; clear hf a; intro a hf
      refine mc_p rfl   hf (yv_move rfl) (.inl rfl) rfl rfl ?_; clear hf a; intro a hf
      refine mc_p rfl   hf (yv_move rfl) (.inl rfl) rfl rfl ?_; clear hf a; intro a hf
      refine mc_p rfl   hf (yv_move rfl) (.inl rfl) rfl rfl ?_; clear hf a; intro a hf
      refine mc_p rfl   hf (yv_move rfl) (.inl rfl) rfl rfl ?_; clear hf a; intro a hf
      refine mc_p rfl   hf (y_ix Try.se_22 rfl rfl) (.inl rfl) rfl rfl ?_; clear hf a; intro a hf
      refine mc_q rfl rfl (AtE.of hh (List.nil_subset _)) hf (y_ld Try.sc_3 rfl) (.inl rfl) rfl rfl ?_; clear hf a; intro a hf
      refine mc_p rfl   hf (y_mul rfl rfl) (.inl rfl) rfl rfl ?_; clear hf a; intro a hf
      refine mc_p rfl   hf (yv_rem rfl rfl (by omega) (by omega)) (.inl rfl) rfl rfl ?_; clear hf a; intro a hf
      refine ⟨?_, ?_⟩
      ·refine mc_e rfl fun Q1 => ?_
       refine ops_buildSl hf hh Try.bl_22_1 rfl rfl (.inl rfl) rfl ?_; clear hf hh; clear a; intro B35 a w hf hh
       refine ops_end ?_
       refine then_n ⟨⟨fun _ _ => (AtE.of hh (List.nil_subset _)), trivial⟩, ?_⟩
       refine ⟨?_, ?_⟩
       ·refine mc_e rfl fun Q1 => ?_
        first
          | (refine ops_append (e := 3) (size := 1) (xs := ivs ((l.take i).map (flo n))) (X := X6) (Z := _) (m := i) (q := 1) hf (hh) Try.eb_22 rfl rfl hO6 rfl rfl rfl (by simp only [maxLen]; omega) (by omega) (.inl rfl) rfl ?_; clear hf hh a; intro v6n X6n a w hO6n hf hh)
          | (refine ops_append (e := 3) (size := 1) (xs := ivs ((l.take i).map (flo n))) (X := X6) (Z := _) (m := i) (q := 1) hf (hh.perm (.cons _ (List.perm_middle (l₁ := X6)).symm)) Try.eb_22 rfl rfl hO6 rfl rfl rfl (by simp only [maxLen]; omega) (by omega) (.inl rfl) rfl ?_; clear hf hh a; intro v6n X6n a w hO6n hf hh; replace hh := hh.perm List.perm_middle)
          | (refine ops_append (e := 3) (size := 1) (xs := ivs ((l.take i).map (flo n))) (X := X6) (Z := _) (m := i) (q := 1) hf ((hh.perm (.swap _ _ _)).perm (.cons _ (List.perm_middle (l₁ := X6)).symm)) Try.eb_22 rfl rfl hO6 rfl rfl rfl (by simp only [maxLen]; omega) (by omega) (.inl rfl) rfl ?_; clear hf hh a; intro v6n X6n a w hO6n hf hh; replace hh := hh.perm List.perm_middle)
        refine ops_end ?_
        refine then_n ⟨⟨fun _ _ => (AtE.of hh (List.nil_subset _)), trivial⟩, ?_⟩
        refine mc_e rfl fun Q1 => ?_
        refine ops_buildSl hf hh Try.bl_22_1 rfl rfl (.inl rfl) rfl ?_; clear hf hh; clear a; intro B45 a w hf hh
        refine ops_end ?_
        refine then_n ⟨⟨fun _ _ => (AtE.of hh (List.nil_subset _)), trivial⟩, ?_⟩
        refine mc_e rfl fun Q1 => ?_
        refine ops_append (e := 3) (size := 1) (xs := ivs ((l.take i).map (rmd n))) (X := X7) (Z := _) (m := i) (q := 1) hf (hh.perm (.cons _ (List.perm_append_comm (l₁ := X6n) (l₂ := X7)))) Try.eb_22 rfl rfl hO7 rfl rfl rfl (by simp only [maxLen]; omega) (by omega) (.inl rfl) rfl ?_; clear hf hh a; intro v7n X7n a w hO7n hf hh
        replace hh := hh.perm (List.perm_append_comm (l₁ := X7n) (l₂ := X6n))
        refine ops_end ?_
        refine then_n ⟨⟨fun _ _ => (AtE.of hh (List.nil_subset _)), trivial⟩, ?_⟩
        refine mc_p rfl   hf (yv_assign rfl) (.inl rfl) rfl rfl ?_; clear hf a; intro a hf
        refine mc_p rfl   hf (yv_assign rfl) (.inl rfl) rfl rfl ?_; clear hf a; intro a hf
        refine mc_end ?_
        refine then_n ?_
        replace hO6n : OwnSl 3 1 v6n (i + 1) (ivs ((l.take (i + 1)).map (flo n))) X6n := by rw [take_snoc hx]; exact hO6n
        obtain ⟨B6, c6, cur6, rfl, rfl, hcp6, hcm6, hcs6, hct6⟩ := own_pos hO6n (by omega)
        have hC6 := ivs_CF (l := (l.take (i + 1)).map (flo n)) (by rw [List.length_map, List.length_take]; omega) (by omega) hct6
        have hg6 := hC6.2 i (by rw [List.length_map, List.length_take]; omega)
        dsimp only at hg6
        have hgd : ((l.take (i + 1)).map (flo n)).getD i 0 = flo n x := by
          refine getD_at ?_
          rw [List.getElem?_map, List.getElem?_take, if_pos (by omega), hx]; rfl
        rw [hgd] at hg6
        refine sy_ops ?_
        refine o_v hf hh (yv_move rfl) ?_; clear hf a; intro a hf
        refine o_v hf hh (yv_move rfl) ?_; clear hf a; intro a hf
        refine o_v hf hh (yv_move rfl) ?_; clear hf a; intro a hf
        refine o_v hf hh (y_ix Try.se_22 rfl rfl) ?_; clear hf a; intro a hf
        refine o_v hf hh (y_ld Try.sc_3 rfl) ?_; clear hf a; intro a hf
        refine o_v hf hh (y_sub rfl rfl) ?_; clear hf a; intro a hf
        refine o_v hf hh (yv_assign rfl) ?_; clear hf a; intro a hf
        refine ops_end ?_
        refine blk_n ?_
        refine then_n ?_
        refine sy_ops ?_
        refine o_v hf hh (yv_move rfl) ?_; clear hf a; intro a hf
        refine o_v hf hh (y_add rfl rfl) ?_; clear hf a; intro a hf
        refine o_v hf hh (yv_assign rfl) ?_; clear hf a; intro a hf
        refine ops_end ?_
        refine then_n ?_
        exact ⟨(i + 1, _, _, v7n, X7n), ⟨⟨by simp only; omega, hO6n, by rw [take_snoc hx]; exact hO7n, hh⟩, hf.head ⟨rfl, rfl, congrArg some (intv (by simp only; omega)), rfl, True.intro⟩ (Keep.cons rfl (Keep.cons rfl (Keep.cons rfl (Keep.cons rfl (Keep.cons rfl (Keep.cons rfl (Keep.cons rfl (Keep.cons rfl (Keep.cons rfl (Keep.cons rfl (Keep.cons rfl (Keep.cons rfl (Keep.cons rfl (Keep.cons rfl (Keep.cons rfl (Keep.cons rfl (Keep.cons rfl (Keep.cons rfl (Keep.cons rfl (Keep.cons rfl (Keep.cons rfl (Keep.cons rfl (Keep.cons rfl (Keep.cons rfl (Keep.cons rfl (Keep.cons rfl (Keep.cons rfl (Keep.cons rfl (Keep.cons rfl (Keep.cons rfl (Keep.cons rfl (Keep.cons rfl (Keep.cons rfl (Keep.cons rfl (Keep.cons rfl (Keep.cons rfl (Keep.app rfl (Keep.rm rfl Keep.base))))))))))))))))))))))))))))))))))))))⟩, by simp only; omega⟩
       ·refine mc_e rfl fun Q1 => ?_
        refine ops_buildSl hf hh Try.bl_22_1 rfl rfl (.inl rfl) rfl ?_; clear hf hh; clear a; intro B45 a w hf hh
        refine ops_end ?_
        refine then_n ⟨⟨fun _ _ => (AtE.of hh (List.nil_subset _)), trivial⟩, ?_⟩
        refine mc_e rfl fun Q1 => ?_
        first
          | (refine ops_append (e := 3) (size := 1) (xs := ivs ((l.take i).map (flo n))) (X := X6) (Z := _) (m := i) (q := 1) hf (hh) Try.eb_22 rfl rfl hO6 rfl rfl rfl (by simp only [maxLen]; omega) (by omega) (.inl rfl) rfl ?_; clear hf hh a; intro v6n X6n a w hO6n hf hh)
          | (refine ops_append (e := 3) (size := 1) (xs := ivs ((l.take i).map (flo n))) (X := X6) (Z := _) (m := i) (q := 1) hf (hh.perm (.cons _ (List.perm_middle (l₁ := X6)).symm)) Try.eb_22 rfl rfl hO6 rfl rfl rfl (by simp only [maxLen]; omega) (by omega) (.inl rfl) rfl ?_; clear hf hh a; intro v6n X6n a w hO6n hf hh; replace hh := hh.perm List.perm_middle)
          | (refine ops_append (e := 3) (size := 1) (xs := ivs ((l.take i).map (flo n))) (X := X6) (Z := _) (m := i) (q := 1) hf ((hh.perm (.swap _ _ _)).perm (.cons _ (List.perm_middle (l₁ := X6)).symm)) Try.eb_22 rfl rfl hO6 rfl rfl rfl (by simp only [maxLen]; omega) (by omega) (.inl rfl) rfl ?_; clear hf hh a; intro v6n X6n a w hO6n hf hh; replace hh := hh.perm List.perm_middle)
        refine ops_end ?_
        refine then_n ⟨⟨fun _ _ => (AtE.of hh (List.nil_subset _)), trivial⟩, ?_⟩
        refine mc_e rfl fun Q1 => ?_
        refine ops_append (e := 3) (size := 1) (xs := ivs ((l.take i).map (rmd n))) (X := X7) (Z := _) (m := i) (q := 1) hf (hh.perm (.cons _ (List.perm_append_comm (l₁ := X6n) (l₂ := X7)))) Try.eb_22 rfl rfl hO7 rfl rfl rfl (by simp only [maxLen]; omega) (by omega) (.inl rfl) rfl ?_; clear hf hh a; intro v7n X7n a w hO7n hf hh
        replace hh := hh.perm (List.perm_append_comm (l₁ := X7n) (l₂ := X6n))
        refine ops_end ?_
        refine then_n ⟨⟨fun _ _ => (AtE.of hh (List.nil_subset _)), trivial⟩, ?_⟩
        refine mc_p rfl   hf (yv_assign rfl) (.inl rfl) rfl rfl ?_; clear hf a; intro a hf
        refine mc_p rfl   hf (yv_assign rfl) (.inl rfl) rfl rfl ?_; clear hf a; intro a hf
        refine mc_end ?_
        refine then_n ?_
        replace hO6n : OwnSl 3 1 v6n (i + 1) (ivs ((l.take (i + 1)).map (flo n))) X6n := by rw [take_snoc hx]; exact hO6n
        obtain ⟨B6, c6, cur6, rfl, rfl, hcp6, hcm6, hcs6, hct6⟩ := own_pos hO6n (by omega)
        have hC6 := ivs_CF (l := (l.take (i + 1)).map (flo n)) (by rw [List.length_map, List.length_take]; omega) (by omega) hct6
        have hg6 := hC6.2 i (by rw [List.length_map, List.length_take]; omega)
        dsimp only at hg6
        have hgd : ((l.take (i + 1)).map (flo n)).getD i 0 = flo n x := by
          refine getD_at ?_
          rw [List.getElem?_map, List.getElem?_take, if_pos (by omega), hx]; rfl
        rw [hgd] at hg6
        refine sy_ops ?_
        refine o_v hf hh (yv_move rfl) ?_; clear hf a; intro a hf
        refine o_v hf hh (yv_move rfl) ?_; clear hf a; intro a hf
        refine o_v hf hh (yv_move rfl) ?_; clear hf a; intro a hf
        refine o_v hf hh (y_ix Try.se_22 rfl rfl) ?_; clear hf a; intro a hf
        refine o_v hf hh (y_ld Try.sc_3 rfl) ?_; clear hf a; intro a hf
        refine o_v hf hh (y_sub rfl rfl) ?_; clear hf a; intro a hf
        refine o_v hf hh (yv_assign rfl) ?_; clear hf a; intro a hf
        refine ops_end ?_
        refine blk_n ?_
        refine then_n ?_
        refine sy_ops ?_
        refine o_v hf hh (yv_move rfl) ?_; clear hf a; intro a hf
        refine o_v hf hh (y_add rfl rfl) ?_; clear hf a; intro a hf
        refine o_v hf hh (yv_assign rfl) ?_; clear hf a; intro a hf
        refine ops_end ?_
        refine then_n ?_
        exact ⟨(i + 1, _, _, v7n, X7n), ⟨⟨by simp only; omega, hO6n, by rw [take_snoc hx]; exact hO7n, hh⟩, hf.head ⟨rfl, rfl, congrArg some (intv (by simp only; omega)), rfl, True.intro⟩ (Keep.cons rfl (Keep.cons rfl (Keep.cons rfl (Keep.cons rfl (Keep.cons rfl (Keep.cons rfl (Keep.cons rfl (Keep.cons rfl (Keep.cons rfl (Keep.cons rfl (Keep.cons rfl (Keep.cons rfl (Keep.cons rfl (Keep.cons rfl (Keep.cons rfl (Keep.cons rfl (Keep.cons rfl (Keep.cons rfl (Keep.cons rfl (Keep.cons rfl (Keep.cons rfl (Keep.cons rfl (Keep.cons rfl (Keep.cons rfl (Keep.cons rfl (Keep.cons rfl (Keep.cons rfl (Keep.cons rfl (Keep.cons rfl (Keep.cons rfl (Keep.cons rfl (Keep.cons rfl (Keep.cons rfl (Keep.cons rfl (Keep.cons rfl (Keep.cons rfl (Keep.app rfl (Keep.rm rfl Keep.base))))))))))))))))))))))))))))))))))))))⟩, by simp only; omega⟩
      ·refine mc_e rfl fun Q1 => ?_
       refine ops_buildSl hf hh Try.bl_22_1 rfl rfl (.inl rfl) rfl ?_; clear hf hh; clear a; intro B45 a w hf hh
       refine ops_end ?_
       refine then_n ⟨⟨fun _ _ => (AtE.of hh (List.nil_subset _)), trivial⟩, ?_⟩
       refine mc_e rfl fun Q1 => ?_
       refine ops_buildSl hf hh Try.bl_22_1 rfl rfl (.inl rfl) rfl ?_; clear hf hh; clear a; intro B35 a w hf hh
       refine ops_end ?_
       refine then_n ⟨⟨fun _ _ => (AtE.of hh (List.nil_subset _)), trivial⟩, ?_⟩
       refine mc_e rfl fun Q1 => ?_
       first
         | (refine ops_append (e := 3) (size := 1) (xs := ivs ((l.take i).map (flo n))) (X := X6) (Z := _) (m := i) (q := 1) hf (hh) Try.eb_22 rfl rfl hO6 rfl rfl rfl (by simp only [maxLen]; omega) (by omega) (.inl rfl) rfl ?_; clear hf hh a; intro v6n X6n a w hO6n hf hh)
         | (refine ops_append (e := 3) (size := 1) (xs := ivs ((l.take i).map (flo n))) (X := X6) (Z := _) (m := i) (q := 1) hf (hh.perm (.cons _ (List.perm_middle (l₁ := X6)).symm)) Try.eb_22 rfl rfl hO6 rfl rfl rfl (by simp only [maxLen]; omega) (by omega) (.inl rfl) rfl ?_; clear hf hh a; intro v6n X6n a w hO6n hf hh; replace hh := hh.perm List.perm_middle)
         | (refine ops_append (e := 3) (size := 1) (xs := ivs ((l.take i).map (flo n))) (X := X6) (Z := _) (m := i) (q := 1) hf ((hh.perm (.swap _ _ _)).perm (.cons _ (List.perm_middle (l₁ := X6)).symm)) Try.eb_22 rfl rfl hO6 rfl rfl rfl (by simp only [maxLen]; omega) (by omega) (.inl rfl) rfl ?_; clear hf hh a; intro v6n X6n a w hO6n hf hh; replace hh := hh.perm List.perm_middle)
       refine ops_end ?_
       refine then_n ⟨⟨fun _ _ => (AtE.of hh (List.nil_subset _)), trivial⟩, ?_⟩
       refine mc_e rfl fun Q1 => ?_
       refine ops_append (e := 3) (size := 1) (xs := ivs ((l.take i).map (rmd n))) (X := X7) (Z := _) (m := i) (q := 1) hf (hh.perm (.cons _ (List.perm_append_comm (l₁ := X6n) (l₂ := X7)))) Try.eb_22 rfl rfl hO7 rfl rfl rfl (by simp only [maxLen]; omega) (by omega) (.inl rfl) rfl ?_; clear hf hh a; intro v7n X7n a w hO7n hf hh
       replace hh := hh.perm (List.perm_append_comm (l₁ := X7n) (l₂ := X6n))
       refine ops_end ?_
       refine then_n ⟨⟨fun _ _ => (AtE.of hh (List.nil_subset _)), trivial⟩, ?_⟩
       refine mc_p rfl   hf (yv_assign rfl) (.inl rfl) rfl rfl ?_; clear hf a; intro a hf
       refine mc_p rfl   hf (yv_assign rfl) (.inl rfl) rfl rfl ?_; clear hf a; intro a hf
       refine mc_end ?_
       refine then_n ?_
       replace hO6n : OwnSl 3 1 v6n (i + 1) (ivs ((l.take (i + 1)).map (flo n))) X6n := by rw [take_snoc hx]; exact hO6n
       obtain ⟨B6, c6, cur6, rfl, rfl, hcp6, hcm6, hcs6, hct6⟩ := own_pos hO6n (by omega)
       have hC6 := ivs_CF (l := (l.take (i + 1)).map (flo n)) (by rw [List.length_map, List.length_take]; omega) (by omega) hct6
       have hg6 := hC6.2 i (by rw [List.length_map, List.length_take]; omega)
       dsimp only at hg6
       have hgd : ((l.take (i + 1)).map (flo n)).getD i 0 = flo n x := by
         refine getD_at ?_
         rw [List.getElem?_map, List.getElem?_take, if_pos (by omega), hx]; rfl
       rw [hgd] at hg6
       refine sy_ops ?_
       refine o_v hf hh (yv_move rfl) ?_; clear hf a; intro a hf
       refine o_v hf hh (yv_move rfl) ?_; clear hf a; intro a hf
       refine o_v hf hh (yv_move rfl) ?_; clear hf a; intro a hf
       refine o_v hf hh (y_ix Try.se_22 rfl rfl) ?_; clear hf a; intro a hf
       refine o_v hf hh (y_ld Try.sc_3 rfl) ?_; clear hf a; intro a hf
       refine o_v hf hh (y_sub rfl rfl) ?_; clear hf a; intro a hf
       refine o_v hf hh (yv_assign rfl) ?_; clear hf a; intro a hf
       refine ops_end ?_
       refine blk_n ?_
       refine then_n ?_
       refine sy_ops ?_
       refine o_v hf hh (yv_move rfl) ?_; clear hf a; intro a hf
       refine o_v hf hh (y_add rfl rfl) ?_; clear hf a; intro a hf
       refine o_v hf hh (yv_assign rfl) ?_; clear hf a; intro a hf
       refine ops_end ?_
       refine then_n ?_
       exact ⟨(i + 1, _, _, v7n, X7n), ⟨⟨by simp only; omega, hO6n, by rw [take_snoc hx]; exact hO7n, hh⟩, hf.head ⟨rfl, rfl, congrArg some (intv (by simp only; omega)), rfl, True.intro⟩ (Keep.cons rfl (Keep.cons rfl (Keep.cons rfl (Keep.cons rfl (Keep.cons rfl (Keep.cons rfl (Keep.cons rfl (Keep.cons rfl (Keep.cons rfl (Keep.cons rfl (Keep.cons rfl (Keep.cons rfl (Keep.cons rfl (Keep.cons rfl (Keep.cons rfl (Keep.cons rfl (Keep.cons rfl (Keep.cons rfl (Keep.cons rfl (Keep.cons rfl (Keep.cons rfl (Keep.cons rfl (Keep.cons rfl (Keep.cons rfl (Keep.cons rfl (Keep.cons rfl (Keep.cons rfl (Keep.cons rfl (Keep.cons rfl (Keep.cons rfl (Keep.cons rfl (Keep.cons rfl (Keep.cons rfl (Keep.cons rfl (Keep.cons rfl (Keep.cons rfl (Keep.app rfl (Keep.rm rfl Keep.base))))))))))))))))))))))))))))))))))))))⟩, by simp only; omega⟩
     ·have hG6 := hg6; try simp only [gS] at hG6
      refine sy_exit ?_
      refine then_e ?_
      refine then_e ?_
      refine blk_e ?_
      refine then_n ?_
      refine sy_seq ?_
      refine sy_block ?_
      refine sy_loopH (σ := Nat) [8, 10, 11, 53, 54, 55, 56, 57, 58, 59, 60, 61, 62, 63, 64, 65, 66, 67, 68, 69, 70, 71, 72, 73, 74, 75, 76, 77, 78, 79, 80, 81, 82, 83] (fun k => [(8, .int .i64 (((leftN n l - k : Nat) : Nat) : Int))]) (fun k => fun w' => k ≤ leftN n l ∧ ∃ B6 c6 a6 B7 c7 a7, v6 = .slice (some ⟨B6, 0, none⟩) l.length c6 ∧ v7 = .slice (some ⟨B7, 0, none⟩) l.length c7 ∧ CF a6 l.length (outF n l k) ∧ CF a7 l.length (restF n l k) ∧ Hp u [] [(B6, .cells a6 3), (B7, .cells a7 3)] w') (fun k => leftN n l - k) (0) hf ?_ ?_ ?_
      · obtain rfl : i = l.length := by omega
        exact ⟨congrArg some (intv (by rw [show (floors n l).take l.length = floors n l by rw [List.take_of_length_le (by rw [floors_len]; omega)]]; omega)), True.intro⟩
      · obtain rfl : i = l.length := by omega
        rw [List.take_length] at hO6 hO7
        obtain ⟨B6, c6, cur6, rfl, rfl, hcp6, hcm6, hcs6, hct6⟩ := own_pos hO6 (by omega)
        obtain ⟨B7, c7, cur7, rfl, rfl, hcp7, hcm7, hcs7, hct7⟩ := own_pos hO7 (by omega)
        have hCF6 := ivs_CF (l := l.map (flo n)) (by rw [List.length_map]) (by omega) hct6
        have hCF7 := ivs_CF (l := l.map (rmd n)) (by rw [List.length_map]) (by omega) hct7
        rw [List.length_map] at hCF6 hCF7
        exact ⟨Nat.zero_le _, B6, c6, cur6, B7, c7, cur7, rfl, rfl, hCF6.congr fun j hj => by rw [out_zero, floD hj], hCF7.congr fun j hj => by rw [rest_zero, rmdD hj]; rfl, hh⟩
      ·rintro k a w ⟨hk, B6, c6, a6, B7, c7, a7, rfl, rfl, hC6, hC7, hh⟩ hf
       refine sy_seq ?_
       refine sy_sq ?_
       refine o_v hf hh (yv_move rfl) ?_; clear hf a; intro a hf
       refine o_v hf hh (yv_bin rfl rfl rfl) ?_; clear hf a; intro a hf
       refine o_end ?_
       refine sy_cond hf rfl (fun hg14 => ?_) (fun hg14 => ?_)
       ·have hG14 := hg14; try simp only [gS] at hG14
        refine sy_skip ?_
        refine then_n ?_
        refine sy_block ?_
        refine sy_sq ?_
        refine o_v hf hh (yv_assign rfl) ?_; clear hf a; intro a hf
        refine o_end ?_
        refine sy_seq ?_
        refine sy_sq ?_
        refine o_v hf hh (yv_assign rfl) ?_; clear hf a; intro a hf
        refine o_end ?_
        refine sy_block ?_
        refine sy_loopF (σ := Nat) [10, 11, 55, 56, 57, 58, 59, 60, 61, 62, 63, 64, 65, 66, 67, 68, 69, 70] (fun i2 => [(10, .int .i64 (bestN (restF n l k) i2 : Nat)), (11, .int .i64 (i2 : Nat))]) (fun i2 => i2 ≤ l.length) (fun i2 => l.length - i2) (0) hf hh ?_ ?_ ?_
        · repeat' (first | exact True.intro | refine And.intro rfl ?_)
        · exact Nat.zero_le _
        ·rintro i2 a w hi2 hf hh
         refine sy_seq ?_
         refine sy_sq ?_
         refine o_v hf hh (yv_move rfl) ?_; clear hf a; intro a hf
         refine o_v hf hh (yv_move rfl) ?_; clear hf a; intro a hf
         refine o_v hf hh (yv_len Try.se_22 rfl) ?_; clear hf a; intro a hf
         refine o_v hf hh (yv_bin rfl rfl rfl) ?_; clear hf a; intro a hf
         refine o_end ?_
         refine sy_cond hf rfl (fun hg16 => ?_) (fun hg16 => ?_)
         ·have hG16 := hg16; try simp only [gS] at hG16
          refine sy_skip ?_
          refine then_n ?_
          refine sy_seq ?_
          refine sy_block ?_
          refine sy_seq ?_
          have hbl := bestN_le (restF n l k) (i := i2) (m := l.length) (by omega) (by omega)
          obtain ⟨bb, hbb⟩ : ∃ bb, bb = bestN (restF n l k) i2 := ⟨_, rfl⟩
          rw [← hbb] at hbl hf
          have g1 := hC7.2 i2 (by omega)
          have g2 := hC7.2 bb hbl
          have hs7 := hC7.1
          refine sy_quiet (C := Hp _ _ _) Try.follows (by kernel_rfl) (hh.drawn _) ?_
          refine oq_v hf (yv_move rfl) ?_; clear hf a; intro a hf
          refine oq_v hf (yv_move rfl) ?_; clear hf a; intro a hf
          refine oq_v hf (y_ix Try.se_22 rfl rfl) ?_; clear hf a; intro a hf
          refine oq_v hf (y_ld Try.sc_3 rfl) ?_; clear hf a; intro a hf
          refine oq_v hf (yv_move rfl) ?_; clear hf a; intro a hf
          refine oq_v hf (yv_move rfl) ?_; clear hf a; intro a hf
          refine oq_v hf (y_ix Try.se_22 rfl rfl) ?_; clear hf a; intro a hf
          refine oq_v hf (y_ld Try.sc_3 rfl) ?_; clear hf a; intro a hf
          refine oq_v hf (yv_bin rfl rfl rfl) ?_; clear hf a; intro a hf
          refine q_end fun w hh => ?_
          refine then_n ?_
          refine sy_cond hf rfl (fun hg18 => ?_) (fun hg18 => ?_)
          ·have hG18 := hg18; try simp only [gS] at hG18
           refine sy_ops ?_
           refine o_v hf hh (yv_move rfl) ?_; clear hf a; intro a hf
           refine o_v hf hh (yv_assign rfl) ?_; clear hf a; intro a hf
           refine ops_end ?_
           refine blk_n ?_
           refine then_n ?_
           refine sy_ops ?_
           refine o_v hf hh (yv_move rfl) ?_; clear hf a; intro a hf
           refine o_v hf hh (y_add rfl rfl) ?_; clear hf a; intro a hf
           refine o_v hf hh (yv_assign rfl) ?_; clear hf a; intro a hf
           refine ops_end ?_
           refine then_n ?_
           first
             | exact ⟨i2 + 1, ⟨by omega, hf.head ⟨congrArg some (intv (by rw [bestN, if_pos (by rw [← hbb]; omega)])), rfl, True.intro⟩ (Keep.cons rfl (Keep.cons rfl (Keep.cons rfl (Keep.cons rfl (Keep.cons rfl (Keep.cons rfl (Keep.cons rfl (Keep.cons rfl (Keep.cons rfl (Keep.cons rfl (Keep.cons rfl (Keep.cons rfl (Keep.cons rfl (Keep.cons rfl (Keep.cons rfl (Keep.cons rfl (Keep.cons rfl (Keep.cons rfl (Keep.app rfl (Keep.rm rfl Keep.base)))))))))))))))))))), hh⟩, by omega⟩
             | exact ⟨i2 + 1, ⟨by omega, hf.head ⟨congrArg some (intv (by rw [bestN, if_neg (by rw [← hbb]; omega), hbb])), rfl, True.intro⟩ (Keep.cons rfl (Keep.cons rfl (Keep.cons rfl (Keep.cons rfl (Keep.cons rfl (Keep.cons rfl (Keep.cons rfl (Keep.cons rfl (Keep.cons rfl (Keep.cons rfl (Keep.cons rfl (Keep.cons rfl (Keep.cons rfl (Keep.cons rfl (Keep.cons rfl (Keep.cons rfl (Keep.cons rfl (Keep.cons rfl (Keep.app rfl (Keep.rm rfl Keep.base)))))))))))))))))))), hh⟩, by omega⟩
             | omega
          ·have hG18 := hg18; try simp only [gS] at hG18
           refine sy_skip ?_
           refine blk_n ?_
           refine then_n ?_
           refine sy_ops ?_
           refine o_v hf hh (yv_move rfl) ?_; clear hf a; intro a hf
           refine o_v hf hh (y_add rfl rfl) ?_; clear hf a; intro a hf
           refine o_v hf hh (yv_assign rfl) ?_; clear hf a; intro a hf
           refine ops_end ?_
           refine then_n ?_
           first
             | exact ⟨i2 + 1, ⟨by omega, hf.head ⟨congrArg some (intv (by rw [bestN, if_pos (by rw [← hbb]; omega)])), rfl, True.intro⟩ (Keep.cons rfl (Keep.cons rfl (Keep.cons rfl (Keep.cons rfl (Keep.cons rfl (Keep.cons rfl (Keep.cons rfl (Keep.cons rfl (Keep.cons rfl (Keep.cons rfl (Keep.cons rfl (Keep.cons rfl (Keep.cons rfl (Keep.cons rfl (Keep.cons rfl (Keep.cons rfl (Keep.app rfl (Keep.rm rfl Keep.base)))))))))))))))))), hh⟩, by omega⟩
             | exact ⟨i2 + 1, ⟨by omega, hf.head ⟨congrArg some (intv (by rw [bestN, if_neg (by rw [← hbb]; omega), hbb])), rfl, True.intro⟩ (Keep.cons rfl (Keep.cons rfl (Keep.cons rfl (Keep.cons rfl (Keep.cons rfl (Keep.cons rfl (Keep.cons rfl (Keep.cons rfl (Keep.cons rfl (Keep.cons rfl (Keep.cons rfl (Keep.cons rfl (Keep.cons rfl (Keep.cons rfl (Keep.cons rfl (Keep.cons rfl (Keep.app rfl (Keep.rm rfl Keep.base)))))))))))))))))), hh⟩, by omega⟩
             | omega
         ·have hG16 := hg16; try simp only [gS] at hG16
          refine sy_exit ?_
          refine then_e ?_
          refine then_e ?_
          refine blk_e ?_
          refine then_n ?_
          obtain rfl : i2 = l.length := by omega
          have hkl : k < l.length := by omega
          rw [best_ord hkl] at hf
          obtain ⟨o, ho⟩ : ∃ o, o = (ordL n l).getD k 0 := ⟨_, rfl⟩
          rw [← ho] at hf
          have hol : o < l.length := by rw [ho]; exact ord_lt hkl
          have g6 := hC6.2 o hol
          have hob := out_bd hn0 hn1 hsb k hol
          have hz6 := hC6.1; have hz7 := hC7.1
          have hC6n := (hC6.put (j := o) hol (outF n l k o + 1)).congr (G := outF n l (k + 1)) fun z hz => by
            rw [out_step hkl, ← ho]
            by_cases h9 : z = o
            · rw [if_pos h9, if_pos h9, h9]
            · rw [if_neg h9, if_neg h9]
          have hC7n := (hC7.put (j := o) hol (-1)).congr (G := restF n l (k + 1)) fun z hz => by
            rw [rest_step hkl, ← ho]
          refine sy_ops ?_
          refine o_v hf hh (yv_move rfl) ?_; clear hf a; intro a hf
          refine o_v hf hh (yv_move rfl) ?_; clear hf a; intro a hf
          refine o_v hf hh (yv_move rfl) ?_; clear hf a; intro a hf
          refine o_v hf hh (yv_move rfl) ?_; clear hf a; intro a hf
          refine o_v hf hh (yv_move rfl) ?_; clear hf a; intro a hf
          refine o_v hf hh (yv_move rfl) ?_; clear hf a; intro a hf
          refine o_v hf hh (y_ix Try.se_22 rfl rfl) ?_; clear hf a; intro a hf
          refine o_v hf hh (y_ld Try.sc_3 rfl) ?_; clear hf a; intro a hf
          refine o_v hf hh (y_add rfl rfl) ?_; clear hf a; intro a hf
          refine o_v hf hh (yv_move rfl) ?_; clear hf a; intro a hf
          refine o_v hf hh (y_sub rfl rfl) ?_; clear hf a; intro a hf
          refine o_v hf hh (y_ix Try.se_22 rfl rfl) ?_; clear hf a; intro a hf
          refine o_store (i := 0) hf hh Try.sz_3 (hx := rfl) (hi := atI (i := 0) rfl) (hy := rfl) (hl := Nat.ble_eq_true_of_le (by rw [Int.toNat_natCast]; omega)) fun w hh => ?_
          refine o_v hf hh (y_ix Try.se_22 rfl rfl) ?_; clear hf a; intro a hf
          refine o_store (i := 1) hf hh Try.sz_3 (hx := rfl) (hi := atI (i := 1) rfl) (hy := rfl) (hl := Nat.ble_eq_true_of_le (by rw [Int.toNat_natCast]; omega)) fun w hh => ?_
          refine o_v hf hh (yv_assign rfl) ?_; clear hf a; intro a hf
          refine ops_end ?_
          refine blk_n ?_
          refine then_n ?_
          exact ⟨k + 1, ⟨⟨by omega, _, _, _, _, _, _, rfl, rfl, hC6n, hC7n, hh⟩, hf.head ⟨congrArg some (intv (by omega)), True.intro⟩ (Keep.cons rfl (Keep.cons rfl (Keep.cons rfl (Keep.cons rfl (Keep.cons rfl (Keep.cons rfl (Keep.cons rfl (Keep.cons rfl (Keep.cons rfl (Keep.cons rfl (Keep.cons rfl (Keep.cons rfl (Keep.cons rfl (Keep.cons rfl (Keep.cons rfl (Keep.cons rfl (Keep.cons rfl (Keep.cons rfl (Keep.app rfl (Keep.rm rfl (Keep.cons rfl (Keep.cons rfl (Keep.cons rfl (Keep.cons rfl (Keep.app rfl (Keep.rm rfl Keep.base))))))))))))))))))))))))))⟩, by omega⟩
       ·have hG14 := hg14; try simp only [gS] at hG14
        refine sy_exit ?_
        refine then_e ?_
        refine then_e ?_
        refine blk_e ?_
        refine then_n ?_
        refine sy_sq ?_
        refine o_v hf hh (yv_move rfl) ?_; clear hf a; intro a hf
        refine o_v hf hh (yv_assign rfl) ?_; clear hf a; intro a hf
        refine o_v hf hh (yv_assign rfl) ?_; clear hf a; intro a hf
        refine o_end ?_
        refine sy_ret ?_
        refine ret_r hf rfl rfl ?_
        first
          | (obtain ⟨e1, e2⟩ := splV_no (n := n) (l := l) (by unfold splB; simp_all)
             exact ⟨none, 0, by rw [e1, e2]; rfl, by rw [e1]; (intro i x hi; simp at hi), fun B off h => by (cases h), hh.ext⟩)
          | (obtain rfl : k = leftN n l := by omega
             exact ⟨some ⟨B6, 0, none⟩, c6, by rw [e1, e2, split_len]; rfl, by rw [e1]; exact CF.iat (by rw [split_len]; exact hC6.congr fun z hz => (split_get hz).symm) (hh.at (i := 0) rfl), fun B off h => by (cases h; rcases hh.mine _ (.head _) with h1 | h1; exact h1; cases h1), hh.ext⟩)
          | omega
end Go.Proofs.Ytkfkifkdncdhoaa
namespace Go.RoyM
open Go Go.Sy
theorem roy_no {d : RoyD} (h : RoyOk d → False) : royB d = false := Bool.eq_false_iff.2 fun e => h (royB_iff.1 e)
/-- Whether a report has a card. -/
def hasB (x : RepD) (k c : Int) : Bool := decide (x.kd = k) && inI c x.fi x.la
/-- The agents who claim a card, rising. -/
def claL (d : RoyD) (k c : Int) (n : Nat) : List Nat := (List.range n).filter fun g => d.reps.any fun x => decide (x.ag = (g : Int)) && hasB x k c
theorem claL_put {d : RoyD} {k c : Int} {n : Nat} (h : (d.reps.any fun x => decide (x.ag = (n : Int)) && hasB x k c) = true) : claL d k c (n + 1) = claL d k c n ++ [n] := by
  unfold claL
  rw [List.range_succ, List.filter_append]
  simp [h]
theorem claL_no {d : RoyD} {k c : Int} {n : Nat} (h : (d.reps.any fun x => decide (x.ag = (n : Int)) && hasB x k c) = false) : claL d k c (n + 1) = claL d k c n := by
  unfold claL
  rw [List.range_succ, List.filter_append]
  simp [h]
theorem any_take {α : Type} {l : List α} {i : Nat} {x : α} {f : α → Bool} (h : l[i]? = some x) : (l.take (i + 1)).any f = ((l.take i).any f || f x) := by
  rw [List.take_add_one, h, List.any_append]
  simp
theorem claL_eq (d : RoyD) (k : Int) (c : Nat) : claL d k c d.terms.length = (List.range d.terms.length).filter fun g => clmB d k g c := by
  unfold claL clmB hasB inI
  congr 1
  funext g
  congr 1
  funext x
  cases decide (x.ag = (g : Int)) <;> cases decide (x.kd = k) <;> rfl
theorem claL_len (d : RoyD) (k c : Int) (n : Nat) : (claL d k c n).length ≤ n := by
  unfold claL
  refine Nat.le_trans (List.length_filter_le _ _) ?_
  rw [List.length_range]; exact Nat.le_refl _
theorem claL_mem {d : RoyD} {k : Int} {c g : Nat} : g ∈ claL d k c d.terms.length ↔ g < d.terms.length ∧ clmB d k g c = true := by
  rw [claL_eq, List.mem_filter, List.mem_range]
theorem claL_nodup (d : RoyD) (k c : Int) (n : Nat) : (claL d k c n).Nodup := List.Nodup.sublist List.filter_sublist List.nodup_range
/-- The number with these bits. -/
def bitS (f : Nat → Bool) : Nat → Nat
  | 0 => 0
  | c + 1 => bitS f c + if f c then 2 ^ c else 0
theorem bitS_lt (f : Nat → Bool) : ∀ n, bitS f n < 2 ^ n
  | 0 => by simp [bitS]
  | n + 1 => by
    have ih := bitS_lt f n
    rw [bitS, Nat.pow_succ]
    split <;> omega
theorem bitS_bit (f : Nat → Bool) : ∀ (n i : Nat), (bitS f n).testBit i = (decide (i < n) && f i)
  | 0, i => by simp [bitS]
  | n + 1, i => by
    have ih := bitS_bit f n i
    have hl := bitS_lt f n
    rw [bitS]
    by_cases hf : f n = true
    · have e9 := Nat.two_pow_add_eq_or_of_lt hl 1
      rw [Nat.mul_one] at e9
      rw [if_pos hf, Nat.add_comm, e9, Nat.testBit_or, ih]
      by_cases hi : i = n
      · subst hi; simp [hf, Nat.testBit_two_pow_self]
      · rw [Nat.testBit_two_pow_of_ne (by omega), Bool.false_or, show decide (i < n + 1) = decide (i < n) from decide_eq_decide.2 (by omega)]
    · rw [if_neg hf, Nat.add_zero, ih]
      by_cases hi : i = n
      · subst hi; simp [hf]
      · rw [show decide (i < n + 1) = decide (i < n) from decide_eq_decide.2 (by omega)]
theorem bitS_of {x n : Nat} (h : x < 2 ^ n) : bitS x.testBit n = x := by
  apply Nat.eq_of_testBit_eq
  intro i
  rw [bitS_bit]
  by_cases hi : i < n
  · rw [decide_eq_true hi, Bool.true_and]
  · rw [decide_eq_false hi, Bool.false_and, Nat.testBit_lt_two_pow (Nat.lt_of_lt_of_le h (Nat.pow_le_pow_right (by omega) (by omega)))]
theorem surT_bit {d : RoyD} (k : Int) (g c : Nat) : ∀ h, (surT d k g h).testBit c = ((clm d k g).testBit c && (List.range h).all fun j => decide (j = g) || !(clm d k j).testBit c)
  | 0 => by simp [surT]
  | h + 1 => by
    have ih := surT_bit (d := d) k g c h
    rw [surT, List.range_succ, List.all_append]
    split
    · rename_i e
      subst e
      rw [ih]; simp
    · rename_i e
      rw [Nat.testBit_xor, Nat.testBit_and, ih]
      simp only [List.all_cons, List.all_nil, Bool.and_true, decide_eq_false e, Bool.false_or]
      cases (clm d k g).testBit c <;> cases (List.range h).all (fun j => decide (j = g) || !(clm d k j).testBit c) <;> cases (clm d k h).testBit c <;> simp [e]
/-- A card is surely an agent's if nobody else claims it. -/
def surB (d : RoyD) (k : Int) (g c : Nat) : Bool := clmB d k g c && decide ((claL d k c d.terms.length).length = 1)
theorem one_of {l : List Nat} (hn : l.Nodup) {g : Nat} (hg : g ∈ l) : l.length = 1 ↔ ∀ j ∈ l, j = g := by
  constructor
  · intro h j hj
    match l, h with
    | [x], _ => rw [List.mem_singleton.1 hj, List.mem_singleton.1 hg]
  · intro h
    match l, hn, hg with
    | [x], _, _ => rfl
    | x :: y :: l, hn, _ =>
      exfalso
      have h1 := h x (.head _)
      have h2 := h y (.tail _ (.head _))
      rw [List.nodup_cons] at hn
      exact hn.1 (by rw [h1, ← h2]; exact .head _)
theorem sur_bit {d : RoyD} (hO : RoyOk d) (k : Int) (g c : Nat) : (surN d k g).testBit c = surB d k g c := by
  unfold surN surB
  rw [surT_bit, clm_bit hO]
  cases hc : clmB d k g c
  · simp
  · rw [Bool.true_and, Bool.true_and]
    have hg : g ∈ claL d k c d.terms.length := claL_mem.2 ⟨clm_lt hO hc, hc⟩
    rw [Bool.eq_iff_iff, decide_eq_true_eq, one_of (claL_nodup _ _ _ _) hg, List.all_eq_true]
    constructor
    · intro h j hj
      obtain ⟨h1, h2⟩ := claL_mem.1 hj
      have h3 := h j (List.mem_range.2 (by have := hO.nt; omega))
      rw [clm_bit hO, h2] at h3
      simpa using h3
    · intro h j hj
      rw [clm_bit hO]
      cases h2 : clmB d k j c
      · simp
      · have := h j (claL_mem.2 ⟨clm_lt hO h2, h2⟩)
        simp [this]
theorem sur_lt {d : RoyD} (hO : RoyOk d) (k : Int) (g : Nat) : surN d k g < 4096 := Nat.lt_of_le_of_lt (surT_le d k g 4) (clm_lt12 hO k g)
theorem clm_sum {d : RoyD} (hO : RoyOk d) (k : Int) (g : Nat) : bitS (clmB d k g) 12 = clm d k g := by
  have h := bitS_of (x := clm d k g) (n := 12) (clm_lt12 hO k g)
  rwa [show (clm d k g).testBit = clmB d k g from funext fun c => clm_bit hO k g c] at h
theorem sur_sum {d : RoyD} (hO : RoyOk d) (k : Int) (g : Nat) : bitS (surB d k g) 12 = surN d k g := by
  have h := bitS_of (x := surN d k g) (n := 12) (sur_lt hO k g)
  rwa [show (surN d k g).testBit = surB d k g from funext fun c => sur_bit hO k g c] at h
theorem bitS_bd (f : Nat → Bool) {i n : Nat} (h : i ≤ n) : bitS f i < 2 ^ n := Nat.lt_of_lt_of_le (bitS_lt f i) (Nat.pow_le_pow_right (by omega) h)
/-- Whether two reports have a card in common, card by card. -/
theorem meet_iff {d : RoyD} {x y : RepD} (hx : RepOk d x) (hy : RepOk d y) : meetB x y = true ↔ ∃ c : Nat, c < 12 ∧ hasB x x.kd c = true ∧ hasB y x.kd c = true := by
  unfold meetB hasB inI
  have h1 := hx.f0; have h2 := hx.f1; have h3 := hx.l1; have h4 := hy.f0; have h5 := hy.f1; have h6 := hy.l1
  simp only [Bool.and_eq_true, decide_eq_true_eq, true_and]
  constructor
  · rintro ⟨h, hne⟩
    obtain ⟨c, hc⟩ := bit_of_ne hne
    rw [Nat.testBit_and, crd_bit hx, crd_bit hy] at hc
    simp only [Bool.and_eq_true, decide_eq_true_eq] at hc
    exact ⟨c, by omega, hc.1, h.symm, hc.2⟩
  · rintro ⟨c, hc, h7, h8, h9⟩
    refine ⟨h8.symm, fun h => ?_⟩
    have : (crd x &&& crd y).testBit c = true := by
      rw [Nat.testBit_and, crd_bit hx, crd_bit hy]
      simp only [Bool.and_eq_true, decide_eq_true_eq]
      exact ⟨h7, h9⟩
    rw [h, Nat.zero_testBit] at this
    cases this
theorem pc_half {x : Nat} (h : x < 18446744073709551616) : pc x = x % 2 + pc (x / 2) := pc_step h
end Go.RoyM
namespace Go.Proofs.Ytkfkifkdncdhoaa
open Go Go.Sy Go.RoyM
theorem allT_take {α : Type} {l : List α} {i : Nat} {x : α} {f : α → Bool} (h : (l.take i).all f = true) (hx : l[i]? = some x) (hf : f x = true) : (l.take (i + 1)).all f = true := by
  rw [List.take_add_one, hx, List.all_append, h]
  simp [hf]
set_option maxRecDepth 100000 in
theorem p40 (d : RoyD) (p : Pl) (u : World) (hR : RoyAt u d p) : Calls Try.prog 40 #[.agg (royC d p)] u (Ret fun v w' => v = .bool (royB d) ∧ Ext [] u w') := by
  refine calls_of Try.func40 rfl rfl (fun a hf => ?_)
  have hh := Hp.init u []
  obtain ⟨st, sp, ss, sr, sd, ct, cp, cs, cr, cd⟩ := p
  have hn1 := hR.n1; have hn2 := hR.n2; have hn3 := hR.n3; have hn4 := hR.n4; have hn5 := hR.n5
  refine sy_sq ?_
  refine o_box hf hh ?_; clear hf hh a; intro B1 a w hf hh
  refine o_v hf hh (yv_assign rfl) ?_; clear hf a; intro a hf
  refine o_end ?_
  refine sy_seq ?_
  refine sy_sq ?_
  refine o_v hf hh (yv_fieldAddr Try.fo_37_0 rfl) ?_; clear hf a; intro a hf
  refine o_v hf hh (y_ld Try.sc_33 rfl) ?_; clear hf a; intro a hf
  refine o_v hf hh (yv_len Try.se_33 rfl) ?_; clear hf a; intro a hf
  refine o_v hf hh (yv_bin rfl rfl rfl) ?_; clear hf a; intro a hf
  refine o_v hf hh (yv_move rfl) ?_; clear hf a; intro a hf
  refine guard_split hf (t := 11) rfl (fun hg2 => ?_) (fun hg2 => ?_)
  ·have hG2 := hg2; try simp only [gS] at hG2
   refine o_off hf ?_; clear hf a; intro a hf
   refine o_off hf ?_; clear hf a; intro a hf
   refine o_off hf ?_; clear hf a; intro a hf
   refine o_off hf ?_; clear hf a; intro a hf
   refine o_v hf hh (y_pt rfl rfl) ?_; clear hf a; intro a hf
   refine o_v hf hh (yv_move rfl) ?_; clear hf a; intro a hf
   refine o_off hf ?_; clear hf a; intro a hf
   refine o_off hf ?_; clear hf a; intro a hf
   refine o_off hf ?_; clear hf a; intro a hf
   refine o_off hf ?_; clear hf a; intro a hf
   refine o_off hf ?_; clear hf a; intro a hf
   refine o_off hf ?_; clear hf a; intro a hf
   refine o_off hf ?_; clear hf a; intro a hf
   refine o_v hf hh (y_pt rfl rfl) ?_; clear hf a; intro a hf
   refine o_v hf hh (yv_move rfl) ?_; clear hf a; intro a hf
   refine o_off hf ?_; clear hf a; intro a hf
   refine o_off hf ?_; clear hf a; intro a hf
   refine o_off hf ?_; clear hf a; intro a hf
   refine o_off hf ?_; clear hf a; intro a hf
   refine o_v hf hh (y_pt rfl rfl) ?_; clear hf a; intro a hf
   refine o_v hf hh (yv_move rfl) ?_; clear hf a; intro a hf
   refine o_off hf ?_; clear hf a; intro a hf
   refine o_off hf ?_; clear hf a; intro a hf
   refine o_off hf ?_; clear hf a; intro a hf
   refine o_off hf ?_; clear hf a; intro a hf
   refine o_off hf ?_; clear hf a; intro a hf
   refine o_off hf ?_; clear hf a; intro a hf
   refine o_off hf ?_; clear hf a; intro a hf
   refine o_v hf hh (y_pt rfl rfl) ?_; clear hf a; intro a hf
   refine o_end ?_
   refine c_t hf ?_
   refine sy_sq ?_
   refine o_v hf hh (yv_assign rfl) ?_; clear hf a; intro a hf
   refine o_end ?_
   refine sy_ret ?_
   refine then_r ?_
   refine ret_r hf rfl rfl ?_
   first
     | (refine ⟨congrArg Value.bool ?_, hh.ext⟩
        clear hf hh
        rw [show i = d.terms.length by omega, List.take_length] at hA1
        rw [show i = d.paid.length by omega, List.take_length] at hA2
        rw [show i2 = d.prices.length by omega, List.take_length] at hA3
        rw [show i2 = d.shares.length by omega, List.take_length] at hA4
        rw [show i3 = d.reps.length by omega, List.take_length] at hA5
        rw [royB_eq]; unfold sizeB monB
        rw [hA1, hA2, hA3, hA4, hA5, decide_eq_true hs1, decide_eq_true hs2, decide_eq_true hs3, decide_eq_true hs4, decide_eq_true hs5]; rfl)
     | (refine ⟨congrArg Value.bool (roy_no fun hO => ?_).symm, hh.ext⟩
        clear hf hh
        have hnt := hO.nt; have hnp := hO.np; have hns := hO.ns; have hnr := hO.nr; have hpd := hO.npd
        first
        | omega
        | (have hxt := termB_iff.2 (hO.t _ (List.mem_of_getElem? hx)); have hyp := hO.pd _ (List.mem_of_getElem? hy); unfold inI at *; simp_all; done)
        | (have hxt := hO.p _ (List.mem_of_getElem? hx); have hyp := shB_iff.2 (hO.s _ (List.mem_of_getElem? hy)); unfold inI at *; simp_all; done)
        | (have hr := hO.r _ (List.mem_of_getElem? hx); have r1 := hr.a0; have r2 := hr.a1; have r3 := hr.k0; have r4 := hr.k1; have r5 := hr.f0; have r6 := hr.f1; have r7 := hr.l1; unfold inI at *; simp only [Bool.and_eq_false_iff, decide_eq_false_iff_not, Bool.and_eq_true, decide_eq_true_eq] at *; omega)
        | omega)
  ·have hG2 := hg2; try simp only [gS] at hG2
   refine o_v hf hh (yv_fieldAddr Try.fo_37_1 rfl) ?_; clear hf a; intro a hf
   refine o_v hf hh (y_ld Try.sc_22 rfl) ?_; clear hf a; intro a hf
   refine o_v hf hh (yv_len Try.se_22 rfl) ?_; clear hf a; intro a hf
   refine o_v hf hh (yv_bin rfl rfl rfl) ?_; clear hf a; intro a hf
   refine o_v hf hh (y_pf rfl rfl) ?_; clear hf a; intro a hf
   refine o_v hf hh (yv_move rfl) ?_; clear hf a; intro a hf
   refine guard_split hf (t := 17) rfl (fun hg4 => ?_) (fun hg4 => ?_)
   ·have hG4 := hg4; try simp only [gS] at hG4
    refine o_off hf ?_; clear hf a; intro a hf
    refine o_off hf ?_; clear hf a; intro a hf
    refine o_off hf ?_; clear hf a; intro a hf
    refine o_off hf ?_; clear hf a; intro a hf
    refine o_off hf ?_; clear hf a; intro a hf
    refine o_off hf ?_; clear hf a; intro a hf
    refine o_off hf ?_; clear hf a; intro a hf
    refine o_v hf hh (y_pt rfl rfl) ?_; clear hf a; intro a hf
    refine o_v hf hh (yv_move rfl) ?_; clear hf a; intro a hf
    refine o_off hf ?_; clear hf a; intro a hf
    refine o_off hf ?_; clear hf a; intro a hf
    refine o_off hf ?_; clear hf a; intro a hf
    refine o_off hf ?_; clear hf a; intro a hf
    refine o_v hf hh (y_pt rfl rfl) ?_; clear hf a; intro a hf
    refine o_v hf hh (yv_move rfl) ?_; clear hf a; intro a hf
    refine o_off hf ?_; clear hf a; intro a hf
    refine o_off hf ?_; clear hf a; intro a hf
    refine o_off hf ?_; clear hf a; intro a hf
    refine o_off hf ?_; clear hf a; intro a hf
    refine o_off hf ?_; clear hf a; intro a hf
    refine o_off hf ?_; clear hf a; intro a hf
    refine o_off hf ?_; clear hf a; intro a hf
    refine o_v hf hh (y_pt rfl rfl) ?_; clear hf a; intro a hf
    refine o_end ?_
    refine c_t hf ?_
    refine sy_sq ?_
    refine o_v hf hh (yv_assign rfl) ?_; clear hf a; intro a hf
    refine o_end ?_
    refine sy_ret ?_
    refine then_r ?_
    refine ret_r hf rfl rfl ?_
    first
      | (refine ⟨congrArg Value.bool ?_, hh.ext⟩
         clear hf hh
         rw [show i = d.terms.length by omega, List.take_length] at hA1
         rw [show i = d.paid.length by omega, List.take_length] at hA2
         rw [show i2 = d.prices.length by omega, List.take_length] at hA3
         rw [show i2 = d.shares.length by omega, List.take_length] at hA4
         rw [show i3 = d.reps.length by omega, List.take_length] at hA5
         rw [royB_eq]; unfold sizeB monB
         rw [hA1, hA2, hA3, hA4, hA5, decide_eq_true hs1, decide_eq_true hs2, decide_eq_true hs3, decide_eq_true hs4, decide_eq_true hs5]; rfl)
      | (refine ⟨congrArg Value.bool (roy_no fun hO => ?_).symm, hh.ext⟩
         clear hf hh
         have hnt := hO.nt; have hnp := hO.np; have hns := hO.ns; have hnr := hO.nr; have hpd := hO.npd
         first
         | omega
         | (have hxt := termB_iff.2 (hO.t _ (List.mem_of_getElem? hx)); have hyp := hO.pd _ (List.mem_of_getElem? hy); unfold inI at *; simp_all; done)
         | (have hxt := hO.p _ (List.mem_of_getElem? hx); have hyp := shB_iff.2 (hO.s _ (List.mem_of_getElem? hy)); unfold inI at *; simp_all; done)
         | (have hr := hO.r _ (List.mem_of_getElem? hx); have r1 := hr.a0; have r2 := hr.a1; have r3 := hr.k0; have r4 := hr.k1; have r5 := hr.f0; have r6 := hr.f1; have r7 := hr.l1; unfold inI at *; simp only [Bool.and_eq_false_iff, decide_eq_false_iff_not, Bool.and_eq_true, decide_eq_true_eq] at *; omega)
         | omega)
   ·have hG4 := hg4; try simp only [gS] at hG4
    refine o_v hf hh (yv_fieldAddr Try.fo_37_2 rfl) ?_; clear hf a; intro a hf
    refine o_v hf hh (y_ld Try.sc_34 rfl) ?_; clear hf a; intro a hf
    refine o_v hf hh (yv_len Try.se_34 rfl) ?_; clear hf a; intro a hf
    refine o_v hf hh (yv_fieldAddr Try.fo_37_1 rfl) ?_; clear hf a; intro a hf
    refine o_v hf hh (y_ld Try.sc_22 rfl) ?_; clear hf a; intro a hf
    refine o_v hf hh (yv_len Try.se_22 rfl) ?_; clear hf a; intro a hf
    refine o_v hf hh (yv_bin rfl rfl rfl) ?_; clear hf a; intro a hf
    refine o_v hf hh (y_pf rfl rfl) ?_; clear hf a; intro a hf
    refine o_v hf hh (yv_move rfl) ?_; clear hf a; intro a hf
    refine guard_split hf (t := 26) rfl (fun hg6 => ?_) (fun hg6 => ?_)
    ·have hG6 := hg6; try simp only [gS] at hG6
     refine o_off hf ?_; clear hf a; intro a hf
     refine o_off hf ?_; clear hf a; intro a hf
     refine o_off hf ?_; clear hf a; intro a hf
     refine o_off hf ?_; clear hf a; intro a hf
     refine o_v hf hh (y_pt rfl rfl) ?_; clear hf a; intro a hf
     refine o_v hf hh (yv_move rfl) ?_; clear hf a; intro a hf
     refine o_off hf ?_; clear hf a; intro a hf
     refine o_off hf ?_; clear hf a; intro a hf
     refine o_off hf ?_; clear hf a; intro a hf
     refine o_off hf ?_; clear hf a; intro a hf
     refine o_off hf ?_; clear hf a; intro a hf
     refine o_off hf ?_; clear hf a; intro a hf
     refine o_off hf ?_; clear hf a; intro a hf
     refine o_v hf hh (y_pt rfl rfl) ?_; clear hf a; intro a hf
     refine o_end ?_
     refine c_t hf ?_
     refine sy_sq ?_
     refine o_v hf hh (yv_assign rfl) ?_; clear hf a; intro a hf
     refine o_end ?_
     refine sy_ret ?_
     refine then_r ?_
     refine ret_r hf rfl rfl ?_
     first
       | (refine ⟨congrArg Value.bool ?_, hh.ext⟩
          clear hf hh
          rw [show i = d.terms.length by omega, List.take_length] at hA1
          rw [show i = d.paid.length by omega, List.take_length] at hA2
          rw [show i2 = d.prices.length by omega, List.take_length] at hA3
          rw [show i2 = d.shares.length by omega, List.take_length] at hA4
          rw [show i3 = d.reps.length by omega, List.take_length] at hA5
          rw [royB_eq]; unfold sizeB monB
          rw [hA1, hA2, hA3, hA4, hA5, decide_eq_true hs1, decide_eq_true hs2, decide_eq_true hs3, decide_eq_true hs4, decide_eq_true hs5]; rfl)
       | (refine ⟨congrArg Value.bool (roy_no fun hO => ?_).symm, hh.ext⟩
          clear hf hh
          have hnt := hO.nt; have hnp := hO.np; have hns := hO.ns; have hnr := hO.nr; have hpd := hO.npd
          first
          | omega
          | (have hxt := termB_iff.2 (hO.t _ (List.mem_of_getElem? hx)); have hyp := hO.pd _ (List.mem_of_getElem? hy); unfold inI at *; simp_all; done)
          | (have hxt := hO.p _ (List.mem_of_getElem? hx); have hyp := shB_iff.2 (hO.s _ (List.mem_of_getElem? hy)); unfold inI at *; simp_all; done)
          | (have hr := hO.r _ (List.mem_of_getElem? hx); have r1 := hr.a0; have r2 := hr.a1; have r3 := hr.k0; have r4 := hr.k1; have r5 := hr.f0; have r6 := hr.f1; have r7 := hr.l1; unfold inI at *; simp only [Bool.and_eq_false_iff, decide_eq_false_iff_not, Bool.and_eq_true, decide_eq_true_eq] at *; omega)
          | omega)
    ·have hG6 := hg6; try simp only [gS] at hG6
     refine o_v hf hh (yv_fieldAddr Try.fo_37_3 rfl) ?_; clear hf a; intro a hf
     refine o_v hf hh (y_ld Try.sc_35 rfl) ?_; clear hf a; intro a hf
     refine o_v hf hh (yv_len Try.se_35 rfl) ?_; clear hf a; intro a hf
     refine o_v hf hh (yv_bin rfl rfl rfl) ?_; clear hf a; intro a hf
     refine o_v hf hh (y_pf rfl rfl) ?_; clear hf a; intro a hf
     refine o_v hf hh (yv_move rfl) ?_; clear hf a; intro a hf
     refine guard_split hf (t := 32) rfl (fun hg8 => ?_) (fun hg8 => ?_)
     ·have hG8 := hg8; try simp only [gS] at hG8
      refine o_off hf ?_; clear hf a; intro a hf
      refine o_off hf ?_; clear hf a; intro a hf
      refine o_off hf ?_; clear hf a; intro a hf
      refine o_off hf ?_; clear hf a; intro a hf
      refine o_off hf ?_; clear hf a; intro a hf
      refine o_off hf ?_; clear hf a; intro a hf
      refine o_off hf ?_; clear hf a; intro a hf
      refine o_v hf hh (y_pt rfl rfl) ?_; clear hf a; intro a hf
      refine o_end ?_
      refine c_t hf ?_
      refine sy_sq ?_
      refine o_v hf hh (yv_assign rfl) ?_; clear hf a; intro a hf
      refine o_end ?_
      refine sy_ret ?_
      refine then_r ?_
      refine ret_r hf rfl rfl ?_
      first
        | (refine ⟨congrArg Value.bool ?_, hh.ext⟩
           clear hf hh
           rw [show i = d.terms.length by omega, List.take_length] at hA1
           rw [show i = d.paid.length by omega, List.take_length] at hA2
           rw [show i2 = d.prices.length by omega, List.take_length] at hA3
           rw [show i2 = d.shares.length by omega, List.take_length] at hA4
           rw [show i3 = d.reps.length by omega, List.take_length] at hA5
           rw [royB_eq]; unfold sizeB monB
           rw [hA1, hA2, hA3, hA4, hA5, decide_eq_true hs1, decide_eq_true hs2, decide_eq_true hs3, decide_eq_true hs4, decide_eq_true hs5]; rfl)
        | (refine ⟨congrArg Value.bool (roy_no fun hO => ?_).symm, hh.ext⟩
           clear hf hh
           have hnt := hO.nt; have hnp := hO.np; have hns := hO.ns; have hnr := hO.nr; have hpd := hO.npd
           first
           | omega
           | (have hxt := termB_iff.2 (hO.t _ (List.mem_of_getElem? hx)); have hyp := hO.pd _ (List.mem_of_getElem? hy); unfold inI at *; simp_all; done)
           | (have hxt := hO.p _ (List.mem_of_getElem? hx); have hyp := shB_iff.2 (hO.s _ (List.mem_of_getElem? hy)); unfold inI at *; simp_all; done)
           | (have hr := hO.r _ (List.mem_of_getElem? hx); have r1 := hr.a0; have r2 := hr.a1; have r3 := hr.k0; have r4 := hr.k1; have r5 := hr.f0; have r6 := hr.f1; have r7 := hr.l1; unfold inI at *; simp only [Bool.and_eq_false_iff, decide_eq_false_iff_not, Bool.and_eq_true, decide_eq_true_eq] at *; omega)
           | omega)
     ·have hG8 := hg8; try simp only [gS] at hG8
      refine o_v hf hh (yv_fieldAddr Try.fo_37_4 rfl) ?_; clear hf a; intro a hf
      refine o_v hf hh (y_ld Try.sc_22 rfl) ?_; clear hf a; intro a hf
      refine o_v hf hh (yv_len Try.se_22 rfl) ?_; clear hf a; intro a hf
      refine o_v hf hh (yv_fieldAddr Try.fo_37_0 rfl) ?_; clear hf a; intro a hf
      refine o_v hf hh (y_ld Try.sc_33 rfl) ?_; clear hf a; intro a hf
      refine o_v hf hh (yv_len Try.se_33 rfl) ?_; clear hf a; intro a hf
      refine o_v hf hh (yv_bin rfl rfl rfl) ?_; clear hf a; intro a hf
      refine o_v hf hh (y_pf rfl rfl) ?_; clear hf a; intro a hf
      refine o_end ?_
      refine sy_cond hf rfl (fun hg10 => ?_) (fun hg10 => ?_)
      ·have hG10 := hg10; try simp only [gS] at hG10
       refine sy_sq ?_
       refine o_v hf hh (yv_assign rfl) ?_; clear hf a; intro a hf
       refine o_end ?_
       refine sy_ret ?_
       refine then_r ?_
       refine ret_r hf rfl rfl ?_
       first
         | (refine ⟨congrArg Value.bool ?_, hh.ext⟩
            clear hf hh
            rw [show i = d.terms.length by omega, List.take_length] at hA1
            rw [show i = d.paid.length by omega, List.take_length] at hA2
            rw [show i2 = d.prices.length by omega, List.take_length] at hA3
            rw [show i2 = d.shares.length by omega, List.take_length] at hA4
            rw [show i3 = d.reps.length by omega, List.take_length] at hA5
            rw [royB_eq]; unfold sizeB monB
            rw [hA1, hA2, hA3, hA4, hA5, decide_eq_true hs1, decide_eq_true hs2, decide_eq_true hs3, decide_eq_true hs4, decide_eq_true hs5]; rfl)
         | (refine ⟨congrArg Value.bool (roy_no fun hO => ?_).symm, hh.ext⟩
            clear hf hh
            have hnt := hO.nt; have hnp := hO.np; have hns := hO.ns; have hnr := hO.nr; have hpd := hO.npd
            first
            | omega
            | (have hxt := termB_iff.2 (hO.t _ (List.mem_of_getElem? hx)); have hyp := hO.pd _ (List.mem_of_getElem? hy); unfold inI at *; simp_all; done)
            | (have hxt := hO.p _ (List.mem_of_getElem? hx); have hyp := shB_iff.2 (hO.s _ (List.mem_of_getElem? hy)); unfold inI at *; simp_all; done)
            | (have hr := hO.r _ (List.mem_of_getElem? hx); have r1 := hr.a0; have r2 := hr.a1; have r3 := hr.k0; have r4 := hr.k1; have r5 := hr.f0; have r6 := hr.f1; have r7 := hr.l1; unfold inI at *; simp only [Bool.and_eq_false_iff, decide_eq_false_iff_not, Bool.and_eq_true, decide_eq_true_eq] at *; omega)
            | omega)
      ·have hG10 := hg10; try simp only [gS] at hG10
       refine sy_skip ?_
       refine then_n ?_
       refine sy_seq ?_
       refine sy_seq ?_
       have hs1 : d.terms.length ≤ 4 := by omega
       have hs2 : d.prices.length ≤ 4 := by omega
       have hs3 : d.shares.length = d.prices.length := by omega
       have hs4 : d.reps.length ≤ 20 := by omega
       have hs5 : d.paid.length = d.terms.length := by omega
       refine sy_ops ?_
       refine o_v hf hh (yv_assign rfl) ?_; clear hf a; intro a hf
       refine o_end ?_
       refine sy_block ?_
       refine sy_loopF (σ := Nat) [2, 3, 41, 42, 43, 44, 45, 46, 47, 48, 49, 50, 51, 52, 53, 54, 55, 56, 57, 58, 59, 60, 61, 62, 63] (fun i => [(3, .int .i64 (i : Nat))]) (fun i => i ≤ d.terms.length ∧ (d.terms.take i).all termB = true ∧ (d.paid.take i).all (fun n => inI n 0 1099511627776) = true) (fun i => d.terms.length - i) (0) hf hh ?_ ?_ ?_
       · repeat' (first | exact True.intro | refine And.intro rfl ?_)
       · exact ⟨Nat.zero_le _, rfl, rfl⟩
       ·rintro i a w ⟨hi, hA1, hA2⟩ hf hh
        refine sy_seq ?_
        refine sy_sq ?_
        refine o_v hf hh (yv_move rfl) ?_; clear hf a; intro a hf
        refine o_v hf hh (yv_fieldAddr Try.fo_37_0 rfl) ?_; clear hf a; intro a hf
        refine o_v hf hh (y_ld Try.sc_33 rfl) ?_; clear hf a; intro a hf
        refine o_v hf hh (yv_len Try.se_33 rfl) ?_; clear hf a; intro a hf
        refine o_v hf hh (yv_bin rfl rfl rfl) ?_; clear hf a; intro a hf
        refine o_end ?_
        refine sy_cond hf rfl (fun hg12 => ?_) (fun hg12 => ?_)
        ·have hG12 := hg12; try simp only [gS] at hG12
         refine sy_skip ?_
         refine then_n ?_
         refine sy_seq ?_
         refine sy_block ?_
         refine sy_seq ?_
         obtain ⟨x, hx⟩ := ex_of (l := d.terms) (i := i) (by omega)
         obtain ⟨y, hy⟩ := ex_of (l := d.paid) (i := i) (by omega)
         obtain ⟨blk, off, cc, T, fr, e, hb, hc⟩ := hR.tm i x hx; dsimp only at e; subst e
         obtain ⟨blk2, off2, cc2, T2, fr2, e2, hb2, hc2⟩ := hR.pd i y hy; dsimp only at e2; subst e2
         refine sy_ops ?_
         refine o_v hf hh (yv_fieldAddr Try.fo_37_0 rfl) ?_; clear hf a; intro a hf
         refine o_v hf hh (y_ld Try.sc_33 rfl) ?_; clear hf a; intro a hf
         refine o_v hf hh (yv_move rfl) ?_; clear hf a; intro a hf
         refine o_v hf hh (y_ix Try.se_33 rfl rfl) ?_; clear hf a; intro a hf
         refine o_v hf hh (y_lds Try.ag_24 rfl) ?_; clear hf a; intro a hf
         refine o_call hf Try.en_39 rfl rfl rfl (p39 x _) ?_; clear hf a; intro v a w hR hf
         obtain ⟨rfl, hx⟩ := hR; replace hh := hh.more hx; clear hx
         refine o_v hf hh (yv_not rfl) ?_; clear hf a; intro a hf
         refine o_v hf hh (yv_move rfl) ?_; clear hf a; intro a hf
         refine guard_split hf (t := 55) rfl (fun hg14 => ?_) (fun hg14 => ?_)
         ·have hG14 := hg14; try simp only [gS] at hG14
          refine o_off hf ?_; clear hf a; intro a hf
          refine o_off hf ?_; clear hf a; intro a hf
          refine o_off hf ?_; clear hf a; intro a hf
          refine o_off hf ?_; clear hf a; intro a hf
          refine o_off hf ?_; clear hf a; intro a hf
          refine o_off hf ?_; clear hf a; intro a hf
          refine o_off hf ?_; clear hf a; intro a hf
          refine o_v hf hh (y_pt rfl rfl) ?_; clear hf a; intro a hf
          refine o_end ?_
          refine c_t hf ?_
          refine sy_sq ?_
          refine o_v hf hh (yv_assign rfl) ?_; clear hf a; intro a hf
          refine o_end ?_
          refine sy_ret ?_
          refine blk_r ?_
          refine then_r ?_
          refine then_r ?_
          refine blk_r ?_
          refine then_r ?_
          refine ret_r hf rfl rfl ?_
          first
            | (refine ⟨congrArg Value.bool ?_, hh.ext⟩
               clear hf hh
               rw [show i = d.terms.length by omega, List.take_length] at hA1
               rw [show i = d.paid.length by omega, List.take_length] at hA2
               rw [show i2 = d.prices.length by omega, List.take_length] at hA3
               rw [show i2 = d.shares.length by omega, List.take_length] at hA4
               rw [show i3 = d.reps.length by omega, List.take_length] at hA5
               rw [royB_eq]; unfold sizeB monB
               rw [hA1, hA2, hA3, hA4, hA5, decide_eq_true hs1, decide_eq_true hs2, decide_eq_true hs3, decide_eq_true hs4, decide_eq_true hs5]; rfl)
            | (refine ⟨congrArg Value.bool (roy_no fun hO => ?_).symm, hh.ext⟩
               clear hf hh
               have hnt := hO.nt; have hnp := hO.np; have hns := hO.ns; have hnr := hO.nr; have hpd := hO.npd
               first
               | omega
               | (have hxt := termB_iff.2 (hO.t _ (List.mem_of_getElem? hx)); have hyp := hO.pd _ (List.mem_of_getElem? hy); unfold inI at *; simp_all; done)
               | (have hxt := hO.p _ (List.mem_of_getElem? hx); have hyp := shB_iff.2 (hO.s _ (List.mem_of_getElem? hy)); unfold inI at *; simp_all; done)
               | (have hr := hO.r _ (List.mem_of_getElem? hx); have r1 := hr.a0; have r2 := hr.a1; have r3 := hr.k0; have r4 := hr.k1; have r5 := hr.f0; have r6 := hr.f1; have r7 := hr.l1; unfold inI at *; simp only [Bool.and_eq_false_iff, decide_eq_false_iff_not, Bool.and_eq_true, decide_eq_true_eq] at *; omega)
               | omega)
         ·have hG14 := hg14; try simp only [gS] at hG14
          refine o_v hf hh (yv_fieldAddr Try.fo_37_4 rfl) ?_; clear hf a; intro a hf
          refine o_v hf hh (y_ld Try.sc_22 rfl) ?_; clear hf a; intro a hf
          refine o_v hf hh (yv_move rfl) ?_; clear hf a; intro a hf
          refine o_v hf hh (y_ix Try.se_22 rfl rfl) ?_; clear hf a; intro a hf
          refine o_v hf hh (y_ld Try.sc_3 rfl) ?_; clear hf a; intro a hf
          refine o_call hf Try.en_51 rfl rfl rfl (p51 _ _ _ _) ?_; clear hf a; intro v a w hR hf
          obtain ⟨rfl, hx⟩ := hR; replace hh := hh.more hx; clear hx
          refine o_v hf hh (yv_not rfl) ?_; clear hf a; intro a hf
          refine o_v hf hh (y_pf rfl rfl) ?_; clear hf a; intro a hf
          refine o_end ?_
          refine sy_cond hf rfl (fun hg16 => ?_) (fun hg16 => ?_)
          ·have hG16 := hg16; try simp only [gS] at hG16
           refine sy_sq ?_
           refine o_v hf hh (yv_assign rfl) ?_; clear hf a; intro a hf
           refine o_end ?_
           refine sy_ret ?_
           refine blk_r ?_
           refine then_r ?_
           refine then_r ?_
           refine blk_r ?_
           refine then_r ?_
           refine ret_r hf rfl rfl ?_
           first
             | (refine ⟨congrArg Value.bool ?_, hh.ext⟩
                clear hf hh
                rw [show i = d.terms.length by omega, List.take_length] at hA1
                rw [show i = d.paid.length by omega, List.take_length] at hA2
                rw [show i2 = d.prices.length by omega, List.take_length] at hA3
                rw [show i2 = d.shares.length by omega, List.take_length] at hA4
                rw [show i3 = d.reps.length by omega, List.take_length] at hA5
                rw [royB_eq]; unfold sizeB monB
                rw [hA1, hA2, hA3, hA4, hA5, decide_eq_true hs1, decide_eq_true hs2, decide_eq_true hs3, decide_eq_true hs4, decide_eq_true hs5]; rfl)
             | (refine ⟨congrArg Value.bool (roy_no fun hO => ?_).symm, hh.ext⟩
                clear hf hh
                have hnt := hO.nt; have hnp := hO.np; have hns := hO.ns; have hnr := hO.nr; have hpd := hO.npd
                first
                | omega
                | (have hxt := termB_iff.2 (hO.t _ (List.mem_of_getElem? hx)); have hyp := hO.pd _ (List.mem_of_getElem? hy); unfold inI at *; simp_all; done)
                | (have hxt := hO.p _ (List.mem_of_getElem? hx); have hyp := shB_iff.2 (hO.s _ (List.mem_of_getElem? hy)); unfold inI at *; simp_all; done)
                | (have hr := hO.r _ (List.mem_of_getElem? hx); have r1 := hr.a0; have r2 := hr.a1; have r3 := hr.k0; have r4 := hr.k1; have r5 := hr.f0; have r6 := hr.f1; have r7 := hr.l1; unfold inI at *; simp only [Bool.and_eq_false_iff, decide_eq_false_iff_not, Bool.and_eq_true, decide_eq_true_eq] at *; omega)
                | omega)
          ·have hG16 := hg16; try simp only [gS] at hG16
           refine sy_skip ?_
           refine blk_n ?_
           refine then_n ?_
           refine sy_ops ?_
           refine o_v hf hh (yv_move rfl) ?_; clear hf a; intro a hf
           refine o_v hf hh (y_add rfl rfl) ?_; clear hf a; intro a hf
           refine o_v hf hh (yv_assign rfl) ?_; clear hf a; intro a hf
           refine ops_end ?_
           refine then_n ?_
           exact ⟨i + 1, ⟨⟨by omega, allT_take hA1 hx (by simp_all), all_take hA2 hy (by simp_all)⟩, (hf.head (by repeat' (first | exact True.intro | refine And.intro rfl ?_)) (Keep.cons rfl (Keep.cons rfl (Keep.cons rfl (Keep.cons rfl (Keep.cons rfl (Keep.cons rfl (Keep.cons rfl (Keep.cons rfl (Keep.cons rfl (Keep.cons rfl (Keep.cons rfl (Keep.cons rfl (Keep.cons rfl (Keep.cons rfl (Keep.cons rfl (Keep.cons rfl (Keep.cons rfl (Keep.cons rfl (Keep.cons rfl (Keep.cons rfl (Keep.cons rfl (Keep.cons rfl (Keep.cons rfl (Keep.cons rfl (Keep.app rfl (Keep.rm rfl Keep.base))))))))))))))))))))))))))), hh⟩, by omega⟩
        ·have hG12 := hg12; try simp only [gS] at hG12
         refine sy_exit ?_
         refine then_e ?_
         refine then_e ?_
         refine blk_e ?_
         refine then_n ?_
         refine sy_seq ?_
         refine sy_sq ?_
         refine o_v hf hh (yv_assign rfl) ?_; clear hf a; intro a hf
         refine o_end ?_
         refine sy_block ?_
         refine sy_loopF (σ := Nat) [2, 4, 64, 65, 66, 67, 68, 69, 70, 71, 72, 73, 74, 75, 76, 77, 78, 79, 80, 81, 82, 83, 84, 85, 86] (fun i2 => [(4, .int .i64 (i2 : Nat))]) (fun i2 => i2 ≤ d.prices.length ∧ (d.prices.take i2).all (fun n => inI n 0 1048576) = true ∧ (d.shares.take i2).all shB = true) (fun i2 => d.prices.length - i2) (0) hf hh ?_ ?_ ?_
         · repeat' (first | exact True.intro | refine And.intro rfl ?_)
         · exact ⟨Nat.zero_le _, rfl, rfl⟩
         ·rintro i2 a w ⟨hi2, hA3, hA4⟩ hf hh
          refine sy_seq ?_
          refine sy_sq ?_
          refine o_v hf hh (yv_move rfl) ?_; clear hf a; intro a hf
          refine o_v hf hh (yv_fieldAddr Try.fo_37_1 rfl) ?_; clear hf a; intro a hf
          refine o_v hf hh (y_ld Try.sc_22 rfl) ?_; clear hf a; intro a hf
          refine o_v hf hh (yv_len Try.se_22 rfl) ?_; clear hf a; intro a hf
          refine o_v hf hh (yv_bin rfl rfl rfl) ?_; clear hf a; intro a hf
          refine o_end ?_
          refine sy_cond hf rfl (fun hg18 => ?_) (fun hg18 => ?_)
          ·have hG18 := hg18; try simp only [gS] at hG18
           refine sy_skip ?_
           refine then_n ?_
           refine sy_seq ?_
           refine sy_block ?_
           refine sy_seq ?_
           obtain ⟨x, hx⟩ := ex_of (l := d.prices) (i := i2) (by omega)
           obtain ⟨y, hy⟩ := ex_of (l := d.shares) (i := i2) (by omega)
           obtain ⟨blk, off, cc, T, fr, e, hb, hc⟩ := hR.pr i2 x hx; dsimp only at e; subst e
           obtain ⟨blk2, off2, cc2, T2, fr2, sb, cb, e2, hb2, hc2, hI⟩ := hR.sh i2 y hy; dsimp only at e2; subst e2
           refine sy_ops ?_
           refine o_v hf hh (yv_fieldAddr Try.fo_37_1 rfl) ?_; clear hf a; intro a hf
           refine o_v hf hh (y_ld Try.sc_22 rfl) ?_; clear hf a; intro a hf
           refine o_v hf hh (yv_move rfl) ?_; clear hf a; intro a hf
           refine o_v hf hh (y_ix Try.se_22 rfl rfl) ?_; clear hf a; intro a hf
           refine o_v hf hh (y_ld Try.sc_3 rfl) ?_; clear hf a; intro a hf
           refine o_call hf Try.en_51 rfl rfl rfl (p51 _ _ _ _) ?_; clear hf a; intro v a w hR hf
           obtain ⟨rfl, hx⟩ := hR; replace hh := hh.more hx; clear hx
           refine o_v hf hh (yv_not rfl) ?_; clear hf a; intro a hf
           refine o_v hf hh (yv_move rfl) ?_; clear hf a; intro a hf
           refine guard_split hf (t := 78) rfl (fun hg20 => ?_) (fun hg20 => ?_)
           ·have hG20 := hg20; try simp only [gS] at hG20
            refine o_off hf ?_; clear hf a; intro a hf
            refine o_off hf ?_; clear hf a; intro a hf
            refine o_off hf ?_; clear hf a; intro a hf
            refine o_off hf ?_; clear hf a; intro a hf
            refine o_off hf ?_; clear hf a; intro a hf
            refine o_off hf ?_; clear hf a; intro a hf
            refine o_off hf ?_; clear hf a; intro a hf
            refine o_v hf hh (y_pt rfl rfl) ?_; clear hf a; intro a hf
            refine o_end ?_
            refine c_t hf ?_
            refine sy_sq ?_
            refine o_v hf hh (yv_assign rfl) ?_; clear hf a; intro a hf
            refine o_end ?_
            refine sy_ret ?_
            refine blk_r ?_
            refine then_r ?_
            refine then_r ?_
            refine blk_r ?_
            refine then_r ?_
            refine ret_r hf rfl rfl ?_
            first
              | (refine ⟨congrArg Value.bool ?_, hh.ext⟩
                 clear hf hh
                 rw [show i = d.terms.length by omega, List.take_length] at hA1
                 rw [show i = d.paid.length by omega, List.take_length] at hA2
                 rw [show i2 = d.prices.length by omega, List.take_length] at hA3
                 rw [show i2 = d.shares.length by omega, List.take_length] at hA4
                 rw [show i3 = d.reps.length by omega, List.take_length] at hA5
                 rw [royB_eq]; unfold sizeB monB
                 rw [hA1, hA2, hA3, hA4, hA5, decide_eq_true hs1, decide_eq_true hs2, decide_eq_true hs3, decide_eq_true hs4, decide_eq_true hs5]; rfl)
              | (refine ⟨congrArg Value.bool (roy_no fun hO => ?_).symm, hh.ext⟩
                 clear hf hh
                 have hnt := hO.nt; have hnp := hO.np; have hns := hO.ns; have hnr := hO.nr; have hpd := hO.npd
                 first
                 | omega
                 | (have hxt := termB_iff.2 (hO.t _ (List.mem_of_getElem? hx)); have hyp := hO.pd _ (List.mem_of_getElem? hy); unfold inI at *; simp_all; done)
                 | (have hxt := hO.p _ (List.mem_of_getElem? hx); have hyp := shB_iff.2 (hO.s _ (List.mem_of_getElem? hy)); unfold inI at *; simp_all; done)
                 | (have hr := hO.r _ (List.mem_of_getElem? hx); have r1 := hr.a0; have r2 := hr.a1; have r3 := hr.k0; have r4 := hr.k1; have r5 := hr.f0; have r6 := hr.f1; have r7 := hr.l1; unfold inI at *; simp only [Bool.and_eq_false_iff, decide_eq_false_iff_not, Bool.and_eq_true, decide_eq_true_eq] at *; omega)
                 | omega)
           ·have hG20 := hg20; try simp only [gS] at hG20
            refine o_v hf hh (yv_fieldAddr Try.fo_37_2 rfl) ?_; clear hf a; intro a hf
            refine o_v hf hh (y_ld Try.sc_34 rfl) ?_; clear hf a; intro a hf
            refine o_v hf hh (yv_move rfl) ?_; clear hf a; intro a hf
            refine o_v hf hh (y_ix Try.se_34 rfl rfl) ?_; clear hf a; intro a hf
            refine o_v hf hh (y_ld Try.sc_22 rfl) ?_; clear hf a; intro a hf
            refine o_call hf Try.en_37 rfl rfl rfl (p37 y sb cb _ (hI.ext hh.ext) (hR.n6 y (List.mem_of_getElem? hy))) ?_; clear hf a; intro v a w hR hf
            obtain ⟨rfl, hx⟩ := hR; replace hh := hh.more hx; clear hx
            refine o_v hf hh (yv_not rfl) ?_; clear hf a; intro a hf
            refine o_v hf hh (y_pf rfl rfl) ?_; clear hf a; intro a hf
            refine o_end ?_
            refine sy_cond hf rfl (fun hg22 => ?_) (fun hg22 => ?_)
            ·have hG22 := hg22; try simp only [gS] at hG22
             refine sy_sq ?_
             refine o_v hf hh (yv_assign rfl) ?_; clear hf a; intro a hf
             refine o_end ?_
             refine sy_ret ?_
             refine blk_r ?_
             refine then_r ?_
             refine then_r ?_
             refine blk_r ?_
             refine then_r ?_
             refine ret_r hf rfl rfl ?_
             first
               | (refine ⟨congrArg Value.bool ?_, hh.ext⟩
                  clear hf hh
                  rw [show i = d.terms.length by omega, List.take_length] at hA1
                  rw [show i = d.paid.length by omega, List.take_length] at hA2
                  rw [show i2 = d.prices.length by omega, List.take_length] at hA3
                  rw [show i2 = d.shares.length by omega, List.take_length] at hA4
                  rw [show i3 = d.reps.length by omega, List.take_length] at hA5
                  rw [royB_eq]; unfold sizeB monB
                  rw [hA1, hA2, hA3, hA4, hA5, decide_eq_true hs1, decide_eq_true hs2, decide_eq_true hs3, decide_eq_true hs4, decide_eq_true hs5]; rfl)
               | (refine ⟨congrArg Value.bool (roy_no fun hO => ?_).symm, hh.ext⟩
                  clear hf hh
                  have hnt := hO.nt; have hnp := hO.np; have hns := hO.ns; have hnr := hO.nr; have hpd := hO.npd
                  first
                  | omega
                  | (have hxt := termB_iff.2 (hO.t _ (List.mem_of_getElem? hx)); have hyp := hO.pd _ (List.mem_of_getElem? hy); unfold inI at *; simp_all; done)
                  | (have hxt := hO.p _ (List.mem_of_getElem? hx); have hyp := shB_iff.2 (hO.s _ (List.mem_of_getElem? hy)); unfold inI at *; simp_all; done)
                  | (have hr := hO.r _ (List.mem_of_getElem? hx); have r1 := hr.a0; have r2 := hr.a1; have r3 := hr.k0; have r4 := hr.k1; have r5 := hr.f0; have r6 := hr.f1; have r7 := hr.l1; unfold inI at *; simp only [Bool.and_eq_false_iff, decide_eq_false_iff_not, Bool.and_eq_true, decide_eq_true_eq] at *; omega)
                  | omega)
            ·have hG22 := hg22; try simp only [gS] at hG22
             refine sy_skip ?_
             refine blk_n ?_
             refine then_n ?_
             refine sy_ops ?_
             refine o_v hf hh (yv_move rfl) ?_; clear hf a; intro a hf
             refine o_v hf hh (y_add rfl rfl) ?_; clear hf a; intro a hf
             refine o_v hf hh (yv_assign rfl) ?_; clear hf a; intro a hf
             refine ops_end ?_
             refine then_n ?_
             exact ⟨i2 + 1, ⟨⟨by omega, all_take hA3 hx (by simp_all), allT_take hA4 hy (by simp_all)⟩, (hf.head (by repeat' (first | exact True.intro | refine And.intro rfl ?_)) (Keep.cons rfl (Keep.cons rfl (Keep.cons rfl (Keep.cons rfl (Keep.cons rfl (Keep.cons rfl (Keep.cons rfl (Keep.cons rfl (Keep.cons rfl (Keep.cons rfl (Keep.cons rfl (Keep.cons rfl (Keep.cons rfl (Keep.cons rfl (Keep.cons rfl (Keep.cons rfl (Keep.cons rfl (Keep.cons rfl (Keep.cons rfl (Keep.cons rfl (Keep.cons rfl (Keep.cons rfl (Keep.cons rfl (Keep.cons rfl (Keep.app rfl (Keep.rm rfl Keep.base))))))))))))))))))))))))))), hh⟩, by omega⟩
          ·have hG18 := hg18; try simp only [gS] at hG18
           refine sy_exit ?_
           refine then_e ?_
           refine then_e ?_
           refine blk_e ?_
           refine then_n ?_
           refine sy_seq ?_
           refine sy_sq ?_
           refine o_v hf hh (yv_assign rfl) ?_; clear hf a; intro a hf
           refine o_end ?_
           refine sy_block ?_
           refine sy_loopF (σ := Nat) [2, 5, 6, 87, 88, 89, 90, 91, 92, 93, 94, 95, 96, 97, 98, 99, 100, 101, 102, 103, 104, 105, 106, 107, 108, 109, 110, 111, 112, 113, 114, 115, 116, 117, 118, 119, 120, 121, 122, 123, 124, 125, 126, 127, 128, 129] (fun i3 => [(5, .int .i64 (i3 : Nat))]) (fun i3 => i3 ≤ d.reps.length ∧ (d.reps.take i3).all (repB d) = true) (fun i3 => d.reps.length - i3) (0) hf hh ?_ ?_ ?_
           · repeat' (first | exact True.intro | refine And.intro rfl ?_)
           · exact ⟨Nat.zero_le _, rfl⟩
           ·rintro i3 a w ⟨hi3, hA5⟩ hf hh
            refine sy_seq ?_
            refine sy_sq ?_
            refine o_v hf hh (yv_move rfl) ?_; clear hf a; intro a hf
            refine o_v hf hh (yv_fieldAddr Try.fo_37_3 rfl) ?_; clear hf a; intro a hf
            refine o_v hf hh (y_ld Try.sc_35 rfl) ?_; clear hf a; intro a hf
            refine o_v hf hh (yv_len Try.se_35 rfl) ?_; clear hf a; intro a hf
            refine o_v hf hh (yv_bin rfl rfl rfl) ?_; clear hf a; intro a hf
            refine o_end ?_
            refine sy_cond hf rfl (fun hg24 => ?_) (fun hg24 => ?_)
            ·have hG24 := hg24; try simp only [gS] at hG24
             refine sy_skip ?_
             refine then_n ?_
             refine sy_seq ?_
             refine sy_block ?_
             refine sy_seq ?_
             obtain ⟨x, hx⟩ := ex_of (l := d.reps) (i := i3) (by omega)
             obtain ⟨blk, off, cc, T, fr, e, hb, hc⟩ := hR.rp i3 x hx; dsimp only at e; subst e
             refine sy_ops ?_
             refine o_v hf hh (yv_fieldAddr Try.fo_37_3 rfl) ?_; clear hf a; intro a hf
             refine o_v hf hh (y_ld Try.sc_35 rfl) ?_; clear hf a; intro a hf
             refine o_v hf hh (yv_move rfl) ?_; clear hf a; intro a hf
             refine o_v hf hh (y_ix Try.se_35 rfl rfl) ?_; clear hf a; intro a hf
             refine o_v hf hh (y_lds Try.ag_66 rfl) ?_; clear hf a; intro a hf
             refine o_alloc hf hh Try.ze_66 ?_; clear hf hh a; intro B6 a w hf hh
             refine o_store hf hh Try.sz_66 fun w hh => ?_
             refine o_end ?_
             refine sy_sq ?_
             refine o_v hf hh (yv_fieldAddr Try.fo_66_0 rfl) ?_; clear hf a; intro a hf
             refine o_v hf hh (y_ld Try.sc_3 rfl) ?_; clear hf a; intro a hf
             refine o_v hf hh (yv_fieldAddr Try.fo_37_0 rfl) ?_; clear hf a; intro a hf
             refine o_v hf hh (y_ld Try.sc_33 rfl) ?_; clear hf a; intro a hf
             refine o_v hf hh (yv_len Try.se_33 rfl) ?_; clear hf a; intro a hf
             refine o_v hf hh (y_sub rfl rfl) ?_; clear hf a; intro a hf
             refine o_call hf Try.en_51 rfl rfl rfl (p51 _ _ _ _) ?_; clear hf a; intro v a w hR hf
             obtain ⟨rfl, hx⟩ := hR; replace hh := hh.more hx; clear hx
             refine o_v hf hh (yv_not rfl) ?_; clear hf a; intro a hf
             refine o_v hf hh (yv_move rfl) ?_; clear hf a; intro a hf
             refine guard_split hf (t := 107) rfl (fun hg26 => ?_) (fun hg26 => ?_)
             ·have hG26 := hg26; try simp only [gS] at hG26
              refine o_off hf ?_; clear hf a; intro a hf
              refine o_off hf ?_; clear hf a; intro a hf
              refine o_off hf ?_; clear hf a; intro a hf
              refine o_off hf ?_; clear hf a; intro a hf
              refine o_off hf ?_; clear hf a; intro a hf
              refine o_off hf ?_; clear hf a; intro a hf
              refine o_off hf ?_; clear hf a; intro a hf
              refine o_off hf ?_; clear hf a; intro a hf
              refine o_v hf hh (y_pt rfl rfl) ?_; clear hf a; intro a hf
              refine o_v hf hh (yv_move rfl) ?_; clear hf a; intro a hf
              refine o_off hf ?_; clear hf a; intro a hf
              refine o_off hf ?_; clear hf a; intro a hf
              refine o_off hf ?_; clear hf a; intro a hf
              refine o_off hf ?_; clear hf a; intro a hf
              refine o_off hf ?_; clear hf a; intro a hf
              refine o_off hf ?_; clear hf a; intro a hf
              refine o_v hf hh (y_pt rfl rfl) ?_; clear hf a; intro a hf
              refine o_v hf hh (yv_move rfl) ?_; clear hf a; intro a hf
              refine o_off hf ?_; clear hf a; intro a hf
              refine o_off hf ?_; clear hf a; intro a hf
              refine o_off hf ?_; clear hf a; intro a hf
              refine o_v hf hh (y_pt rfl rfl) ?_; clear hf a; intro a hf
              refine o_end ?_
              refine c_t hf ?_
              refine sy_sq ?_
              refine o_v hf hh (yv_assign rfl) ?_; clear hf a; intro a hf
              refine o_end ?_
              refine sy_ret ?_
              refine blk_r ?_
              refine then_r ?_
              refine then_r ?_
              refine blk_r ?_
              refine then_r ?_
              refine ret_r hf rfl rfl ?_
              first
                | (refine ⟨congrArg Value.bool ?_, hh.ext⟩
                   clear hf hh
                   rw [show i = d.terms.length by omega, List.take_length] at hA1
                   rw [show i = d.paid.length by omega, List.take_length] at hA2
                   rw [show i2 = d.prices.length by omega, List.take_length] at hA3
                   rw [show i2 = d.shares.length by omega, List.take_length] at hA4
                   rw [show i3 = d.reps.length by omega, List.take_length] at hA5
                   rw [royB_eq]; unfold sizeB monB
                   rw [hA1, hA2, hA3, hA4, hA5, decide_eq_true hs1, decide_eq_true hs2, decide_eq_true hs3, decide_eq_true hs4, decide_eq_true hs5]; rfl)
                | (refine ⟨congrArg Value.bool (roy_no fun hO => ?_).symm, hh.ext⟩
                   clear hf hh
                   have hnt := hO.nt; have hnp := hO.np; have hns := hO.ns; have hnr := hO.nr; have hpd := hO.npd
                   first
                   | omega
                   | (have hxt := termB_iff.2 (hO.t _ (List.mem_of_getElem? hx)); have hyp := hO.pd _ (List.mem_of_getElem? hy); unfold inI at *; simp_all; done)
                   | (have hxt := hO.p _ (List.mem_of_getElem? hx); have hyp := shB_iff.2 (hO.s _ (List.mem_of_getElem? hy)); unfold inI at *; simp_all; done)
                   | (have hr := hO.r _ (List.mem_of_getElem? hx); have r1 := hr.a0; have r2 := hr.a1; have r3 := hr.k0; have r4 := hr.k1; have r5 := hr.f0; have r6 := hr.f1; have r7 := hr.l1; unfold inI at *; simp only [Bool.and_eq_false_iff, decide_eq_false_iff_not, Bool.and_eq_true, decide_eq_true_eq] at *; omega)
                   | omega)
             ·have hG26 := hg26; try simp only [gS] at hG26
              refine o_v hf hh (yv_fieldAddr Try.fo_66_1 rfl) ?_; clear hf a; intro a hf
              refine o_v hf hh (y_ld Try.sc_3 rfl) ?_; clear hf a; intro a hf
              refine o_v hf hh (yv_fieldAddr Try.fo_37_1 rfl) ?_; clear hf a; intro a hf
              refine o_v hf hh (y_ld Try.sc_22 rfl) ?_; clear hf a; intro a hf
              refine o_v hf hh (yv_len Try.se_22 rfl) ?_; clear hf a; intro a hf
              refine o_v hf hh (y_sub rfl rfl) ?_; clear hf a; intro a hf
              refine o_call hf Try.en_51 rfl rfl rfl (p51 _ _ _ _) ?_; clear hf a; intro v a w hR hf
              obtain ⟨rfl, hx⟩ := hR; replace hh := hh.more hx; clear hx
              refine o_v hf hh (yv_not rfl) ?_; clear hf a; intro a hf
              refine o_v hf hh (y_pf rfl rfl) ?_; clear hf a; intro a hf
              refine o_v hf hh (yv_move rfl) ?_; clear hf a; intro a hf
              refine guard_split hf (t := 117) rfl (fun hg28 => ?_) (fun hg28 => ?_)
              ·have hG28 := hg28; try simp only [gS] at hG28
               refine o_off hf ?_; clear hf a; intro a hf
               refine o_off hf ?_; clear hf a; intro a hf
               refine o_off hf ?_; clear hf a; intro a hf
               refine o_off hf ?_; clear hf a; intro a hf
               refine o_off hf ?_; clear hf a; intro a hf
               refine o_off hf ?_; clear hf a; intro a hf
               refine o_v hf hh (y_pt rfl rfl) ?_; clear hf a; intro a hf
               refine o_v hf hh (yv_move rfl) ?_; clear hf a; intro a hf
               refine o_off hf ?_; clear hf a; intro a hf
               refine o_off hf ?_; clear hf a; intro a hf
               refine o_off hf ?_; clear hf a; intro a hf
               refine o_v hf hh (y_pt rfl rfl) ?_; clear hf a; intro a hf
               refine o_end ?_
               refine c_t hf ?_
               refine sy_sq ?_
               refine o_v hf hh (yv_assign rfl) ?_; clear hf a; intro a hf
               refine o_end ?_
               refine sy_ret ?_
               refine blk_r ?_
               refine then_r ?_
               refine then_r ?_
               refine blk_r ?_
               refine then_r ?_
               refine ret_r hf rfl rfl ?_
               first
                 | (refine ⟨congrArg Value.bool ?_, hh.ext⟩
                    clear hf hh
                    rw [show i = d.terms.length by omega, List.take_length] at hA1
                    rw [show i = d.paid.length by omega, List.take_length] at hA2
                    rw [show i2 = d.prices.length by omega, List.take_length] at hA3
                    rw [show i2 = d.shares.length by omega, List.take_length] at hA4
                    rw [show i3 = d.reps.length by omega, List.take_length] at hA5
                    rw [royB_eq]; unfold sizeB monB
                    rw [hA1, hA2, hA3, hA4, hA5, decide_eq_true hs1, decide_eq_true hs2, decide_eq_true hs3, decide_eq_true hs4, decide_eq_true hs5]; rfl)
                 | (refine ⟨congrArg Value.bool (roy_no fun hO => ?_).symm, hh.ext⟩
                    clear hf hh
                    have hnt := hO.nt; have hnp := hO.np; have hns := hO.ns; have hnr := hO.nr; have hpd := hO.npd
                    first
                    | omega
                    | (have hxt := termB_iff.2 (hO.t _ (List.mem_of_getElem? hx)); have hyp := hO.pd _ (List.mem_of_getElem? hy); unfold inI at *; simp_all; done)
                    | (have hxt := hO.p _ (List.mem_of_getElem? hx); have hyp := shB_iff.2 (hO.s _ (List.mem_of_getElem? hy)); unfold inI at *; simp_all; done)
                    | (have hr := hO.r _ (List.mem_of_getElem? hx); have r1 := hr.a0; have r2 := hr.a1; have r3 := hr.k0; have r4 := hr.k1; have r5 := hr.f0; have r6 := hr.f1; have r7 := hr.l1; unfold inI at *; simp only [Bool.and_eq_false_iff, decide_eq_false_iff_not, Bool.and_eq_true, decide_eq_true_eq] at *; omega)
                    | omega)
              ·have hG28 := hg28; try simp only [gS] at hG28
               refine o_v hf hh (yv_fieldAddr Try.fo_66_2 rfl) ?_; clear hf a; intro a hf
               refine o_v hf hh (y_ld Try.sc_3 rfl) ?_; clear hf a; intro a hf
               refine o_v hf hh (yv_fieldAddr Try.fo_66_3 rfl) ?_; clear hf a; intro a hf
               refine o_v hf hh (y_ld Try.sc_3 rfl) ?_; clear hf a; intro a hf
               refine o_call hf Try.en_51 rfl rfl rfl (p51 _ _ _ _) ?_; clear hf a; intro v a w hR hf
               obtain ⟨rfl, hx⟩ := hR; replace hh := hh.more hx; clear hx
               refine o_v hf hh (yv_not rfl) ?_; clear hf a; intro a hf
               refine o_v hf hh (y_pf rfl rfl) ?_; clear hf a; intro a hf
               refine o_v hf hh (yv_move rfl) ?_; clear hf a; intro a hf
               refine guard_split hf (t := 125) rfl (fun hg30 => ?_) (fun hg30 => ?_)
               ·have hG30 := hg30; try simp only [gS] at hG30
                refine o_off hf ?_; clear hf a; intro a hf
                refine o_off hf ?_; clear hf a; intro a hf
                refine o_off hf ?_; clear hf a; intro a hf
                refine o_v hf hh (y_pt rfl rfl) ?_; clear hf a; intro a hf
                refine o_end ?_
                refine c_t hf ?_
                refine sy_sq ?_
                refine o_v hf hh (yv_assign rfl) ?_; clear hf a; intro a hf
                refine o_end ?_
                refine sy_ret ?_
                refine blk_r ?_
                refine then_r ?_
                refine then_r ?_
                refine blk_r ?_
                refine then_r ?_
                refine ret_r hf rfl rfl ?_
                first
                  | (refine ⟨congrArg Value.bool ?_, hh.ext⟩
                     clear hf hh
                     rw [show i = d.terms.length by omega, List.take_length] at hA1
                     rw [show i = d.paid.length by omega, List.take_length] at hA2
                     rw [show i2 = d.prices.length by omega, List.take_length] at hA3
                     rw [show i2 = d.shares.length by omega, List.take_length] at hA4
                     rw [show i3 = d.reps.length by omega, List.take_length] at hA5
                     rw [royB_eq]; unfold sizeB monB
                     rw [hA1, hA2, hA3, hA4, hA5, decide_eq_true hs1, decide_eq_true hs2, decide_eq_true hs3, decide_eq_true hs4, decide_eq_true hs5]; rfl)
                  | (refine ⟨congrArg Value.bool (roy_no fun hO => ?_).symm, hh.ext⟩
                     clear hf hh
                     have hnt := hO.nt; have hnp := hO.np; have hns := hO.ns; have hnr := hO.nr; have hpd := hO.npd
                     first
                     | omega
                     | (have hxt := termB_iff.2 (hO.t _ (List.mem_of_getElem? hx)); have hyp := hO.pd _ (List.mem_of_getElem? hy); unfold inI at *; simp_all; done)
                     | (have hxt := hO.p _ (List.mem_of_getElem? hx); have hyp := shB_iff.2 (hO.s _ (List.mem_of_getElem? hy)); unfold inI at *; simp_all; done)
                     | (have hr := hO.r _ (List.mem_of_getElem? hx); have r1 := hr.a0; have r2 := hr.a1; have r3 := hr.k0; have r4 := hr.k1; have r5 := hr.f0; have r6 := hr.f1; have r7 := hr.l1; unfold inI at *; simp only [Bool.and_eq_false_iff, decide_eq_false_iff_not, Bool.and_eq_true, decide_eq_true_eq] at *; omega)
                     | omega)
               ·have hG30 := hg30; try simp only [gS] at hG30
                refine o_v hf hh (yv_fieldAddr Try.fo_66_3 rfl) ?_; clear hf a; intro a hf
                refine o_v hf hh (y_ld Try.sc_3 rfl) ?_; clear hf a; intro a hf
                refine o_v hf hh (yv_bin rfl rfl rfl) ?_; clear hf a; intro a hf
                refine o_v hf hh (y_pf rfl rfl) ?_; clear hf a; intro a hf
                refine o_end ?_
                refine sy_cond hf rfl (fun hg32 => ?_) (fun hg32 => ?_)
                ·have hG32 := hg32; try simp only [gS] at hG32
                 refine sy_sq ?_
                 refine o_v hf hh (yv_assign rfl) ?_; clear hf a; intro a hf
                 refine o_end ?_
                 refine sy_ret ?_
                 refine blk_r ?_
                 refine then_r ?_
                 refine then_r ?_
                 refine blk_r ?_
                 refine then_r ?_
                 refine ret_r hf rfl rfl ?_
                 first
                   | (refine ⟨congrArg Value.bool ?_, hh.ext⟩
                      clear hf hh
                      rw [show i = d.terms.length by omega, List.take_length] at hA1
                      rw [show i = d.paid.length by omega, List.take_length] at hA2
                      rw [show i2 = d.prices.length by omega, List.take_length] at hA3
                      rw [show i2 = d.shares.length by omega, List.take_length] at hA4
                      rw [show i3 = d.reps.length by omega, List.take_length] at hA5
                      rw [royB_eq]; unfold sizeB monB
                      rw [hA1, hA2, hA3, hA4, hA5, decide_eq_true hs1, decide_eq_true hs2, decide_eq_true hs3, decide_eq_true hs4, decide_eq_true hs5]; rfl)
                   | (refine ⟨congrArg Value.bool (roy_no fun hO => ?_).symm, hh.ext⟩
                      clear hf hh
                      have hnt := hO.nt; have hnp := hO.np; have hns := hO.ns; have hnr := hO.nr; have hpd := hO.npd
                      first
                      | omega
                      | (have hxt := termB_iff.2 (hO.t _ (List.mem_of_getElem? hx)); have hyp := hO.pd _ (List.mem_of_getElem? hy); unfold inI at *; simp_all; done)
                      | (have hxt := hO.p _ (List.mem_of_getElem? hx); have hyp := shB_iff.2 (hO.s _ (List.mem_of_getElem? hy)); unfold inI at *; simp_all; done)
                      | (have hr := hO.r _ (List.mem_of_getElem? hx); have r1 := hr.a0; have r2 := hr.a1; have r3 := hr.k0; have r4 := hr.k1; have r5 := hr.f0; have r6 := hr.f1; have r7 := hr.l1; unfold inI at *; simp only [Bool.and_eq_false_iff, decide_eq_false_iff_not, Bool.and_eq_true, decide_eq_true_eq] at *; omega)
                      | omega)
                ·have hG32 := hg32; try simp only [gS] at hG32
                 refine sy_skip ?_
                 refine blk_n ?_
                 refine then_n ?_
                 refine sy_ops ?_
                 refine o_v hf hh (yv_move rfl) ?_; clear hf a; intro a hf
                 refine o_v hf hh (y_add rfl rfl) ?_; clear hf a; intro a hf
                 refine o_v hf hh (yv_assign rfl) ?_; clear hf a; intro a hf
                 refine ops_end ?_
                 refine then_n ?_
                 exact ⟨i3 + 1, ⟨⟨by omega, allT_take hA5 hx (by rw [repB_in]; simp_all)⟩, (hf.head (by repeat' (first | exact True.intro | refine And.intro rfl ?_)) (Keep.cons rfl (Keep.cons rfl (Keep.cons rfl (Keep.cons rfl (Keep.cons rfl (Keep.cons rfl (Keep.cons rfl (Keep.cons rfl (Keep.cons rfl (Keep.cons rfl (Keep.cons rfl (Keep.cons rfl (Keep.cons rfl (Keep.cons rfl (Keep.cons rfl (Keep.cons rfl (Keep.cons rfl (Keep.cons rfl (Keep.cons rfl (Keep.cons rfl (Keep.cons rfl (Keep.cons rfl (Keep.cons rfl (Keep.cons rfl (Keep.cons rfl (Keep.cons rfl (Keep.cons rfl (Keep.cons rfl (Keep.cons rfl (Keep.cons rfl (Keep.cons rfl (Keep.cons rfl (Keep.cons rfl (Keep.cons rfl (Keep.cons rfl (Keep.cons rfl (Keep.cons rfl (Keep.cons rfl (Keep.cons rfl (Keep.cons rfl (Keep.cons rfl (Keep.cons rfl (Keep.cons rfl (Keep.cons rfl (Keep.cons rfl (Keep.app rfl (Keep.rm rfl Keep.base)))))))))))))))))))))))))))))))))))))))))))))))), hh.less (.cons _ (List.Sublist.refl _))⟩, by omega⟩
            ·have hG24 := hg24; try simp only [gS] at hG24
             refine sy_exit ?_
             refine then_e ?_
             refine then_e ?_
             refine blk_e ?_
             refine then_n ?_
             refine sy_sq ?_
             refine o_v hf hh (yv_assign rfl) ?_; clear hf a; intro a hf
             refine o_end ?_
             refine sy_ret ?_
             refine ret_r hf rfl rfl ?_
             first
               | (refine ⟨congrArg Value.bool ?_, hh.ext⟩
                  clear hf hh
                  rw [show i = d.terms.length by omega, List.take_length] at hA1
                  rw [show i = d.paid.length by omega, List.take_length] at hA2
                  rw [show i2 = d.prices.length by omega, List.take_length] at hA3
                  rw [show i2 = d.shares.length by omega, List.take_length] at hA4
                  rw [show i3 = d.reps.length by omega, List.take_length] at hA5
                  rw [royB_eq]; unfold sizeB monB
                  rw [hA1, hA2, hA3, hA4, hA5, decide_eq_true hs1, decide_eq_true hs2, decide_eq_true hs3, decide_eq_true hs4, decide_eq_true hs5]; rfl)
               | (refine ⟨congrArg Value.bool (roy_no fun hO => ?_).symm, hh.ext⟩
                  clear hf hh
                  have hnt := hO.nt; have hnp := hO.np; have hns := hO.ns; have hnr := hO.nr; have hpd := hO.npd
                  first
                  | omega
                  | (have hxt := termB_iff.2 (hO.t _ (List.mem_of_getElem? hx)); have hyp := hO.pd _ (List.mem_of_getElem? hy); unfold inI at *; simp_all; done)
                  | (have hxt := hO.p _ (List.mem_of_getElem? hx); have hyp := shB_iff.2 (hO.s _ (List.mem_of_getElem? hy)); unfold inI at *; simp_all; done)
                  | (have hr := hO.r _ (List.mem_of_getElem? hx); have r1 := hr.a0; have r2 := hr.a1; have r3 := hr.k0; have r4 := hr.k1; have r5 := hr.f0; have r6 := hr.f1; have r7 := hr.l1; unfold inI at *; simp only [Bool.and_eq_false_iff, decide_eq_false_iff_not, Bool.and_eq_true, decide_eq_true_eq] at *; omega)
                  | omega)
theorem p66 (d : RoyD) (p : Pl) (b : Bool) (u : World) (hR : RoyAt u d p) : Calls Try.prog 66 #[.agg (royC d p), .bool b] u (Ret fun v w' => v = .int .i64 (openE d b) ∧ Ext [] u w') := by
  refine calls_of Try.func66 rfl rfl (fun a hf => ?_)
  have hh := Hp.init u []
  refine sy_sq ?_
  refine o_box hf hh ?_; clear hf hh a; intro B2 a w hf hh
  refine o_v hf hh (yv_assign rfl) ?_; clear hf a; intro a hf
  refine o_end ?_
  refine sy_seq ?_
  refine sy_sq ?_
  refine o_v hf hh (y_lds Try.ag_37 rfl) ?_; clear hf a; intro a hf
  refine o_call hf Try.en_40 rfl rfl rfl (p40 d p _ (hR.ext hh.ext)) ?_; clear hf a; intro v a w hR hf
  obtain ⟨rfl, hx⟩ := hR; replace hh := hh.more hx; clear hx
  refine o_v hf hh (yv_not rfl) ?_; clear hf a; intro a hf
  refine o_end ?_
  refine sy_cond hf rfl (fun hg2 => ?_) (fun hg2 => ?_)
  ·have hG2 := hg2; try simp only [gS] at hG2
   refine sy_sq ?_
   refine o_v hf hh (yv_assign rfl) ?_; clear hf a; intro a hf
   refine o_end ?_
   refine sy_ret ?_
   refine then_r ?_
   refine ret_r hf rfl rfl ?_
   exact ⟨intv (by unfold openE; simp_all), hh.ext⟩
  ·have hG2 := hg2; try simp only [gS] at hG2
   refine sy_skip ?_
   refine then_n ?_
   refine sy_seq ?_
   refine sy_sq ?_
   refine o_v hf hh (yv_move rfl) ?_; clear hf a; intro a hf
   refine o_v hf hh (yv_not rfl) ?_; clear hf a; intro a hf
   refine o_end ?_
   refine sy_cond hf rfl (fun hg4 => ?_) (fun hg4 => ?_)
   ·have hG4 := hg4; try simp only [gS] at hG4
    refine sy_sq ?_
    refine o_v hf hh (yv_assign rfl) ?_; clear hf a; intro a hf
    refine o_end ?_
    refine sy_ret ?_
    refine then_r ?_
    refine ret_r hf rfl rfl ?_
    exact ⟨intv (by unfold openE; simp_all), hh.ext⟩
   ·have hG4 := hg4; try simp only [gS] at hG4
    refine sy_skip ?_
    refine then_n ?_
    refine sy_sq ?_
    refine o_v hf hh (yv_assign rfl) ?_; clear hf a; intro a hf
    refine o_end ?_
    refine sy_ret ?_
    refine ret_r hf rfl rfl ?_
    exact ⟨intv (by unfold openE; simp_all), hh.ext⟩
theorem p67 (d : RoyD) (p : Pl) (g : Int) (u : World) (hn : d.terms.length ≤ 1000) : Calls Try.prog 67 #[.agg (royC d p), .int .i64 g] u (Ret fun v w' => v = .bool (isAg d g) ∧ Ext [] u w') := by
  refine calls_of Try.func67 rfl rfl (fun a hf => ?_)
  have hh := Hp.init u []
  refine sy_sq ?_
  refine o_box hf hh ?_; clear hf hh a; intro B2 a w hf hh
  refine o_v hf hh (yv_assign rfl) ?_; clear hf a; intro a hf
  refine o_end ?_
  refine sy_sq ?_
  refine o_v hf hh (yv_move rfl) ?_; clear hf a; intro a hf
  refine o_v hf hh (yv_fieldAddr Try.fo_37_0 rfl) ?_; clear hf a; intro a hf
  refine o_v hf hh (y_ld Try.sc_33 rfl) ?_; clear hf a; intro a hf
  refine o_v hf hh (yv_len Try.se_33 rfl) ?_; clear hf a; intro a hf
  refine o_v hf hh (y_sub rfl rfl) ?_; clear hf a; intro a hf
  refine o_call hf Try.en_51 rfl rfl rfl (p51 _ _ _ _) ?_; clear hf a; intro v a w hR hf
  obtain ⟨rfl, hx⟩ := hR; replace hh := hh.more hx; clear hx
  refine o_v hf hh (yv_assign rfl) ?_; clear hf a; intro a hf
  refine o_end ?_
  refine sy_ret ?_
  refine ret_r hf rfl rfl ?_
  exact ⟨rfl, hh.ext⟩
theorem p43 (d : RoyD) (p : Pl) (g : Int) (u : World) (hn : d.prices.length ≤ 1000) : Calls Try.prog 43 #[.agg (royC d p), .int .i64 g] u (Ret fun v w' => v = .bool (isKd d g) ∧ Ext [] u w') := by
  refine calls_of Try.func43 rfl rfl (fun a hf => ?_)
  have hh := Hp.init u []
  refine sy_sq ?_
  refine o_box hf hh ?_; clear hf hh a; intro B2 a w hf hh
  refine o_v hf hh (yv_assign rfl) ?_; clear hf a; intro a hf
  refine o_end ?_
  refine sy_sq ?_
  refine o_v hf hh (yv_move rfl) ?_; clear hf a; intro a hf
  refine o_v hf hh (yv_fieldAddr Try.fo_37_1 rfl) ?_; clear hf a; intro a hf
  refine o_v hf hh (y_ld Try.sc_22 rfl) ?_; clear hf a; intro a hf
  refine o_v hf hh (yv_len Try.se_22 rfl) ?_; clear hf a; intro a hf
  refine o_v hf hh (y_sub rfl rfl) ?_; clear hf a; intro a hf
  refine o_call hf Try.en_51 rfl rfl rfl (p51 _ _ _ _) ?_; clear hf a; intro v a w hR hf
  obtain ⟨rfl, hx⟩ := hR; replace hh := hh.more hx; clear hx
  refine o_v hf hh (yv_assign rfl) ?_; clear hf a; intro a hf
  refine o_end ?_
  refine sy_ret ?_
  refine ret_r hf rfl rfl ?_
  exact ⟨rfl, hh.ext⟩
theorem p60 (x : RepD) (k c : Int) (u : World) : Calls Try.prog 60 #[rpV x, .int .i64 k, .int .i64 c] u (Ret fun v w' => v = .bool (hasB x k c) ∧ Ext [] u w') := by
  refine calls_of Try.func60 rfl rfl (fun a hf => ?_)
  have hh := Hp.init u []
  refine sy_sq ?_
  refine o_box hf hh ?_; clear hf hh a; intro B3 a w hf hh
  refine o_v hf hh (yv_assign rfl) ?_; clear hf a; intro a hf
  refine o_end ?_
  refine sy_sq ?_
  refine o_v hf hh (yv_fieldAddr Try.fo_66_1 rfl) ?_; clear hf a; intro a hf
  refine o_v hf hh (y_ld Try.sc_3 rfl) ?_; clear hf a; intro a hf
  refine o_v hf hh (yv_move rfl) ?_; clear hf a; intro a hf
  refine o_v hf hh (yv_bin rfl rfl rfl) ?_; clear hf a; intro a hf
  refine o_v hf hh (yv_move rfl) ?_; clear hf a; intro a hf
  refine guard_split hf (t := 11) rfl (fun hg2 => ?_) (fun hg2 => ?_)
  ·have hG2 := hg2; try simp only [gS] at hG2
   refine o_v hf hh (yv_move rfl) ?_; clear hf a; intro a hf
   refine o_v hf hh (yv_fieldAddr Try.fo_66_2 rfl) ?_; clear hf a; intro a hf
   refine o_v hf hh (y_ld Try.sc_3 rfl) ?_; clear hf a; intro a hf
   refine o_v hf hh (yv_fieldAddr Try.fo_66_3 rfl) ?_; clear hf a; intro a hf
   refine o_v hf hh (y_ld Try.sc_3 rfl) ?_; clear hf a; intro a hf
   refine o_call hf Try.en_51 rfl rfl rfl (p51 _ _ _ _) ?_; clear hf a; intro v a w hR hf
   obtain ⟨rfl, hx⟩ := hR; replace hh := hh.more hx; clear hx
   refine o_v hf hh (y_pt rfl rfl) ?_; clear hf a; intro a hf
   refine o_v hf hh (yv_assign rfl) ?_; clear hf a; intro a hf
   refine o_end ?_
   refine sy_ret ?_
   refine ret_r hf rfl rfl ?_
   refine ⟨congrArg Value.bool ?_, hh.ext⟩
   clear hf hh
   unfold hasB
   first
     | (rw [decide_eq_true (by assumption), Bool.true_and]; done)
     | (rw [decide_eq_false (by assumption), Bool.false_and]; done)
  ·have hG2 := hg2; try simp only [gS] at hG2
   refine o_off hf ?_; clear hf a; intro a hf
   refine o_off hf ?_; clear hf a; intro a hf
   refine o_off hf ?_; clear hf a; intro a hf
   refine o_off hf ?_; clear hf a; intro a hf
   refine o_off hf ?_; clear hf a; intro a hf
   refine o_off hf ?_; clear hf a; intro a hf
   refine o_v hf hh (y_pf rfl rfl) ?_; clear hf a; intro a hf
   refine o_v hf hh (yv_assign rfl) ?_; clear hf a; intro a hf
   refine o_end ?_
   refine sy_ret ?_
   refine ret_r hf rfl rfl ?_
   refine ⟨congrArg Value.bool ?_, hh.ext⟩
   clear hf hh
   unfold hasB
   first
     | (rw [decide_eq_true (by assumption), Bool.true_and]; done)
     | (rw [decide_eq_false (by assumption), Bool.false_and]; done)
theorem p44 (d : RoyD) (p : Pl) (k c : Int) (u : World) (hR : RoyAt u d p) : Calls Try.prog 44 #[.agg (royC d p), .int .i64 k, .int .i64 c] u (Ret fun v w' => ∃ X, OwnSl 3 1 v (claL d k c d.terms.length).length (nvs (claL d k c d.terms.length)) X ∧ Hp u [] X w') := by
  refine calls_of Try.func44 rfl rfl (fun a hf => ?_)
  have hh := Hp.init u []
  obtain ⟨st, sp, ss, sr, sd, ct, cp, cs, cr, cd⟩ := p
  have hn1 := hR.n1; have hn4 := hR.n4
  refine sy_sq ?_
  refine o_box hf hh ?_; clear hf hh a; intro B3 a w hf hh
  refine o_v hf hh (yv_assign rfl) ?_; clear hf a; intro a hf
  refine o_end ?_
  refine sy_sq ?_
  refine o_v hf hh (yv_assign rfl) ?_; clear hf a; intro a hf
  refine o_end ?_
  refine sy_seq ?_
  refine sy_sq ?_
  refine o_v hf hh (yv_assign rfl) ?_; clear hf a; intro a hf
  refine o_end ?_
  refine sy_block ?_
  refine sy_loopH (σ := Nat × Value × List (Nat × Obj)) [7, 8, 9, 10, 11, 12, 13, 14, 15, 16, 17, 18, 19, 20, 21, 22, 23, 24, 25, 26, 27, 28, 29, 30, 31, 32, 33, 34, 35, 36, 37, 38, 39, 40, 41, 42, 43, 44, 45, 46, 47, 48, 49, 50] (fun s => [(7, s.2.1), (8, .int .i64 (s.1 : Nat))]) (fun s => fun w' => s.1 ≤ d.terms.length ∧ OwnSl 3 1 s.2.1 (claL d k c s.1).length (nvs (claL d k c s.1)) s.2.2 ∧ Hp u [] ([(B3, .cells (royC d ⟨st, sp, ss, sr, sd, ct, cp, cs, cr, cd⟩) 37)] ++ s.2.2) w') (fun s => d.terms.length - s.1) ((0, .slice none 0 0, [])) hf ?_ ?_ ?_
  · repeat' (first | exact True.intro | refine And.intro rfl ?_)
  · exact ⟨Nat.zero_le _, OwnSl.nil _ _, hh⟩
  ·rintro s a w ⟨hg, hO, hh⟩ hf
   obtain ⟨g, v7, X⟩ := s; simp only at hg hO hh hf ⊢
   refine sy_seq ?_
   refine sy_sq ?_
   refine o_v hf hh (yv_move rfl) ?_; clear hf a; intro a hf
   refine o_v hf hh (yv_fieldAddr Try.fo_37_0 rfl) ?_; clear hf a; intro a hf
   refine o_v hf hh (y_ld Try.sc_33 rfl) ?_; clear hf a; intro a hf
   refine o_v hf hh (yv_len Try.se_33 rfl) ?_; clear hf a; intro a hf
   refine o_v hf hh (yv_bin rfl rfl rfl) ?_; clear hf a; intro a hf
   refine o_end ?_
   refine sy_cond hf rfl (fun hg2 => ?_) (fun hg2 => ?_)
   ·have hG2 := hg2; try simp only [gS] at hG2
    refine sy_skip ?_
    refine then_n ?_
    refine sy_seq ?_
    refine sy_block ?_
    refine sy_sq ?_
    refine o_v hf hh (yv_assign rfl) ?_; clear hf a; intro a hf
    refine o_end ?_
    refine sy_seq ?_
    refine sy_sq ?_
    refine o_v hf hh (yv_assign rfl) ?_; clear hf a; intro a hf
    refine o_end ?_
    refine sy_block ?_
    refine sy_loopH (σ := Nat) [9, 10, 18, 19, 20, 21, 22, 23, 24, 25, 26, 27, 28, 29, 30, 31, 32, 33, 34, 35, 36, 37, 38, 39, 40, 41, 42, 43, 44, 45] (fun i => [(9, .bool ((d.reps.take i).any (fun x => decide (x.ag = (g : Int)) && hasB x k c))), (10, .int .i64 (i : Nat))]) (fun i => fun w' => i ≤ d.reps.length ∧ Hp u [] ([(B3, .cells (royC d ⟨st, sp, ss, sr, sd, ct, cp, cs, cr, cd⟩) 37)] ++ X) w') (fun i => d.reps.length - i) (0) hf ?_ ?_ ?_
    · repeat' (first | exact True.intro | refine And.intro rfl ?_)
    · exact ⟨Nat.zero_le _, hh⟩
    ·rintro i a w ⟨hi, hh⟩ hf
     refine sy_seq ?_
     refine sy_sq ?_
     refine o_v hf hh (yv_move rfl) ?_; clear hf a; intro a hf
     refine o_v hf hh (yv_fieldAddr Try.fo_37_3 rfl) ?_; clear hf a; intro a hf
     refine o_v hf hh (y_ld Try.sc_35 rfl) ?_; clear hf a; intro a hf
     refine o_v hf hh (yv_len Try.se_35 rfl) ?_; clear hf a; intro a hf
     refine o_v hf hh (yv_bin rfl rfl rfl) ?_; clear hf a; intro a hf
     refine o_end ?_
     refine sy_cond hf rfl (fun hg4 => ?_) (fun hg4 => ?_)
     ·have hG4 := hg4; try simp only [gS] at hG4
      refine sy_skip ?_
      refine then_n ?_
      refine sy_seq ?_
      refine sy_block ?_
      obtain ⟨x, hx⟩ := ex_of (l := d.reps) (i := i) (by omega)
      obtain ⟨blk, off, cc, T, fr, e, hb, hc⟩ := hR.rp i x hx; dsimp only at e; subst e
      have hc0 := (cellsAt_get 4 _ _ hc).2 0 _ rfl
      have hat := any_take (f := fun x => decide (x.ag = (g : Int)) && hasB x k c) hx
      refine sy_ops ?_
      refine o_v hf hh (yv_move rfl) ?_; clear hf a; intro a hf
      refine o_v hf hh (yv_move rfl) ?_; clear hf a; intro a hf
      refine guard_split hf (t := 26) rfl (fun hg6 => ?_) (fun hg6 => ?_)
      ·have hG6 := hg6; try simp only [gS] at hG6
       refine o_off hf ?_; clear hf a; intro a hf
       refine o_off hf ?_; clear hf a; intro a hf
       refine o_off hf ?_; clear hf a; intro a hf
       refine o_off hf ?_; clear hf a; intro a hf
       refine o_off hf ?_; clear hf a; intro a hf
       refine o_off hf ?_; clear hf a; intro a hf
       refine o_off hf ?_; clear hf a; intro a hf
       refine o_off hf ?_; clear hf a; intro a hf
       refine o_off hf ?_; clear hf a; intro a hf
       refine o_off hf ?_; clear hf a; intro a hf
       refine o_off hf ?_; clear hf a; intro a hf
       refine o_off hf ?_; clear hf a; intro a hf
       refine o_off hf ?_; clear hf a; intro a hf
       refine o_off hf ?_; clear hf a; intro a hf
       refine o_off hf ?_; clear hf a; intro a hf
       refine o_off hf ?_; clear hf a; intro a hf
       refine o_off hf ?_; clear hf a; intro a hf
       refine o_off hf ?_; clear hf a; intro a hf
       refine o_v hf hh (y_pt rfl rfl) ?_; clear hf a; intro a hf
       refine o_v hf hh (yv_assign rfl) ?_; clear hf a; intro a hf
       refine ops_end ?_
       refine blk_n ?_
       refine then_n ?_
       refine sy_ops ?_
       refine o_v hf hh (yv_move rfl) ?_; clear hf a; intro a hf
       refine o_v hf hh (y_add rfl rfl) ?_; clear hf a; intro a hf
       refine o_v hf hh (yv_assign rfl) ?_; clear hf a; intro a hf
       refine ops_end ?_
       refine then_n ?_
       refine ⟨i + 1, ⟨⟨by omega, hh⟩, hf.head ⟨congrArg (fun z => some (Value.bool z)) ?_, rfl, True.intro⟩ (Keep.cons rfl (Keep.cons rfl (Keep.cons rfl (Keep.cons rfl (Keep.cons rfl (Keep.cons rfl (Keep.cons rfl (Keep.cons rfl (Keep.cons rfl (Keep.cons rfl (Keep.cons rfl (Keep.cons rfl (Keep.cons rfl (Keep.cons rfl (Keep.cons rfl (Keep.cons rfl (Keep.cons rfl (Keep.cons rfl (Keep.cons rfl (Keep.cons rfl (Keep.cons rfl (Keep.cons rfl (Keep.cons rfl (Keep.cons rfl (Keep.cons rfl (Keep.cons rfl (Keep.cons rfl (Keep.cons rfl (Keep.cons rfl (Keep.cons rfl (Keep.app rfl (Keep.rm rfl Keep.base))))))))))))))))))))))))))))))))⟩, by omega⟩
       rw [hat]
       clear hf hh
       simp_all
      ·have hG6 := hg6; try simp only [gS] at hG6
       refine o_v hf hh (yv_fieldAddr Try.fo_37_3 rfl) ?_; clear hf a; intro a hf
       refine o_v hf hh (y_ld Try.sc_35 rfl) ?_; clear hf a; intro a hf
       refine o_v hf hh (yv_move rfl) ?_; clear hf a; intro a hf
       refine o_v hf hh (y_ix Try.se_35 rfl rfl) ?_; clear hf a; intro a hf
       refine o_v hf hh (yv_fieldAddr Try.fo_66_0 rfl) ?_; clear hf a; intro a hf
       refine o_v hf hh (y_ld Try.sc_3 rfl) ?_; clear hf a; intro a hf
       refine o_v hf hh (yv_move rfl) ?_; clear hf a; intro a hf
       refine o_v hf hh (yv_bin rfl rfl rfl) ?_; clear hf a; intro a hf
       refine o_v hf hh (yv_move rfl) ?_; clear hf a; intro a hf
       refine guard_split hf (t := 35) rfl (fun hg8 => ?_) (fun hg8 => ?_)
       ·have hG8 := hg8; try simp only [gS] at hG8
        refine o_v hf hh (yv_fieldAddr Try.fo_37_3 rfl) ?_; clear hf a; intro a hf
        refine o_v hf hh (y_ld Try.sc_35 rfl) ?_; clear hf a; intro a hf
        refine o_v hf hh (yv_move rfl) ?_; clear hf a; intro a hf
        refine o_v hf hh (y_ix Try.se_35 rfl rfl) ?_; clear hf a; intro a hf
        refine o_v hf hh (y_lds Try.ag_66 rfl) ?_; clear hf a; intro a hf
        refine o_v hf hh (yv_move rfl) ?_; clear hf a; intro a hf
        refine o_v hf hh (yv_move rfl) ?_; clear hf a; intro a hf
        refine o_call hf Try.en_60 rfl rfl rfl (p60 x k c _) ?_; clear hf a; intro v a w hR hf
        obtain ⟨rfl, hx⟩ := hR; replace hh := hh.more hx; clear hx
        refine o_v hf hh (y_pt rfl rfl) ?_; clear hf a; intro a hf
        refine o_v hf hh (y_pf rfl rfl) ?_; clear hf a; intro a hf
        refine o_v hf hh (yv_assign rfl) ?_; clear hf a; intro a hf
        refine ops_end ?_
        refine blk_n ?_
        refine then_n ?_
        refine sy_ops ?_
        refine o_v hf hh (yv_move rfl) ?_; clear hf a; intro a hf
        refine o_v hf hh (y_add rfl rfl) ?_; clear hf a; intro a hf
        refine o_v hf hh (yv_assign rfl) ?_; clear hf a; intro a hf
        refine ops_end ?_
        refine then_n ?_
        refine ⟨i + 1, ⟨⟨by omega, hh⟩, hf.head ⟨congrArg (fun z => some (Value.bool z)) ?_, rfl, True.intro⟩ (Keep.cons rfl (Keep.cons rfl (Keep.cons rfl (Keep.cons rfl (Keep.cons rfl (Keep.cons rfl (Keep.cons rfl (Keep.cons rfl (Keep.cons rfl (Keep.cons rfl (Keep.cons rfl (Keep.cons rfl (Keep.cons rfl (Keep.cons rfl (Keep.cons rfl (Keep.cons rfl (Keep.cons rfl (Keep.cons rfl (Keep.cons rfl (Keep.cons rfl (Keep.cons rfl (Keep.cons rfl (Keep.cons rfl (Keep.cons rfl (Keep.cons rfl (Keep.cons rfl (Keep.cons rfl (Keep.cons rfl (Keep.cons rfl (Keep.cons rfl (Keep.app rfl (Keep.rm rfl Keep.base))))))))))))))))))))))))))))))))⟩, by omega⟩
        rw [hat]
        clear hf hh
        simp_all
       ·have hG8 := hg8; try simp only [gS] at hG8
        refine o_off hf ?_; clear hf a; intro a hf
        refine o_off hf ?_; clear hf a; intro a hf
        refine o_off hf ?_; clear hf a; intro a hf
        refine o_off hf ?_; clear hf a; intro a hf
        refine o_off hf ?_; clear hf a; intro a hf
        refine o_off hf ?_; clear hf a; intro a hf
        refine o_off hf ?_; clear hf a; intro a hf
        refine o_off hf ?_; clear hf a; intro a hf
        refine o_v hf hh (y_pf rfl rfl) ?_; clear hf a; intro a hf
        refine o_v hf hh (y_pf rfl rfl) ?_; clear hf a; intro a hf
        refine o_v hf hh (yv_assign rfl) ?_; clear hf a; intro a hf
        refine ops_end ?_
        refine blk_n ?_
        refine then_n ?_
        refine sy_ops ?_
        refine o_v hf hh (yv_move rfl) ?_; clear hf a; intro a hf
        refine o_v hf hh (y_add rfl rfl) ?_; clear hf a; intro a hf
        refine o_v hf hh (yv_assign rfl) ?_; clear hf a; intro a hf
        refine ops_end ?_
        refine then_n ?_
        refine ⟨i + 1, ⟨⟨by omega, hh⟩, hf.head ⟨congrArg (fun z => some (Value.bool z)) ?_, rfl, True.intro⟩ (Keep.cons rfl (Keep.cons rfl (Keep.cons rfl (Keep.cons rfl (Keep.cons rfl (Keep.cons rfl (Keep.cons rfl (Keep.cons rfl (Keep.cons rfl (Keep.cons rfl (Keep.cons rfl (Keep.cons rfl (Keep.cons rfl (Keep.cons rfl (Keep.cons rfl (Keep.cons rfl (Keep.cons rfl (Keep.cons rfl (Keep.cons rfl (Keep.cons rfl (Keep.cons rfl (Keep.cons rfl (Keep.cons rfl (Keep.cons rfl (Keep.cons rfl (Keep.cons rfl (Keep.cons rfl (Keep.cons rfl (Keep.cons rfl (Keep.cons rfl (Keep.app rfl (Keep.rm rfl Keep.base))))))))))))))))))))))))))))))))⟩, by omega⟩
        rw [hat]
        clear hf hh
        simp_all
     ·have hG4 := hg4; try simp only [gS] at hG4
      refine sy_exit ?_
      refine then_e ?_
      refine then_e ?_
      refine blk_e ?_
      refine then_n ?_
      refine sy_sq ?_
      refine o_v hf hh (yv_move rfl) ?_; clear hf a; intro a hf
      refine o_end ?_
      refine sy_cond hf rfl (fun hg11 => ?_) (fun hg11 => ?_)
      ·have hG11 := hg11; try simp only [gS] at hG11
       have hcl := claL_len d k c g
       refine sy_ops ?_
       refine o_v hf hh (yv_move rfl) ?_; clear hf a; intro a hf
       refine o_v hf hh (yv_move rfl) ?_; clear hf a; intro a hf
       refine ops_buildSl hf hh Try.bl_22_1 rfl rfl (.inl rfl) rfl ?_; clear hf hh; clear a; intro B49 a w hf hh
       refine ops_append (e := 3) (size := 1) (xs := nvs (claL d k c g)) (X := X) (Z := _) (m := (claL d k c g).length) (q := 1) hf (hh.perm (.cons _ (List.perm_append_comm (l₁ := [_]) (l₂ := X)))) Try.eb_22 rfl rfl hO rfl rfl rfl (by simp only [maxLen]; omega) (by omega) (.inl rfl) rfl ?_; clear hf hh a; intro v2 X2 a w hO2 hf hh
       replace hh := hh.perm List.perm_append_comm
       obtain ⟨oa2, cp2, rfl⟩ := own_val hO2
       refine o_v hf hh (yv_assign rfl) ?_; clear hf a; intro a hf
       refine ops_end ?_
       refine blk_n ?_
       refine then_n ?_
       refine sy_ops ?_
       refine o_v hf hh (yv_move rfl) ?_; clear hf a; intro a hf
       refine o_v hf hh (y_add rfl rfl) ?_; clear hf a; intro a hf
       refine o_v hf hh (yv_assign rfl) ?_; clear hf a; intro a hf
       refine ops_end ?_
       refine then_n ?_
       have hal : (d.reps.take i).any (fun x => decide (x.ag = (g : Int)) && hasB x k c) = d.reps.any (fun x => decide (x.ag = (g : Int)) && hasB x k c) := by rw [List.take_of_length_le (by omega)]
       first
         | exact ⟨(g + 1, _, X2), ⟨⟨by simp only; omega, by
             have e1 : claL d k c (g + 1) = claL d k c g ++ [g] := claL_put (by rw [← hal]; simp_all)
             simp only; rw [e1, nvs_app, List.length_append]; exact hO2, hh⟩, (hf.head (by repeat' (first | exact True.intro | refine And.intro rfl ?_)) (Keep.cons rfl (Keep.cons rfl (Keep.cons rfl (Keep.cons rfl (Keep.cons rfl (Keep.cons rfl (Keep.cons rfl (Keep.cons rfl (Keep.cons rfl (Keep.cons rfl (Keep.cons rfl (Keep.cons rfl (Keep.cons rfl (Keep.cons rfl (Keep.app rfl (Keep.rm rfl (Keep.cons rfl (Keep.cons rfl (Keep.cons rfl (Keep.cons rfl (Keep.cons rfl (Keep.cons rfl (Keep.cons rfl (Keep.app rfl (Keep.rm rfl Keep.base))))))))))))))))))))))))))⟩, by simp only; omega⟩
         | exact ⟨(g + 1, v7, X), ⟨⟨by simp only; omega, by
             have e1 : claL d k c (g + 1) = claL d k c g := claL_no (by rw [← hal]; simp_all)
             simp only; rw [e1]; exact hO, hh⟩, (hf.head (by repeat' (first | exact True.intro | refine And.intro rfl ?_)) (Keep.cons rfl (Keep.cons rfl (Keep.cons rfl (Keep.cons rfl (Keep.cons rfl (Keep.cons rfl (Keep.cons rfl (Keep.cons rfl (Keep.cons rfl (Keep.cons rfl (Keep.cons rfl (Keep.cons rfl (Keep.cons rfl (Keep.cons rfl (Keep.app rfl (Keep.rm rfl (Keep.cons rfl (Keep.cons rfl (Keep.cons rfl (Keep.cons rfl (Keep.cons rfl (Keep.cons rfl (Keep.cons rfl (Keep.app rfl (Keep.rm rfl Keep.base))))))))))))))))))))))))))⟩, by simp only; omega⟩
      ·have hG11 := hg11; try simp only [gS] at hG11
       refine sy_skip ?_
       refine blk_n ?_
       refine then_n ?_
       refine sy_ops ?_
       refine o_v hf hh (yv_move rfl) ?_; clear hf a; intro a hf
       refine o_v hf hh (y_add rfl rfl) ?_; clear hf a; intro a hf
       refine o_v hf hh (yv_assign rfl) ?_; clear hf a; intro a hf
       refine ops_end ?_
       refine then_n ?_
       have hal : (d.reps.take i).any (fun x => decide (x.ag = (g : Int)) && hasB x k c) = d.reps.any (fun x => decide (x.ag = (g : Int)) && hasB x k c) := by rw [List.take_of_length_le (by omega)]
       first
         | exact ⟨(g + 1, _, X2), ⟨⟨by simp only; omega, by
             have e1 : claL d k c (g + 1) = claL d k c g ++ [g] := claL_put (by rw [← hal]; simp_all)
             simp only; rw [e1, nvs_app, List.length_append]; exact hO2, hh⟩, (hf.head (by repeat' (first | exact True.intro | refine And.intro rfl ?_)) (Keep.cons rfl (Keep.cons rfl (Keep.cons rfl (Keep.cons rfl (Keep.cons rfl (Keep.cons rfl (Keep.cons rfl (Keep.cons rfl (Keep.cons rfl (Keep.app rfl (Keep.rm rfl (Keep.cons rfl (Keep.cons rfl (Keep.cons rfl (Keep.cons rfl (Keep.cons rfl (Keep.cons rfl (Keep.cons rfl (Keep.app rfl (Keep.rm rfl Keep.base)))))))))))))))))))))⟩, by simp only; omega⟩
         | exact ⟨(g + 1, v7, X), ⟨⟨by simp only; omega, by
             have e1 : claL d k c (g + 1) = claL d k c g := claL_no (by rw [← hal]; simp_all)
             simp only; rw [e1]; exact hO, hh⟩, (hf.head (by repeat' (first | exact True.intro | refine And.intro rfl ?_)) (Keep.cons rfl (Keep.cons rfl (Keep.cons rfl (Keep.cons rfl (Keep.cons rfl (Keep.cons rfl (Keep.cons rfl (Keep.cons rfl (Keep.cons rfl (Keep.app rfl (Keep.rm rfl (Keep.cons rfl (Keep.cons rfl (Keep.cons rfl (Keep.cons rfl (Keep.cons rfl (Keep.cons rfl (Keep.cons rfl (Keep.app rfl (Keep.rm rfl Keep.base)))))))))))))))))))))⟩, by simp only; omega⟩
   ·have hG2 := hg2; try simp only [gS] at hG2
    refine sy_exit ?_
    refine then_e ?_
    refine then_e ?_
    refine blk_e ?_
    refine then_n ?_
    refine sy_sq ?_
    refine o_v hf hh (yv_move rfl) ?_; clear hf a; intro a hf
    refine o_v hf hh (yv_assign rfl) ?_; clear hf a; intro a hf
    refine o_end ?_
    refine sy_ret ?_
    refine ret_r hf rfl rfl ?_
    obtain rfl : g = d.terms.length := by omega
    exact ⟨X, hO, hh.less (.cons _ (List.Sublist.refl _))⟩
theorem p97 (n : Nat) (hn : n ≤ 60) (u : World) : Calls Try.prog 97 #[.int .i64 (n : Nat)] u (Ret fun v w' => v = .int .i64 (2 ^ n : Nat) ∧ Ext [] u w') := by
  refine calls_of Try.func97 rfl rfl (fun a hf => ?_)
  have hh := Hp.init u []
  refine sy_sq ?_
  refine o_v hf hh (yv_assign rfl) ?_; clear hf a; intro a hf
  refine o_end ?_
  refine sy_sq ?_
  refine o_v hf hh (yv_assign rfl) ?_; clear hf a; intro a hf
  refine o_end ?_
  refine sy_seq ?_
  refine sy_sq ?_
  refine o_v hf hh (yv_assign rfl) ?_; clear hf a; intro a hf
  refine o_end ?_
  refine sy_block ?_
  refine sy_loopF (σ := Nat) [3, 4, 5, 6, 7, 8, 9, 10, 11] (fun i => [(3, .int .i64 (2 ^ i : Nat)), (4, .int .i64 (i : Nat))]) (fun i => i ≤ n) (fun i => n - i) (0) hf hh ?_ ?_ ?_
  · repeat' (first | exact True.intro | refine And.intro rfl ?_)
  · exact Nat.zero_le _
  ·rintro i a w hi hf hh
   have hp : 2 ^ i ≤ 2 ^ 60 := Nat.pow_le_pow_right (by omega) (by omega)
   obtain ⟨q, hq⟩ : ∃ q, q = 2 ^ i := ⟨_, rfl⟩
   rw [← hq] at hp hf
   refine sy_seq ?_
   refine sy_sq ?_
   refine o_v hf hh (yv_move rfl) ?_; clear hf a; intro a hf
   refine o_v hf hh (yv_move rfl) ?_; clear hf a; intro a hf
   refine o_v hf hh (yv_bin rfl rfl rfl) ?_; clear hf a; intro a hf
   refine o_end ?_
   refine sy_cond hf rfl (fun hg2 => ?_) (fun hg2 => ?_)
   ·have hG2 := hg2; try simp only [gS] at hG2
    refine sy_skip ?_
    refine then_n ?_
    refine sy_seq ?_
    refine sy_block ?_
    refine sy_ops ?_
    refine o_v hf hh (yv_move rfl) ?_; clear hf a; intro a hf
    refine o_v hf hh (y_mul rfl rfl) ?_; clear hf a; intro a hf
    refine o_v hf hh (yv_assign rfl) ?_; clear hf a; intro a hf
    refine ops_end ?_
    refine blk_n ?_
    refine then_n ?_
    refine sy_ops ?_
    refine o_v hf hh (yv_move rfl) ?_; clear hf a; intro a hf
    refine o_v hf hh (y_add rfl rfl) ?_; clear hf a; intro a hf
    refine o_v hf hh (yv_assign rfl) ?_; clear hf a; intro a hf
    refine ops_end ?_
    refine then_n ?_
    exact ⟨i + 1, ⟨by omega, hf.head ⟨congrArg some (intv (by rw [Nat.pow_succ, ← hq]; omega)), rfl, True.intro⟩ (Keep.cons rfl (Keep.cons rfl (Keep.cons rfl (Keep.cons rfl (Keep.cons rfl (Keep.cons rfl (Keep.cons rfl (Keep.cons rfl (Keep.cons rfl (Keep.app rfl (Keep.rm rfl Keep.base))))))))))), hh⟩, by omega⟩
   ·have hG2 := hg2; try simp only [gS] at hG2
    refine sy_exit ?_
    refine then_e ?_
    refine then_e ?_
    refine blk_e ?_
    refine then_n ?_
    refine sy_sq ?_
    refine o_v hf hh (yv_move rfl) ?_; clear hf a; intro a hf
    refine o_v hf hh (yv_assign rfl) ?_; clear hf a; intro a hf
    refine o_end ?_
    refine sy_ret ?_
    refine ret_r hf rfl rfl ?_
    obtain rfl : i = n := by omega
    exact ⟨by rw [hq]; rfl, hh.ext⟩
theorem p73 (x : Nat) (hx : x < 65536) (u : World) : Calls Try.prog 73 #[.int .i64 (x : Nat)] u (Ret fun v w' => v = .int .i64 (pc x : Nat) ∧ Ext [] u w') := by
  refine calls_of Try.func73 rfl rfl (fun a hf => ?_)
  have hh := Hp.init u []
  refine sy_sq ?_
  refine o_v hf hh (yv_assign rfl) ?_; clear hf a; intro a hf
  refine o_end ?_
  refine sy_sq ?_
  refine o_v hf hh (yv_assign rfl) ?_; clear hf a; intro a hf
  refine o_end ?_
  refine sy_seq ?_
  refine sy_block ?_
  refine sy_loopF (σ := Nat) [0, 3, 4, 5, 6, 7, 8, 9, 10, 11] (fun y => [(0, .int .i64 (y : Nat)), (3, .int .i64 ((pc x - pc y : Nat) : Int))]) (fun y => y ≤ x ∧ pc y ≤ pc x) (fun y => y) (x) hf hh ?_ ?_ ?_
  · exact ⟨rfl, congrArg some (intv (by simp)), True.intro⟩
  · exact ⟨Nat.le_refl _, Nat.le_refl _⟩
  ·rintro y a w ⟨hy, hpy⟩ hf hh
   have hst := pc_half (x := y) (by omega)
   have hpx := pc_lt (k := 16) (n := x) (by omega) (by omega)
   refine sy_seq ?_
   refine sy_sq ?_
   refine o_v hf hh (yv_move rfl) ?_; clear hf a; intro a hf
   refine o_v hf hh (yv_bin rfl rfl rfl) ?_; clear hf a; intro a hf
   refine o_end ?_
   refine sy_cond hf rfl (fun hg2 => ?_) (fun hg2 => ?_)
   ·have hG2 := hg2; try simp only [gS] at hG2
    refine sy_skip ?_
    refine then_n ?_
    refine sy_block ?_
    refine sy_sq ?_
    refine o_v hf hh (yv_move rfl) ?_; clear hf a; intro a hf
    refine o_v hf hh (yv_move rfl) ?_; clear hf a; intro a hf
    refine o_v hf hh (yv_rem rfl rfl (by omega) (by omega)) ?_; clear hf a; intro a hf
    refine o_v hf hh (y_add rfl rfl) ?_; clear hf a; intro a hf
    refine o_v hf hh (yv_assign rfl) ?_; clear hf a; intro a hf
    refine o_end ?_
    refine sy_ops ?_
    refine o_v hf hh (yv_move rfl) ?_; clear hf a; intro a hf
    refine o_v hf hh (yv_quo rfl rfl (by omega) (by omega) (by omega)) ?_; clear hf a; intro a hf
    refine o_v hf hh (yv_assign rfl) ?_; clear hf a; intro a hf
    refine ops_end ?_
    refine blk_n ?_
    refine then_n ?_
    exact ⟨y / 2, ⟨⟨by omega, by omega⟩, hf.head ⟨congrArg some (intv (by omega)), congrArg some (intv (by omega)), True.intro⟩ (Keep.cons rfl (Keep.cons rfl (Keep.cons rfl (Keep.cons rfl (Keep.cons rfl (Keep.cons rfl (Keep.cons rfl (Keep.cons rfl (Keep.cons rfl (Keep.cons rfl (Keep.app rfl (Keep.rm rfl Keep.base)))))))))))), hh⟩, by omega⟩
   ·have hG2 := hg2; try simp only [gS] at hG2
    refine sy_exit ?_
    refine then_e ?_
    refine then_e ?_
    refine blk_e ?_
    refine then_n ?_
    refine sy_sq ?_
    refine o_v hf hh (yv_move rfl) ?_; clear hf a; intro a hf
    refine o_v hf hh (yv_assign rfl) ?_; clear hf a; intro a hf
    refine o_end ?_
    refine sy_ret ?_
    refine ret_r hf rfl rfl ?_
    obtain rfl : y = 0 := by omega
    exact ⟨intv (by rw [pc_zero]; omega), hh.ext⟩
end Go.Proofs.Ytkfkifkdncdhoaa
namespace Go.RoyM
open Go Go.Sy
/-- Numbers that are not less than nought lie in memory. -/
def NAt (w : World) (sa : Option Addr) (l : List Nat) : Prop :=
  ∀ i x, l[i]? = some x → ∃ blk off c T fr, sa = some ⟨blk, off, none⟩ ∧ w.heap[blk]? = some (.cells c T fr) ∧ c[off + ((i : Nat) : Int).toNat * 1]? = some (.int .i64 ((x : Nat) : Int))
theorem NAt.ext {w w' : World} {sa : Option Addr} {l : List Nat} (h : NAt w sa l) (e : Ext [] w w') : NAt w' sa l := fun i s hi =>
  let ⟨blk, off, c, T, fr, h1, h2, h3⟩ := h i s hi
  ⟨blk, off, c, T, fr, h1, e.get h2, h3⟩
theorem NAt.iat {w : World} {sa : Option Addr} {l : List Nat} (h : NAt w sa l) : IAt w sa (l.map fun x => ((x : Nat) : Int)) := fun i x hi => by
  rw [List.getElem?_map] at hi
  cases e : l[i]? with
  | none => rw [e] at hi; cases hi
  | some y => rw [e] at hi; cases hi; exact h i y e
theorem own_nat {v : Value} {m : Nat} {l : List Nat} {X : List (Nat × Obj)} {w : World} (h : OwnSl 3 1 v m (nvs l) X) (hX : ∀ q ∈ X, w.heap[q.1]? = some q.2) : ∃ oa cap, v = .slice oa m cap ∧ m = l.length ∧ NAt w oa l := by
  rw [nvs_ivs] at h
  obtain ⟨oa, cap, h1, h2, h3⟩ := own_iat h hX
  rw [List.length_map] at h2
  refine ⟨oa, cap, h1, h2, fun i x hi => h3 i ((x : Nat) : Int) (by rw [List.getElem?_map, hi]; rfl)⟩
/-- A weight for an element that has come. -/
def inW (l : List Nat) (g w i : Nat) : Nat := if g ∈ l.take i then w else 0
theorem take_in {l : List Nat} {i x g : Nat} (h : l[i]? = some x) : g ∈ l.take (i + 1) ↔ g ∈ l.take i ∨ g = x := by
  rw [List.take_add_one, h, List.mem_append]
  simp
theorem inW_zero (l : List Nat) (g w : Nat) : inW l g w 0 = 0 := by unfold inW; simp
theorem inW_hit {l : List Nat} (hn : l.Nodup) {i g : Nat} (h : l[i]? = some g) (w : Nat) : inW l g w (i + 1) = inW l g w i + w := by
  unfold inW
  rw [if_pos ((take_in h).2 (.inr rfl)), if_neg, Nat.zero_add]
  intro h1
  obtain ⟨j, hj⟩ := List.mem_iff_getElem?.1 h1
  rw [List.getElem?_take] at hj
  split at hj
  · have := (List.getElem?_inj (len_of hj) hn).1 (hj.trans h.symm)
    omega
  · cases hj
theorem inW_miss {l : List Nat} {i g x : Nat} (h : l[i]? = some x) (hne : ¬ x = g) (w : Nat) : inW l g w (i + 1) = inW l g w i := by
  unfold inW
  by_cases h1 : g ∈ l.take i
  · rw [if_pos h1, if_pos ((take_in h).2 (.inl h1))]
  · rw [if_neg h1, if_neg fun h2 => ((take_in h).1 h2).elim h1 fun e => hne e.symm]
theorem inW_all (l : List Nat) (g w : Nat) : inW l g w l.length = if g ∈ l then w else 0 := by unfold inW; rw [List.take_length]
theorem inW_le (l : List Nat) (g w i : Nat) : inW l g w i ≤ w := by unfold inW; split <;> omega
theorem clm_step {d : RoyD} {k : Int} {g : Nat} (hg : g < d.terms.length) (c : Nat) : bitS (clmB d k g) (c + 1) = bitS (clmB d k g) c + inW (claL d k c d.terms.length) g (2 ^ c) (claL d k c d.terms.length).length := by
  rw [inW_all, bitS]
  congr 1
  cases h : clmB d k g c
  · rw [if_neg (by decide), if_neg fun h1 => by rw [(claL_mem.1 h1).2] at h; cases h]
  · rw [if_pos rfl, if_pos (claL_mem.2 ⟨hg, h⟩)]
theorem sur_step {d : RoyD} {k : Int} {g : Nat} (hg : g < d.terms.length) (c : Nat) : bitS (surB d k g) (c + 1) = bitS (surB d k g) c + inW (claL d k c d.terms.length) g (if (claL d k c d.terms.length).length = 1 then 2 ^ c else 0) (claL d k c d.terms.length).length := by
  rw [inW_all, bitS]
  congr 1
  unfold surB
  cases h : clmB d k g c
  · rw [Bool.false_and, if_neg (by decide), if_neg fun h1 => by rw [(claL_mem.1 h1).2] at h; cases h]
  · rw [if_pos (claL_mem.2 ⟨hg, h⟩), Bool.true_and]
    by_cases h2 : (claL d k c d.terms.length).length = 1
    · rw [if_pos (decide_eq_true h2), if_pos h2]
    · rw [if_neg (by simpa using h2), if_neg h2]
end Go.RoyM
namespace Go.Proofs.Ytkfkifkdncdhoaa
open Go Go.Sy Go.RoyM
set_option maxRecDepth 100000 in
theorem p68 (d : RoyD) (p : Pl) (g : Nat) (k : Int) (u : World) (hR : RoyAt u d p) (hO : RoyOk d) (hg : g < d.terms.length) : Calls Try.prog 68 #[.agg (royC d p), .int .i64 (g : Nat), .int .i64 k] u (Ret fun v w' => v = .tuple #[.int .i64 (surN d k g : Nat), .int .i64 (clm d k g : Nat)] ∧ Ext [] u w') := by
  refine calls_of Try.func68 rfl rfl (fun a hf => ?_)
  have hh := Hp.init u []
  have hnt := hO.nt
  refine sy_sq ?_
  refine o_box hf hh ?_; clear hf hh a; intro B3 a w hf hh
  refine o_v hf hh (yv_assign rfl) ?_; clear hf a; intro a hf
  refine o_v hf hh (yv_assign rfl) ?_; clear hf a; intro a hf
  refine o_end ?_
  refine sy_sq ?_
  refine o_v hf hh (yv_assign rfl) ?_; clear hf a; intro a hf
  refine o_v hf hh (yv_assign rfl) ?_; clear hf a; intro a hf
  refine o_end ?_
  refine sy_seq ?_
  refine sy_sq ?_
  refine o_v hf hh (yv_assign rfl) ?_; clear hf a; intro a hf
  refine o_end ?_
  refine sy_block ?_
  refine sy_loopH (σ := Nat) [8, 9, 10, 11, 12, 13, 14, 15, 16, 17, 18, 19, 20, 21, 22, 23, 24, 25, 26, 27, 28, 29, 30, 31, 32, 33, 34, 35, 36, 37, 38, 39, 40, 41, 42, 43] (fun c => [(8, .int .i64 (bitS (surB d k g) c : Nat)), (9, .int .i64 (bitS (clmB d k g) c : Nat)), (10, .int .i64 (c : Nat))]) (fun c => fun w' => c ≤ 12 ∧ Hp u [] [(B3, .cells (royC d p) 37)] w') (fun c => 12 - c) (0) hf ?_ ?_ ?_
  · repeat' (first | exact True.intro | refine And.intro rfl ?_)
  · exact ⟨by omega, hh⟩
  ·rintro c a w ⟨hc12, hh⟩ hf
   refine sy_seq ?_
   refine sy_sq ?_
   refine o_v hf hh (yv_move rfl) ?_; clear hf a; intro a hf
   refine o_v hf hh (yv_bin rfl rfl rfl) ?_; clear hf a; intro a hf
   refine o_end ?_
   refine sy_cond hf rfl (fun hg2 => ?_) (fun hg2 => ?_)
   ·have hG2 := hg2; try simp only [gS] at hG2
    refine sy_skip ?_
    refine then_n ?_
    refine sy_seq ?_
    refine sy_block ?_
    refine sy_sq ?_
    refine o_v hf hh (y_lds Try.ag_37 rfl) ?_; clear hf a; intro a hf
    refine o_v hf hh (yv_move rfl) ?_; clear hf a; intro a hf
    refine o_v hf hh (yv_move rfl) ?_; clear hf a; intro a hf
    refine o_call hf Try.en_44 rfl rfl rfl (p44 d p k c _ (hR.ext hh.ext)) ?_; clear hf a; intro v a w hR hf
    obtain ⟨X, hOw, hx⟩ := hR; have hcl := claL_len d k c d.terms.length
    have hnd := claL_nodup d k c d.terms.length
    have hsu := sur_step (k := k) hg c
    have hcu := clm_step (k := k) hg c
    have hp2 : 2 ^ c ≤ 2 ^ 11 := Nat.pow_le_pow_right (by omega) (by omega)
    have hb1 := bitS_bd (surB d k g) (i := c) (n := 12) (by omega)
    have hb2 := bitS_bd (clmB d k g) (i := c) (n := 12) (by omega)
    obtain ⟨l, hl⟩ : ∃ l, l = claL d k c d.terms.length := ⟨_, rfl⟩
    obtain ⟨q, hq⟩ : ∃ q, q = 2 ^ c := ⟨_, rfl⟩
    rw [← hl] at hOw hcl hnd hsu hcu; rw [← hq] at hsu hcu hp2
    obtain ⟨oa, cap, rfl, hlm, hN⟩ := own_nat hOw hx.get
    have hh9 := hh.more hx.ext
    have q3 := hh9.at (i := 0) rfl
    obtain ⟨w9, rfl⟩ : ∃ z, z = w := ⟨_, rfl⟩
    replace hh := Hp.init w9 []; clear hx
    refine o_v hf hh (yv_assign rfl) ?_; clear hf a; intro a hf
    refine o_end ?_
    refine sy_sq ?_
    refine o_v hf hh (yv_assign rfl) ?_; clear hf a; intro a hf
    refine o_end ?_
    refine sy_block ?_
    refine sy_loopF (σ := Nat) [8, 9, 12, 21, 22, 23, 24, 25, 26, 27, 28, 29, 30, 31, 32, 33, 34, 35, 36, 37, 38, 39, 40, 41, 42, 43] (fun i => [(8, .int .i64 ((bitS (surB d k g) c + inW l g (if l.length = 1 then q else 0) i : Nat) : Int)), (9, .int .i64 ((bitS (clmB d k g) c + inW l g q i : Nat) : Int)), (12, .int .i64 (i : Nat))]) (fun i => i ≤ l.length) (fun i => l.length - i) (0) hf hh ?_ ?_ ?_
    · exact ⟨congrArg some (intv (by rw [inW_zero, Nat.add_zero])), congrArg some (intv (by rw [inW_zero, Nat.add_zero])), rfl, True.intro⟩
    · exact Nat.zero_le _
    ·rintro i a w hi hf hh
     refine sy_seq ?_
     refine sy_sq ?_
     refine o_v hf hh (yv_move rfl) ?_; clear hf a; intro a hf
     refine o_v hf hh (yv_move rfl) ?_; clear hf a; intro a hf
     refine o_v hf hh (yv_len Try.se_22 rfl) ?_; clear hf a; intro a hf
     refine o_v hf hh (yv_bin rfl rfl rfl) ?_; clear hf a; intro a hf
     refine o_end ?_
     refine sy_cond hf rfl (fun hg5 => ?_) (fun hg5 => ?_)
     ·have hG5 := hg5; try simp only [gS] at hG5
      refine sy_skip ?_
      refine then_n ?_
      refine sy_seq ?_
      refine sy_block ?_
      refine sy_seq ?_
      obtain ⟨x, hx⟩ := ex_of (l := l) (i := i) (by omega)
      obtain ⟨blk, off, cc, T, fr, e, hb, hc⟩ := hN i x hx; subst e
      have hw1 := inW_le l g q i
      have hw2 := inW_le l g (if l.length = 1 then q else 0) i
      have hw3 : (if l.length = 1 then q else 0) ≤ q := by split <;> omega
      refine sy_ops ?_
      refine o_v hf hh (yv_move rfl) ?_; clear hf a; intro a hf
      refine o_v hf hh (yv_move rfl) ?_; clear hf a; intro a hf
      refine o_v hf hh (y_ix Try.se_22 rfl rfl) ?_; clear hf a; intro a hf
      refine o_v hf hh (y_ld Try.sc_3 rfl) ?_; clear hf a; intro a hf
      refine o_v hf hh (yv_move rfl) ?_; clear hf a; intro a hf
      refine o_v hf hh (yv_bin rfl rfl rfl) ?_; clear hf a; intro a hf
      refine o_end ?_
      refine sy_cond hf rfl (fun hg7 => ?_) (fun hg7 => ?_)
      ·have hG7 := hg7; try simp only [gS] at hG7
       refine sy_seq ?_
       have hxg : x = g := by omega
       subst hxg
       have hi1 := inW_hit hnd hx q
       have hi2 := inW_hit hnd hx (if l.length = 1 then q else 0)
       have hw4 := inW_le l x q (i + 1)
       have hw5 := inW_le l x (if l.length = 1 then q else 0) (i + 1)
       refine sy_ops ?_
       refine o_v hf hh (yv_move rfl) ?_; clear hf a; intro a hf
       refine o_v hf hh (yv_move rfl) ?_; clear hf a; intro a hf
       refine o_call hf Try.en_97 rfl rfl rfl (p97 c (by omega) _) ?_; clear hf a; intro v a w hR hf
       rw [← hq] at hR
       obtain ⟨rfl, hx⟩ := hR; replace hh := hh.more hx; clear hx
       refine o_v hf hh (y_add rfl rfl) ?_; clear hf a; intro a hf
       refine o_v hf hh (yv_assign rfl) ?_; clear hf a; intro a hf
       refine o_end ?_
       refine sy_sq ?_
       refine o_v hf hh (yv_move rfl) ?_; clear hf a; intro a hf
       refine o_v hf hh (yv_len Try.se_22 rfl) ?_; clear hf a; intro a hf
       refine o_v hf hh (yv_bin rfl rfl rfl) ?_; clear hf a; intro a hf
       refine o_end ?_
       refine sy_cond hf rfl (fun hg10 => ?_) (fun hg10 => ?_)
       ·have hG10 := hg10; try simp only [gS] at hG10
        refine sy_ops ?_
        refine o_v hf hh (yv_move rfl) ?_; clear hf a; intro a hf
        refine o_v hf hh (yv_move rfl) ?_; clear hf a; intro a hf
        refine o_call hf Try.en_97 rfl rfl rfl (p97 c (by omega) _) ?_; clear hf a; intro v a w hR hf
        rw [← hq] at hR
        obtain ⟨rfl, hx⟩ := hR; replace hh := hh.more hx; clear hx
        refine o_v hf hh (y_add rfl rfl) ?_; clear hf a; intro a hf
        refine o_v hf hh (yv_assign rfl) ?_; clear hf a; intro a hf
        refine ops_end ?_
        refine blk_n ?_
        refine then_n ?_
        refine sy_ops ?_
        refine o_v hf hh (yv_move rfl) ?_; clear hf a; intro a hf
        refine o_v hf hh (y_add rfl rfl) ?_; clear hf a; intro a hf
        refine o_v hf hh (yv_assign rfl) ?_; clear hf a; intro a hf
        refine ops_end ?_
        refine then_n ?_
        first
          | (have hl1 : l.length = 1 := by omega
             rw [if_pos hl1] at hi2
             exact ⟨i + 1, ⟨by omega, hf.head ⟨congrArg some (intv (by rw [if_pos hl1] at hf ⊢; omega)), congrArg some (intv (by omega)), rfl, True.intro⟩ (Keep.cons rfl (Keep.cons rfl (Keep.cons rfl (Keep.cons rfl (Keep.cons rfl (Keep.cons rfl (Keep.cons rfl (Keep.cons rfl (Keep.cons rfl (Keep.cons rfl (Keep.cons rfl (Keep.cons rfl (Keep.cons rfl (Keep.cons rfl (Keep.cons rfl (Keep.cons rfl (Keep.cons rfl (Keep.cons rfl (Keep.cons rfl (Keep.cons rfl (Keep.cons rfl (Keep.cons rfl (Keep.cons rfl (Keep.cons rfl (Keep.cons rfl (Keep.cons rfl (Keep.app rfl (Keep.rm rfl Keep.base)))))))))))))))))))))))))))), hh⟩, by omega⟩)
          | (have hl1 : ¬ l.length = 1 := by omega
             rw [if_neg hl1] at hi2
             exact ⟨i + 1, ⟨by omega, hf.head ⟨congrArg some (intv (by rw [if_neg hl1]; omega)), congrArg some (intv (by omega)), rfl, True.intro⟩ (Keep.cons rfl (Keep.cons rfl (Keep.cons rfl (Keep.cons rfl (Keep.cons rfl (Keep.cons rfl (Keep.cons rfl (Keep.cons rfl (Keep.cons rfl (Keep.cons rfl (Keep.cons rfl (Keep.cons rfl (Keep.cons rfl (Keep.cons rfl (Keep.cons rfl (Keep.cons rfl (Keep.cons rfl (Keep.cons rfl (Keep.cons rfl (Keep.cons rfl (Keep.cons rfl (Keep.cons rfl (Keep.cons rfl (Keep.cons rfl (Keep.cons rfl (Keep.cons rfl (Keep.app rfl (Keep.rm rfl Keep.base)))))))))))))))))))))))))))), hh⟩, by omega⟩)
          | (have hxg : ¬ x = g := by omega
             exact ⟨i + 1, ⟨by omega, hf.head ⟨congrArg some (intv (by rw [inW_miss hx hxg])), congrArg some (intv (by rw [inW_miss hx hxg])), rfl, True.intro⟩ (Keep.cons rfl (Keep.cons rfl (Keep.cons rfl (Keep.cons rfl (Keep.cons rfl (Keep.cons rfl (Keep.cons rfl (Keep.cons rfl (Keep.cons rfl (Keep.cons rfl (Keep.cons rfl (Keep.cons rfl (Keep.cons rfl (Keep.cons rfl (Keep.cons rfl (Keep.cons rfl (Keep.cons rfl (Keep.cons rfl (Keep.cons rfl (Keep.cons rfl (Keep.cons rfl (Keep.cons rfl (Keep.cons rfl (Keep.cons rfl (Keep.cons rfl (Keep.cons rfl (Keep.app rfl (Keep.rm rfl Keep.base)))))))))))))))))))))))))))), hh⟩, by omega⟩)
          | omega
       ·have hG10 := hg10; try simp only [gS] at hG10
        refine sy_skip ?_
        refine blk_n ?_
        refine then_n ?_
        refine sy_ops ?_
        refine o_v hf hh (yv_move rfl) ?_; clear hf a; intro a hf
        refine o_v hf hh (y_add rfl rfl) ?_; clear hf a; intro a hf
        refine o_v hf hh (yv_assign rfl) ?_; clear hf a; intro a hf
        refine ops_end ?_
        refine then_n ?_
        first
          | (have hl1 : l.length = 1 := by omega
             rw [if_pos hl1] at hi2
             exact ⟨i + 1, ⟨by omega, hf.head ⟨congrArg some (intv (by rw [if_pos hl1] at hf ⊢; omega)), congrArg some (intv (by omega)), rfl, True.intro⟩ (Keep.cons rfl (Keep.cons rfl (Keep.cons rfl (Keep.cons rfl (Keep.cons rfl (Keep.cons rfl (Keep.cons rfl (Keep.cons rfl (Keep.cons rfl (Keep.cons rfl (Keep.cons rfl (Keep.cons rfl (Keep.cons rfl (Keep.cons rfl (Keep.cons rfl (Keep.cons rfl (Keep.cons rfl (Keep.cons rfl (Keep.cons rfl (Keep.cons rfl (Keep.cons rfl (Keep.app rfl (Keep.rm rfl Keep.base))))))))))))))))))))))), hh⟩, by omega⟩)
          | (have hl1 : ¬ l.length = 1 := by omega
             rw [if_neg hl1] at hi2
             exact ⟨i + 1, ⟨by omega, hf.head ⟨congrArg some (intv (by rw [if_neg hl1]; omega)), congrArg some (intv (by omega)), rfl, True.intro⟩ (Keep.cons rfl (Keep.cons rfl (Keep.cons rfl (Keep.cons rfl (Keep.cons rfl (Keep.cons rfl (Keep.cons rfl (Keep.cons rfl (Keep.cons rfl (Keep.cons rfl (Keep.cons rfl (Keep.cons rfl (Keep.cons rfl (Keep.cons rfl (Keep.cons rfl (Keep.cons rfl (Keep.cons rfl (Keep.cons rfl (Keep.cons rfl (Keep.cons rfl (Keep.cons rfl (Keep.app rfl (Keep.rm rfl Keep.base))))))))))))))))))))))), hh⟩, by omega⟩)
          | (have hxg : ¬ x = g := by omega
             exact ⟨i + 1, ⟨by omega, hf.head ⟨congrArg some (intv (by rw [inW_miss hx hxg])), congrArg some (intv (by rw [inW_miss hx hxg])), rfl, True.intro⟩ (Keep.cons rfl (Keep.cons rfl (Keep.cons rfl (Keep.cons rfl (Keep.cons rfl (Keep.cons rfl (Keep.cons rfl (Keep.cons rfl (Keep.cons rfl (Keep.cons rfl (Keep.cons rfl (Keep.cons rfl (Keep.cons rfl (Keep.cons rfl (Keep.cons rfl (Keep.cons rfl (Keep.cons rfl (Keep.cons rfl (Keep.cons rfl (Keep.cons rfl (Keep.cons rfl (Keep.app rfl (Keep.rm rfl Keep.base))))))))))))))))))))))), hh⟩, by omega⟩)
          | omega
      ·have hG7 := hg7; try simp only [gS] at hG7
       refine sy_skip ?_
       refine blk_n ?_
       refine then_n ?_
       refine sy_ops ?_
       refine o_v hf hh (yv_move rfl) ?_; clear hf a; intro a hf
       refine o_v hf hh (y_add rfl rfl) ?_; clear hf a; intro a hf
       refine o_v hf hh (yv_assign rfl) ?_; clear hf a; intro a hf
       refine ops_end ?_
       refine then_n ?_
       first
         | (have hl1 : l.length = 1 := by omega
            rw [if_pos hl1] at hi2
            exact ⟨i + 1, ⟨by omega, hf.head ⟨congrArg some (intv (by rw [if_pos hl1] at hf ⊢; omega)), congrArg some (intv (by omega)), rfl, True.intro⟩ (Keep.cons rfl (Keep.cons rfl (Keep.cons rfl (Keep.cons rfl (Keep.cons rfl (Keep.cons rfl (Keep.cons rfl (Keep.cons rfl (Keep.cons rfl (Keep.cons rfl (Keep.cons rfl (Keep.cons rfl (Keep.cons rfl (Keep.app rfl (Keep.rm rfl Keep.base))))))))))))))), hh⟩, by omega⟩)
         | (have hl1 : ¬ l.length = 1 := by omega
            rw [if_neg hl1] at hi2
            exact ⟨i + 1, ⟨by omega, hf.head ⟨congrArg some (intv (by rw [if_neg hl1]; omega)), congrArg some (intv (by omega)), rfl, True.intro⟩ (Keep.cons rfl (Keep.cons rfl (Keep.cons rfl (Keep.cons rfl (Keep.cons rfl (Keep.cons rfl (Keep.cons rfl (Keep.cons rfl (Keep.cons rfl (Keep.cons rfl (Keep.cons rfl (Keep.cons rfl (Keep.cons rfl (Keep.app rfl (Keep.rm rfl Keep.base))))))))))))))), hh⟩, by omega⟩)
         | (have hxg : ¬ x = g := by omega
            exact ⟨i + 1, ⟨by omega, hf.head ⟨congrArg some (intv (by rw [inW_miss hx hxg])), congrArg some (intv (by rw [inW_miss hx hxg])), rfl, True.intro⟩ (Keep.cons rfl (Keep.cons rfl (Keep.cons rfl (Keep.cons rfl (Keep.cons rfl (Keep.cons rfl (Keep.cons rfl (Keep.cons rfl (Keep.cons rfl (Keep.cons rfl (Keep.cons rfl (Keep.cons rfl (Keep.cons rfl (Keep.app rfl (Keep.rm rfl Keep.base))))))))))))))), hh⟩, by omega⟩)
         | omega
     ·have hG5 := hg5; try simp only [gS] at hG5
      refine sy_exit ?_
      refine then_e ?_
      refine then_e ?_
      refine blk_e ?_
      refine blk_n ?_
      refine then_n ?_
      refine sy_ops ?_
      refine o_v hf hh (yv_move rfl) ?_; clear hf a; intro a hf
      refine o_v hf hh (y_add rfl rfl) ?_; clear hf a; intro a hf
      refine o_v hf hh (yv_assign rfl) ?_; clear hf a; intro a hf
      refine ops_end ?_
      refine then_n ?_
      exact ⟨c + 1, ⟨⟨by omega, hh9.more hh.ext⟩, hf.head ⟨congrArg some (intv (by rw [hsu, show i = l.length by omega])), congrArg some (intv (by rw [hcu, show i = l.length by omega])), rfl, True.intro⟩ (Keep.cons rfl (Keep.cons rfl (Keep.cons rfl (Keep.cons rfl (Keep.cons rfl (Keep.cons rfl (Keep.cons rfl (Keep.app rfl (Keep.rm rfl (Keep.cons rfl (Keep.cons rfl (Keep.cons rfl (Keep.cons rfl (Keep.cons rfl (Keep.cons rfl (Keep.cons rfl (Keep.cons rfl (Keep.app rfl (Keep.rm rfl Keep.base)))))))))))))))))))⟩, by omega⟩
   ·have hG2 := hg2; try simp only [gS] at hG2
    refine sy_exit ?_
    refine then_e ?_
    refine then_e ?_
    refine blk_e ?_
    refine then_n ?_
    refine sy_sq ?_
    refine o_v hf hh (yv_move rfl) ?_; clear hf a; intro a hf
    refine o_v hf hh (yv_move rfl) ?_; clear hf a; intro a hf
    refine o_v hf hh (yv_assign rfl) ?_; clear hf a; intro a hf
    refine o_v hf hh (yv_assign rfl) ?_; clear hf a; intro a hf
    refine o_end ?_
    refine sy_ret ?_
    refine ret_r hf rfl rfl ?_
    obtain rfl : c = 12 := by omega
    exact ⟨by rw [sur_sum hO, clm_sum hO]; rfl, hh.ext⟩
end Go.Proofs.Ytkfkifkdncdhoaa
namespace Go.RoyM
open Go Go.Sy
theorem owe_bd {d : RoyD} (hO : RoyOk d) {g : Nat} (hg : g < d.terms.length) (F : Nat → Nat) (hF : ∀ k, F k ≤ 12) {i : Nat} (hi : i ≤ d.prices.length) : -5497558138880 ≤ sumI (-(d.paid.getD g 0) :: (List.range i).map fun k => comV (termN d g) (d.prices.getD k 0) (F k : Nat)) ∧ sumI (-(d.paid.getD g 0) :: (List.range i).map fun k => comV (termN d g) (d.prices.getD k 0) (F k : Nat)) ≤ 5497558138880 := by
  obtain ⟨t, ht⟩ := ex_of hg
  obtain ⟨pd, hpd⟩ := ex_of (l := d.paid) (i := g) (by have := hO.npd; omega)
  have hp := hO.pd pd (List.mem_of_getElem? hpd)
  rw [getD_at hpd, term_at ht]
  have h := sum_bd (b := 1099511627776) (l := -pd :: (List.range i).map fun k => comV t (d.prices.getD k 0) (F k : Nat)) (fun x hx => by
    rcases List.mem_cons.1 hx with rfl | hx
    · omega
    · obtain ⟨k, hk, rfl⟩ := List.mem_map.1 hx
      obtain ⟨pr, hpr⟩ := ex_of (l := d.prices) (i := k) (by have := List.mem_range.1 hk; omega)
      have hb := hO.p pr (List.mem_of_getElem? hpr)
      rw [getD_at hpr]
      have := com_bd (hO.t t (List.mem_of_getElem? ht)) hb.1 hb.2 (hF k)
      omega)
  have h4 := hO.np
  have h5 : (-pd :: (List.range i).map fun k => comV t (d.prices.getD k 0) (F k : Nat)).length = i + 1 := by simp
  rw [h5] at h
  omega
theorem low_sum {d : RoyD} {g i : Nat} {x : Int} (hx : d.prices[i]? = some x) : sumI (lowL d g (i + 1)) = sumI (lowL d g i) + comV (termN d g) x (pc (surN d i g) : Nat) := by
  rw [lowL_succ, sumI_app, getD_at hx]
  show _ + (0 + _) = _
  rw [Int.zero_add]
theorem hig_sum {d : RoyD} {g i : Nat} {x : Int} (hx : d.prices[i]? = some x) : sumI (higL d g (i + 1)) = sumI (higL d g i) + comV (termN d g) x (pc (clm d i g) : Nat) := by
  rw [higL_succ, sumI_app, getD_at hx]
  show _ + (0 + _) = _
  rw [Int.zero_add]
/-- The most parts of a sharing. -/
def mxN (l : List (List Int)) : Nat := l.foldl (fun m x => max m x.length) 0
theorem mx_take {l : List (List Int)} {i : Nat} {x : List Int} (h : l[i]? = some x) : mxN (l.take (i + 1)) = max (mxN (l.take i)) x.length := by
  unfold mxN
  rw [List.take_add_one, h, List.foldl_append]; rfl
theorem mx_fold : ∀ (l : List (List Int)) (m : Nat), m ≤ l.foldl (fun m x => max m x.length) m ∧ ∀ x ∈ l, x.length ≤ l.foldl (fun m x => max m x.length) m
  | [], m => ⟨Nat.le_refl _, by simp⟩
  | y :: l, m => by
    obtain ⟨h1, h2⟩ := mx_fold l (max m y.length)
    rw [List.foldl_cons]
    refine ⟨by omega, fun x hx => ?_⟩
    rcases List.mem_cons.1 hx with rfl | hx
    · omega
    · exact h2 x hx
def grB (d : RoyD) : Bool := decide (16 < d.terms.length) || (decide (16 < d.prices.length) || (decide (16 < d.shares.length) || (decide (60 < d.reps.length) || (decide (16 < d.paid.length) || decide (20 < mxN d.shares)))))
theorem gr_no {d : RoyD} (h : grB d = false) : d.terms.length ≤ 16 ∧ d.prices.length ≤ 16 ∧ d.shares.length ≤ 16 ∧ d.reps.length ≤ 60 ∧ d.paid.length ≤ 16 ∧ ∀ l ∈ d.shares, l.length ≤ 20 := by
  unfold grB at h
  simp only [Bool.or_eq_false_iff, decide_eq_false_iff_not] at h
  obtain ⟨h1, h2, h3, h4, h5, h6⟩ := h
  refine ⟨by omega, by omega, by omega, by omega, by omega, fun l hl => ?_⟩
  have h7 : l.length ≤ mxN d.shares := (mx_fold d.shares 0).2 l hl
  omega
/-- No two reports with a card in common so far, as the document looks for them. -/
theorem meet_no {d : RoyD} {x y : RepD} (hx : RepOk d x) (hy : RepOk d y) (h : ∀ c : Nat, c < 12 → ¬ (hasB x x.kd c = true ∧ hasB y x.kd c = true)) : meetB x y = false := Bool.eq_false_iff.2 fun e => by
  obtain ⟨c, hc, h1, h2⟩ := (meet_iff hx hy).1 e
  exact h c hc ⟨h1, h2⟩
end Go.RoyM
