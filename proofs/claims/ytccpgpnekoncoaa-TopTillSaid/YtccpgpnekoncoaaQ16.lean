/- Lemmas, in order: The truth with the least, card by card. Who sold the cards, if agents have least. A press with one view, in memory; what deals make of a shelf.. -/
import Derived.Test.YtccpgpnekoncoaaQ15
namespace Go.RoyM
open Go Go.Sy
def uvs (l : List Nat) : List Value := l.map fun x => .int .u64 ((x : Nat) : Int)
def nvs (l : List Nat) : List Value := l.map fun x => .int .i64 ((x : Nat) : Int)
theorem uvs_snoc {l : List Nat} {i x : Nat} (h : l[i]? = some x) : uvs (l.take (i + 1)) = uvs (l.take i) ++ [.int .u64 ((x : Nat) : Int)] := by
  unfold uvs
  rw [List.take_add_one, h, List.map_append]; rfl
theorem nvs_app (l : List Nat) (x : Nat) : nvs (l ++ [x]) = nvs l ++ [.int .i64 ((x : Nat) : Int)] := by unfold nvs; rw [List.map_append]; rfl
theorem own_uat {e : Nat} {v : Value} {m : Nat} {l : List Nat} {X : List (Nat × Obj)} {w : World} (h : OwnSl e 1 v m (uvs l) X) (hX : ∀ q ∈ X, w.heap[q.1]? = some q.2) : ∃ oa cap, v = .slice oa m cap ∧ m = l.length ∧ UAt w oa l ∧ ∀ B off, oa = some ⟨B, off, none⟩ → B ∈ X.map Prod.fst := by
  have hm : m = l.length := by have := h.1; unfold uvs at this; rw [List.length_map, Nat.mul_one] at this; exact this.symm
  rcases h.2 with ⟨h1, h2, _⟩ | ⟨B, cap, cur, h1, h2, _, _, h5, h6⟩
  · refine ⟨none, 0, by rw [h1, h2], hm, fun i x hi => ?_, fun B off h => by cases h⟩
    have := len_of hi
    omega
  · refine ⟨_, _, h1, hm, fun i x hi => ⟨B, 0, cur, e, (0, 0), rfl, hX (B, .cells cur e (0, 0)) (by rw [h2]; exact .head _), ?_⟩, fun B' off h => by cases h; rw [h2]; exact .head _⟩
    have hl := len_of hi
    have h7 : (uvs l)[i]? = some (.int .u64 ((x : Nat) : Int)) := by unfold uvs; rw [List.getElem?_map, hi]; rfl
    rw [← h6, Nat.mul_one, List.getElem?_take, if_pos (by omega)] at h7
    rw [Int.toNat_natCast, Nat.zero_add, Nat.mul_one, ← Array.getElem?_toList]
    exact h7
theorem UAt.extN {w w' : World} {M : List Nat} {sa : Option Addr} {l : List Nat} (h : UAt w sa l) (e : Ext M w w') (hs : ∀ B off, sa = some ⟨B, off, none⟩ → B ∉ M) : UAt w' sa l := fun i s hi =>
  let ⟨blk, off, c, T, fr, h1, h2, h3⟩ := h i s hi
  ⟨blk, off, c, T, fr, h1, e.getM h2 (hs _ _ h1), h3⟩
/-- An agent who claims a card, with whom the least is reached. -/
def goodA (d : RoyD) (x : Int) (ws : List Nat) (i w : Nat) (n : Cts) (g : Nat) : Prop := w.testBit g = true ∧ lesK d x ws (i + 1, cinc n g) ≤ lesK d x ws (i, n)
theorem good_ex {d : RoyD} {x : Int} {ws : List Nat} {i w : Nat} {n : Cts} (h : ws[i]? = some w) (hne : clrL d.terms.length w ≠ []) : ∃ g, g < d.terms.length ∧ goodA d x ws i w n g := by
  have h1 := lesL_all (d := d) (x := x) h n
  have hn : lesL d x w (ws.drop (i + 1)) n d.terms.length ≠ [] := by
    intro e
    exact hne (List.map_eq_nil_iff.1 e)
  have h2 := (loL_spec hn).1
  rw [h1] at h2
  obtain ⟨g, hg, e⟩ := List.mem_map.1 h2
  rw [List.mem_filter, List.mem_range] at hg
  exact ⟨g, hg.1, hg.2, Int.le_of_eq e⟩
theorem good_is {d : RoyD} {x : Int} {ws : List Nat} {i w : Nat} {n : Cts} (h : ws[i]? = some w) {g : Nat} (hg : g < d.terms.length) (h1 : goodA d x ws i w n g) (h2 : ∀ g', g' < g → ¬ goodA d x ws i w n g') : pickA d x w (ws.drop (i + 1)) n = g := by
  have hi := len_of h
  have hd : ws.drop i = w :: ws.drop (i + 1) := by rw [List.drop_eq_getElem_cons hi, (List.getElem?_eq_some_iff.1 h).2]
  unfold pickA
  have key : ((List.range d.terms.length).find? fun g => w.testBit g && decide (leastV d x (ws.drop (i + 1)) (cinc n g) ≤ leastV d x (w :: ws.drop (i + 1)) n)) = some g := by
    rw [List.find?_eq_some_iff_getElem]
    unfold goodA lesK at h1
    rw [hd] at h1
    refine ⟨by simp only [h1.1, Bool.true_and, decide_eq_true_eq]; exact h1.2, g, by simpa using hg, by simp, fun j hj => ?_⟩
    have h3 := h2 j hj
    unfold goodA lesK at h3
    rw [hd] at h3
    simp only [List.getElem_range, Bool.not_eq_true', Bool.and_eq_false_iff, decide_eq_false_iff_not]
    by_cases hb : w.testBit j = true
    · exact .inr fun h4 => h3 ⟨hb, h4⟩
    · exact .inl (by simpa using hb)
  rw [key]; rfl
/-- How far the truth is told. -/
def ToldL (d : RoyD) (x : Int) (ws : List Nat) (i : Nat) (n : Cts) (pre : List Nat) : Prop := pre.length = i ∧ leastL d x ws (0, 0, 0, 0) = pre ++ leastL d x (ws.drop i) n
theorem ToldL.zero (d : RoyD) (x : Int) (ws : List Nat) : ToldL d x ws 0 (0, 0, 0, 0) [] := ⟨rfl, rfl⟩
theorem ToldL.next {d : RoyD} {x : Int} {ws : List Nat} {i : Nat} {n : Cts} {pre : List Nat} (h : ToldL d x ws i n pre) {w g : Nat} (hw : ws[i]? = some w) (hg : pickA d x w (ws.drop (i + 1)) n = g) : ToldL d x ws (i + 1) (cinc n g) (pre ++ [g]) := by
  have hi := len_of hw
  refine ⟨by rw [List.length_append, h.1]; rfl, ?_⟩
  rw [h.2, List.drop_eq_getElem_cons hi, (List.getElem?_eq_some_iff.1 hw).2, leastL, hg, List.append_assoc]; rfl
theorem ToldL.done {d : RoyD} {x : Int} {ws : List Nat} {i : Nat} {n : Cts} {pre : List Nat} (h : ToldL d x ws i n pre) (hi : i = ws.length) : leastL d x ws (0, 0, 0, 0) = pre := by
  rw [h.2, hi, List.drop_length]
  show pre ++ [] = pre
  exact List.append_nil _
theorem soldW_at {d : RoyD} {k : Int} {i : Nat} {y : Nat × Nat} (h : (soldL d k)[i]? = some y) : ((soldL d k).map Prod.snd)[i]? = some y.2 := by rw [List.getElem?_map, h]; rfl
theorem soldW_lt {d : RoyD} {k : Int} : ∀ w ∈ (soldL d k).map Prod.snd, w < 16 := fun w hw => by
  obtain ⟨i, hi⟩ := List.mem_iff_getElem?.1 hw
  rw [List.getElem?_map] at hi
  cases h : (soldL d k)[i]? with
  | none => rw [h] at hi; cases hi
  | some y => rw [h] at hi; cases hi; exact who_lt h
end Go.RoyM
namespace Go.Proofs.Ytccpgpnekoncoaa
set_option maxRecDepth 100000
open Go Go.Sy Go.RoyM
set_option maxRecDepth 100000 in
set_option maxHeartbeats 4000000 in
theorem p30 (d : RoyD) (p : Pl) (g : Int) (u : World) (hRR : RoyAt u d p) : Calls Try.prog 11 #[.agg (royC d p), .int .i64 g] u (Ret fun v w' => ∃ sv X, v = .tuple #[sv, .int .i64 (allE d g)] ∧ OwnSl 3 1 sv (leaV d g).length (nvs (leaV d g)) X ∧ Hp u [] X w') := by
  refine calls_ofM Try.func11 rfl rfl (fun a hf => ?_)
  have hh := Hp.init u []
  refine sy_sq ?_
  refine o_box hf hh ?_; clear hf hh a; intro B2 a w hf hh
  refine o_box hf hh ?_; clear hf hh a; intro B3 a w hf hh
  refine o_v hf hh (yv_assign rfl) ?_; clear hf a; intro a hf
  refine o_alloc hf hh Try.ze_42 ?_; clear hf hh a; intro B5 a w hf hh
  refine o_end ?_
  refine sy_sq ?_
  refine o_v hf hh (yv_makeFunc rfl rfl) ?_; clear hf a; intro a hf
  refine o_defer hf ?_; clear hf a; intro a hf
  refine o_end ?_
  refine sy_sq ?_
  refine o_v hf hh (y_lds Try.ag_52 rfl) ?_; clear hf a; intro a hf
  refine o_v hf hh (yv_makeFunc rfl rfl) ?_; clear hf a; intro a hf
  refine o_callX hf Try.en_39 rfl rfl rfl (p57 d _ _ (hRR.ext hh.ext) 40 _ (isKd d g) Try.en_40 (fun hok Bc w2 e hc => p81 d _ Bc w2 hc B3 g (e.get (hh.at (i := 1) rfl)) hRR.n2)) ?_ ?_
  ·clear hf a; intro v a w hR hf
   obtain ⟨he, Bc, rfl, hx⟩ := hR; replace hh := hh.join hx; clear hx
   obtain ⟨hok, hask⟩ := openE_zero.1 he
   have hO := royB_iff.1 hok
   have hnt := hO.nt
   obtain ⟨hg0, hg1⟩ := inI_bd hask
   obtain ⟨q, rfl⟩ : ∃ q : Nat, g = q := ⟨g.toNat, by omega⟩
   obtain ⟨x, hx⟩ := ex_of (l := d.prices) (i := q) (by omega)
   have ep : priceN d q = x := getD_at hx
   have e0 : allE d q = 0 := he
   refine o_alloc hf hh Try.ze_102 ?_; clear hf hh a; intro B6 a w hf hh
   refine o_store hf hh Try.sz_102 fun w hh => ?_
   refine o_end ?_
   refine sy_sq ?_
   refine o_alloc hf hh Try.ze_106 ?_; clear hf hh a; intro B7 a w hf hh
   refine o_end ?_
   refine sy_seq ?_
   refine sy_sq ?_
   refine o_v hf hh (y_ld Try.sc_102 rfl) ?_; clear hf a; intro a hf
   refine o_v hf hh (y_ld Try.sc_3 rfl) ?_; clear hf a; intro a hf
   refine o_call hf Try.en_42 rfl rfl rfl (p82 Bc q _) ?_; clear hf a; intro v a w hR hf
   obtain ⟨B1i, B2i, rfl, hx⟩ := hR; replace hh := hh.join hx; clear hx
   have hq : Hp u [] [(B2i, .cells #[.int .i64 (q : Nat)] 3), (B1i, .cells #[ptr Bc 0] 102), (B7, .cells #[.slice none 0 0] 106), (B6, .cells #[ptr Bc 0] 102), (Bc, .cells (royC d p) 123), (B5, .cells #[.int .i64 0] 42), (B3, .cells #[.int .i64 (q : Nat)] 3), (B2, .cells (royC d p) 52)] w := hh
   replace hh := hq.pick [2, 3, 5, 6]
   refine o_end ?_
   refine sy_block ?_
   refine sy_rangeH (I := fun k H => ∃ v X, OwnSl 111 1 v k (uvs (((soldL d q).map Prod.snd).take k)) X ∧ H = [(B7, .cells #[v] 106), (B6, .cells #[ptr Bc 0] 102), (B5, .cells #[.int .i64 0] 42), (B3, .cells #[.int .i64 (q : Nat)] 3)] ++ X) (X := fun _ _ _ => False) hf hh Try.en_92 rfl (it100 d p q Bc B1i B2i hO hRR.n4) (fun x hx => by cases hx) rfl (by intro x hx; obtain ⟨y, _, rfl⟩ := List.mem_map.1 hx; rfl) ?_ ?_ ?_ ?_ ?_ ?_
   · exact ⟨_, [], OwnSl.nil _ _, rfl⟩
   · intro N1 w1 e1 g1
     have h1 := (Hp.held (X := [(B7, .cells #[.slice none 0 0] 106), (B6, .cells #[ptr Bc 0] 102), (B5, .cells #[.int .i64 0] 42), (B3, .cells #[.int .i64 (q : Nat)] 3)]) (is := [2, 3, 5, 6]) hq rfl [1, 0, 4])
     exact ⟨h1.step (e1.mono (by simp)) g1, (TOff.new hRR.rp hh.ext hh.fresh).step (e1.mono (by simp)) g1⟩
   ·rintro k x fn D l H w a tm hx ⟨v, X, hO3, rfl⟩ hv hh hf
    obtain ⟨y, hyk, rfl⟩ := sV_at hx
    have hsl := sold_len d q
    have hkl := len_of hyk
    refine sy_ops ?_
    refine o_v hf hh (yv_assign rfl) ?_; clear hf a; intro a hf
    refine ops_end ?_
    refine then_n (Go.Sy.begun (i := 0) hh rfl fun w hh => ?_)
    refine sy_block ?_
    refine sy_ops ?_
    refine o_v hf hh (y_ld Try.sc_106 rfl) ?_; clear hf a; intro a hf
    refine o_v hf hh (yv_move rfl) ?_; clear hf a; intro a hf
    refine ops_buildSl hf hh Try.bl_106_1 rfl rfl (.inl rfl) rfl ?_; clear hf hh; clear a; intro B25 a w hf hh
    refine ops_append (e := 111) (size := 1) (xs := uvs (((soldL d q).map Prod.snd).take k)) (X := X) (Z := _) (m := k) (q := 1) hf (hh.perm (.cons _ (List.perm_append_comm (l₁ := [_, _, _, _, _, _]) (l₂ := X)))) Try.eb_106 rfl rfl hO3 rfl rfl rfl (by simp only [maxLen]; omega) (by omega) (.inl rfl) rfl ?_; clear hf hh a; intro v2 X2 a w hO2 hf hh
    replace hh := hh.perm List.perm_append_comm
    obtain ⟨oa2, cpz, rfl⟩ := own_val hO2
    refine o_store hf hh Try.sz_106 fun w hh => ?_
    refine ops_end ?_
    refine blk_n ?_
    exact ⟨_, ⟨_, X2, by rw [uvs_snoc (soldW_at hyk)]; exact hO2, rfl⟩, hh⟩
   ·rintro D H N2 a w ⟨v, X, hO3, rfl⟩ hOw hf hh
    obtain ⟨hHeld, hTO⟩ := hOw
    have hBc := hHeld.at 2 rfl
    have hBcn : Bc ∉ [D, B7, B6, B5, B3] := fun h => by
      rcases List.mem_cons.1 h with h | h
      · have h8 := hh.at (i := 0) rfl
        rw [← h, hBc] at h8; cases h8
      · exact ((Hp.held (X := [(B7, .cells #[.slice none 0 0] 106), (B6, .cells #[ptr Bc 0] 102), (B5, .cells #[.int .i64 0] 42), (B3, .cells #[.int .i64 (q : Nat)] 3)]) (is := [2, 3, 5, 6]) hq rfl [4])).off 0 rfl h
    obtain ⟨ws, hws⟩ : ∃ ws, ws = (soldL d q).map Prod.snd := ⟨_, rfl⟩
    have hlen : ((soldL d q).map sV).length = ws.length := by rw [hws, List.length_map, List.length_map]
    rw [hlen, ← hws, List.take_length] at hO3
    have hwl : ws.length ≤ 12 := by rw [hws, List.length_map]; exact sold_len d q
    have hw16 : ∀ w ∈ ws, w < 16 := by rw [hws]; exact soldW_lt
    have hS1 : Some1 d.terms.length ws := by rw [hws]; exact sold_some hO q
    obtain ⟨sa, cap, rfl, _, hU, hUb⟩ := own_uat hO3 (w := w) (fun y hy => hh.get y (by simp [hy]))
    have hUn : ∀ B off, sa = some ⟨B, off, none⟩ → B ∉ [D, B7, B6, B5, B3] := fun B off h h2 => by
      have hnd := hh.nodup
      have h8 : Hp u [] ([(D, .deferred (some [])), (B7, .cells #[.slice sa ws.length cap] 106), (B6, .cells #[ptr Bc 0] 102), (B5, .cells #[.int .i64 0] 42), (B3, .cells #[.int .i64 (q : Nat)] 3)] ++ X) w := hh
      have h9 := h8.nodup
      rw [List.map_append, List.nodup_append] at h9
      exact h9.2.2 B h2 B (hUb B off h) rfl
    have hh0 : Hp u [] [(D, .deferred (some [])), (B7, .cells #[.slice sa ws.length cap] 106), (B6, .cells #[ptr Bc 0] 102), (B5, .cells #[.int .i64 0] 42), (B3, .cells #[.int .i64 (q : Nat)] 3)] w := hh.less (.cons_cons _ (.cons_cons _ (.cons_cons _ (.cons_cons _ (.cons_cons _ (List.nil_sublist _))))))
    have hRw := hRR.ext hh0.ext
    obtain ⟨w9, rfl⟩ : ∃ z, z = w := ⟨_, rfl⟩
    replace hh : Hp w9 [D, B7, B6, B5, B3] _ w9 := hh0.own
    refine blk_n ?_
    refine then_n ?_
    refine sy_sq ?_
    refine ops_makeMap hf hh (.inl rfl) rfl ?_; clear hf hh; clear a; intro B27 a w hf hh
    refine o_alloc hf hh Try.ze_112 ?_; clear hf hh a; intro B10 a w hf hh
    refine o_store hf hh Try.sz_112 fun w hh => ?_
    refine o_end ?_
    refine sy_sq ?_
    refine o_alloc hf hh Try.ze_113 ?_; clear hf hh a; intro B11 a w hf hh
    refine o_end ?_
    refine sy_sq ?_
    refine o_v hf hh (yv_makeFunc rfl rfl) ?_; clear hf a; intro a hf
    refine o_store hf hh Try.sz_113 fun w hh => ?_
    refine o_end ?_
    refine sy_seq ?_
    refine sy_sq ?_
    refine o_v hf hh (yv_cast (yv_buildS Try.bs_117 rfl rfl) (show _ = encS (0, (0, 0, 0, 0)) from rfl)) ?_; clear hf a; intro a hf
    refine o_alloc hf hh Try.ze_117 ?_; clear hf hh a; intro B12 a w hf hh
    refine o_store hf hh Try.sz_117 fun w hh => ?_
    refine o_end ?_
    refine sy_block ?_
    refine sy_loopH (σ := Nat × Cts × Nat × List Nat × Value × List (Nat × Obj) × Array MapEntry × Nat) [4, 12, 13, 30, 31, 32, 33, 34, 35, 36, 37, 38, 39, 40, 41, 42, 43, 44, 45, 46, 47, 48, 49, 50, 51, 52, 53, 54, 55, 56, 57, 58, 59, 60, 61, 62, 63, 64, 65, 66, 67, 68, 69, 70, 71, 72, 73, 74] (fun s => [(4, s.2.2.2.2.1), (12, ptr s.2.2.1 0)]) (fun s => fun w' => s.1 ≤ ws.length ∧ cardsN s.2.1 ≤ s.1 ∧ ToldL d x ws s.1 s.2.1 s.2.2.2.1 ∧ OwnSl 3 1 s.2.2.2.2.1 s.1 (nvs s.2.2.2.1) s.2.2.2.2.2.1 ∧ MemoK encS .i64 (lesK d x ws) s.2.2.2.2.2.2.1 ∧ Hp w9 [D, B7, B6, B5, B3] ([(s.2.2.1, .cells (stC s.1 s.2.1) 117), (B27, .map s.2.2.2.2.2.2.1 s.2.2.2.2.2.2.2), (B11, .cells #[.func (.func 43) #[] #[ptr B7 0, ptr B6 0, ptr B3 0, ptr B10 0, ptr B11 0]] 113), (B10, .cells #[.map (some B27)] 112), (B7, .cells #[.slice sa ws.length cap] 106), (B6, .cells #[ptr Bc 0] 102), (B5, .cells #[.int .i64 0] 42), (B3, .cells #[.int .i64 (q : Nat)] 3), (D, .deferred (some []))] ++ s.2.2.2.2.2.1) w') (fun s => ws.length - s.1) ((0, (0, 0, 0, 0), B12, [], .slice none 0 0, [], #[], 0)) hf ?_ ?_ ?_
    · repeat' (first | exact True.intro | refine And.intro rfl ?_)
    · exact ⟨Nat.zero_le _, Nat.le_refl _, .zero d x ws, OwnSl.nil _ _, MemoK.nil _ _ _, hh.pick [0, 3, 1, 2, 5, 6, 7, 8, 4]⟩
    ·rintro s a w ⟨hi, hcn, hTl, hO4, hM, hh⟩ hf
     obtain ⟨i, n, b12, pre, v4, X4, es, cm⟩ := s; simp only at hi hcn hTl hO4 hM hh hf ⊢
     refine sy_seq ?_
     refine sy_seq ?_
     
     refine sy_ops ?_
     refine o_v hf hh (yv_fieldAddr Try.fo_117_0 rfl) ?_; clear hf a; intro a hf
     refine o_v hf hh (y_ld Try.sc_3 rfl) ?_; clear hf a; intro a hf
     refine o_v hf hh (y_ld Try.sc_106 rfl) ?_; clear hf a; intro a hf
     refine o_v hf hh (yv_len Try.se_106 rfl) ?_; clear hf a; intro a hf
     refine o_v hf hh (yv_bin rfl rfl rfl) ?_; clear hf a; intro a hf
     refine o_end ?_
     refine sy_cond hf rfl (fun hg8 => ?_) (fun hg8 => ?_)
     ·have hG8 := hg8; try simp only [gS] at hG8
      refine sy_skip ?_
      refine then_n ?_
      refine sy_seq ?_
      refine sy_block ?_
      refine sy_seq ?_
      obtain ⟨wn, hwn⟩ := ex_of (l := ws) (i := i) (by omega)
      have hw := hw16 wn (List.mem_of_getElem? hwn)
      obtain ⟨blk, off, cc, T, fr, e9, hbw, hcw⟩ := hU i wn hwn
      have hbwn := hUn _ _ e9
      have hgex := good_ex (d := d) (x := x) (n := n) hwn (hS1 wn (List.mem_of_getElem? hwn))
      have hcy := cget_le n
      subst e9
      have hpre : (0 : Nat) < d.terms.length := by obtain ⟨g, hg, _⟩ := hgex; omega
      replace hh : Hp w9 [D, B7, B6, B5, B3] ([(b12, .cells (stC i n) 117), (B27, .map es cm), (B11, .cells #[.func (.func 43) #[] #[ptr B7 0, ptr B6 0, ptr B3 0, ptr B10 0, ptr B11 0]] 113), (B10, .cells #[.map (some B27)] 112), (B7, .cells #[.slice (some ⟨blk, off, none⟩) ws.length cap] 106), (B6, .cells #[ptr Bc 0] 102), (B5, .cells #[.int .i64 0] 42), (B3, .cells #[.int .i64 (q : Nat)] 3), (D, .deferred (some []))] ++ X4) w := hh
      refine sy_ops ?_
      refine o_v hf hh (yv_assign rfl) ?_; clear hf a; intro a hf
      refine o_end ?_
      refine sy_seq ?_
      refine sy_block ?_
      refine sy_loopH (σ := Nat × Array MapEntry × Nat) [13, 39, 40, 41, 42, 43, 44, 45, 46, 47, 48, 49, 50, 51, 52, 53, 54, 55, 56, 57, 58, 59, 60, 61, 62, 63, 64] (fun s => [(13, .int .i64 (s.1 : Nat))]) (fun s => fun w' => s.1 < d.terms.length ∧ (∀ g', g' < s.1 → ¬ goodA d x ws i wn n g') ∧ MemoK encS .i64 (lesK d x ws) s.2.1 ∧ Hp w9 [D, B7, B6, B5, B3] ([(b12, .cells (stC i n) 117), (B27, .map s.2.1 s.2.2), (B11, .cells #[.func (.func 43) #[] #[ptr B7 0, ptr B6 0, ptr B3 0, ptr B10 0, ptr B11 0]] 113), (B10, .cells #[.map (some B27)] 112), (B7, .cells #[.slice (some ⟨blk, off, none⟩) ws.length cap] 106), (B6, .cells #[ptr Bc 0] 102), (B5, .cells #[.int .i64 0] 42), (B3, .cells #[.int .i64 (q : Nat)] 3), (D, .deferred (some []))] ++ X4) w') (fun s => d.terms.length - s.1) ((0, es, cm)) hf ?_ ?_ ?_
      · repeat' (first | exact True.intro | refine And.intro rfl ?_)
      · exact ⟨hpre, fun g h => absurd h (by omega), hM, hh⟩
      ·rintro s a w ⟨ha, hno, hM2, hh⟩ hf
       obtain ⟨a9, es2, cm2⟩ := s; simp only at ha hno hM2 hh hf ⊢
       have mkLe : ∀ {es cm w'}, Hp w9 [D, B7, B6, B5, B3] ([(b12, .cells (stC i n) 117), (B27, .map es cm), (B11, .cells #[.func (.func 43) #[] #[ptr B7 0, ptr B6 0, ptr B3 0, ptr B10 0, ptr B11 0]] 113), (B10, .cells #[.map (some B27)] 112), (B7, .cells #[.slice (some ⟨blk, off, none⟩) ws.length cap] 106), (B6, .cells #[ptr Bc 0] 102), (B5, .cells #[.int .i64 0] 42), (B3, .cells #[.int .i64 (q : Nat)] 3), (D, .deferred (some []))] ++ X4) w' → LeC w' d p q ws (some ⟨blk, off, none⟩) cap Bc B7 B6 B3 B10 B11 B27 43 := fun h => ⟨h.oldM hBc hBcn, h.at (i := 4) rfl, h.at (i := 5) rfl, h.at (i := 7) rfl, h.at (i := 3) rfl, h.at (i := 2) rfl, hU.extN h.ext hUn, hRR.ext (hh0.comp h).ext⟩
       refine sy_seq ?_
       refine sy_seq ?_
       have clsP : ∀ {es cm w'}, Hp w9 [D, B7, B6, B5, B3] ([(b12, .cells (stC i n) 117), (B27, .map es cm), (B11, .cells #[.func (.func 43) #[] #[ptr B7 0, ptr B6 0, ptr B3 0, ptr B10 0, ptr B11 0]] 113), (B10, .cells #[.map (some B27)] 112), (B7, .cells #[.slice (some ⟨blk, off, none⟩) ws.length cap] 106), (B6, .cells #[ptr Bc 0] 102), (B5, .cells #[.int .i64 0] 42), (B3, .cells #[.int .i64 (q : Nat)] 3), (D, .deferred (some []))] ++ X4) w' → Hp w9 [D, B7, B6, B5, B3] [(b12, .cells (stC i n) 117), (B11, .cells #[.func (.func 43) #[] #[ptr B7 0, ptr B6 0, ptr B3 0, ptr B10 0, ptr B11 0]] 113), (B10, .cells #[.map (some B27)] 112), (B7, .cells #[.slice (some ⟨blk, off, none⟩) ws.length cap] 106), (B6, .cells #[ptr Bc 0] 102), (B5, .cells #[.int .i64 0] 42), (B3, .cells #[.int .i64 (q : Nat)] 3), (D, .deferred (some []))] w' := fun h => (h.less (List.sublist_append_left _ _)).less (.cons_cons _ (.cons _ (.refl _)))
       refine sy_treeC (.q 0 0 (.p 1 (.q 0 2 (.p 3 (.q 0 4 (.p 5 (.e1 6 (.p 7 (.p 8 (.q 0 9 (.p 10 (.q 0 11 (.p 12 (.p 13 (.q 0 14 (.p 15 (.q 0 19 (.q 0 20 (.e1 16 (.p 17 (.e1 18 (.e1 21 (.p 22 (.p 23 (.fin))))))))))))))))))))))))) [[]] [(Hp w9 [D, B7, B6, B5, B3] [(b12, .cells (stC i n) 117), (B11, .cells #[.func (.func 43) #[] #[ptr B7 0, ptr B6 0, ptr B3 0, ptr B10 0, ptr B11 0]] 113), (B10, .cells #[.map (some B27)] 112), (B7, .cells #[.slice (some ⟨blk, off, none⟩) ws.length cap] 106), (B6, .cells #[ptr Bc 0] 102), (B5, .cells #[.int .i64 0] 42), (B3, .cells #[.int .i64 (q : Nat)] 3), (D, .deferred (some []))], [])] Try.follows (by kernel_rfl) rfl hh (fun w hh => ?_)
       refine mc_q rfl rfl (clsP hh) hf (y_ld Try.sc_106 rfl) (.inl rfl) rfl rfl ?_; clear hf a; intro a hf
       refine mc_p rfl   hf (yv_fieldAddr Try.fo_117_0 rfl) (.inl rfl) rfl rfl ?_; clear hf a; intro a hf
       refine mc_q rfl rfl (clsP hh) hf (y_ld Try.sc_3 rfl) (.inl rfl) rfl rfl ?_; clear hf a; intro a hf
       refine mc_p rfl   hf (y_ix Try.se_106 rfl rfl) (.inl rfl) rfl rfl ?_; clear hf a; intro a hf
       refine mc_q rfl rfl (clsP hh) hf (y_ld Try.sc_111 rfl) (.inl rfl) rfl rfl ?_; clear hf a; intro a hf
       refine mc_p rfl   hf (yv_move rfl) (.inl rfl) rfl rfl ?_; clear hf a; intro a hf
       refine mc_e rfl fun Q1 => ?_
       refine o_call hf Try.en_45 rfl rfl rfl (p84 wn a9 (by omega) (by omega) _) ?_; clear hf a; intro v a w hR hf
       obtain ⟨rfl, hx⟩ := hR; replace hh := hh.more hx; clear hx
       refine ops_end ?_
       refine then_n ⟨⟨fun _ _ => (clsP hh), trivial⟩, ?_⟩
       refine mc_p rfl   hf (yv_not rfl) (.inl rfl) rfl rfl ?_; clear hf a; intro a hf
       refine mc_p rfl   hf (yv_move rfl) (.inl rfl) rfl rfl ?_; clear hf a; intro a hf
       refine guard_any hf (t := 47) rfl (fun hg10 => ?_) (fun hg10 => ?_)
       ·have hG10 := hg10; try simp only [gS] at hG10
        refine mc_offq rfl rfl (clsP hh) hf (goff rfl rfl rfl (by first | assumption | rfl | (simp; done) | (simp; omega))) rfl rfl ?_; clear hf a; intro a hf
        refine mc_off rfl hf (goff rfl rfl rfl (by first | assumption | rfl | (simp; done) | (simp; omega))) rfl rfl ?_; clear hf a; intro a hf
        refine mc_offq rfl rfl (clsP hh) hf (goff rfl rfl rfl (by first | assumption | rfl | (simp; done) | (simp; omega))) rfl rfl ?_; clear hf a; intro a hf
        refine mc_off rfl hf (goff rfl rfl rfl (by first | assumption | rfl | (simp; done) | (simp; omega))) rfl rfl ?_; clear hf a; intro a hf
        refine mc_off rfl hf (goff rfl rfl rfl (by first | assumption | rfl | (simp; done) | (simp; omega))) rfl rfl ?_; clear hf a; intro a hf
        refine mc_offq rfl rfl (clsP hh) hf (goff rfl rfl rfl (by first | assumption | rfl | (simp; done) | (simp; omega))) rfl rfl ?_; clear hf a; intro a hf
        refine mc_off rfl hf (goff rfl rfl rfl (by first | assumption | rfl | (simp; done) | (simp; omega))) rfl rfl ?_; clear hf a; intro a hf
        refine mc_offq rfl rfl (clsP hh) hf (goff rfl rfl rfl (by first | assumption | rfl | (simp; done) | (simp; omega))) rfl rfl ?_; clear hf a; intro a hf
        refine mc_offq rfl rfl (clsP hh) hf (goff rfl rfl rfl (by first | assumption | rfl | (simp; done) | (simp; omega))) rfl rfl ?_; clear hf a; intro a hf
        refine mc_e rfl fun Q1 => ?_
        refine o_off hf ?_; clear hf a; intro a hf
        refine ops_end ?_
        refine then_n ⟨⟨fun _ _ => (clsP hh), trivial⟩, ?_⟩
        refine mc_off rfl hf (goff rfl rfl rfl (by first | assumption | rfl | (simp; done) | (simp; omega))) rfl rfl ?_; clear hf a; intro a hf
        refine mc_e rfl fun Q1 => ?_
        refine o_off hf ?_; clear hf a; intro a hf
        refine ops_end ?_
        refine then_n ⟨⟨fun _ _ => (clsP hh), trivial⟩, ?_⟩
        refine mc_e rfl fun Q1 => ?_
        refine o_off hf ?_; clear hf a; intro a hf
        refine ops_end ?_
        refine then_n ⟨⟨fun _ _ => (clsP hh), trivial⟩, ?_⟩
        refine mc_off rfl hf (goff rfl rfl rfl (by first | assumption | rfl | (simp; done) | (simp; omega))) rfl rfl ?_; clear hf a; intro a hf
        refine mc_p rfl   hf (y_pt rfl rfl) (.inl rfl) rfl rfl ?_; clear hf a; intro a hf
        refine mc_end ?_
        refine then_n ?_
        refine c_t hf ?_
        refine sy_skip ?_
        refine then_n ?_
        refine sy_block ?_
        refine sy_ops ?_
        refine o_v hf hh (yv_move rfl) ?_; clear hf a; intro a hf
        refine o_v hf hh (y_add rfl rfl) ?_; clear hf a; intro a hf
        refine o_v hf hh (yv_assign rfl) ?_; clear hf a; intro a hf
        refine ops_end ?_
        refine blk_n ?_
        refine then_n ?_
        have hbad : ¬ goodA d x ws i wn n a9 := fun h => by
          obtain ⟨h1, h2⟩ := h
          first
          | (rw [h1] at *; simp_all; done)
          | omega
          | simp_all
        have hal : a9 + 1 < d.terms.length := by
          obtain ⟨g, hg, hgg⟩ := hgex
          rcases (show g < a9 ∨ g = a9 ∨ a9 < g by omega) with h | h | h
          · exact absurd hgg (hno g h)
          · subst h; exact absurd hgg hbad
          · omega
        exact ⟨(a9 + 1, es2, cm2), ⟨⟨hal, fun g' h => by
          rcases (show g' < a9 ∨ g' = a9 by simp only at h; omega) with h | h
          · exact hno g' h
          · subst h; exact hbad, hM2, hh⟩, (hf.head (by repeat' (first | exact True.intro | refine And.intro rfl ?_)) (Keep.cons rfl (Keep.cons rfl (Keep.cons rfl (Keep.cons rfl (Keep.cons rfl (Keep.cons rfl (Keep.cons rfl (Keep.cons rfl (Keep.cons rfl (Keep.cons rfl (Keep.cons rfl (Keep.cons rfl (Keep.cons rfl (Keep.cons rfl (Keep.cons rfl (Keep.cons rfl (Keep.cons rfl (Keep.cons rfl (Keep.cons rfl (Keep.cons rfl (Keep.cons rfl (Keep.cons rfl (Keep.cons rfl (Keep.cons rfl (Keep.cons rfl (Keep.cons rfl (Keep.cons rfl (Keep.app rfl (Keep.rm rfl Keep.base))))))))))))))))))))))))))))))⟩, by simp only; omega⟩
       ·have hG10 := hg10; try simp only [gS] at hG10
        refine mc_q rfl rfl (clsP hh) hf (y_ld Try.sc_113 rfl) (gon rfl rfl rfl (by first | assumption | rfl | (simp; done) | (simp; omega))) rfl rfl ?_; clear hf a; intro a hf
        refine mc_p rfl   hf (yv_fieldAddr Try.fo_117_0 rfl) (gon rfl rfl rfl (by first | assumption | rfl | (simp; done) | (simp; omega))) rfl rfl ?_; clear hf a; intro a hf
        refine mc_q rfl rfl (clsP hh) hf (y_ld Try.sc_3 rfl) (gon rfl rfl rfl (by first | assumption | rfl | (simp; done) | (simp; omega))) rfl rfl ?_; clear hf a; intro a hf
        refine mc_p rfl   hf (yv_cast (yv_add rfl rfl (by omega) (by omega)) (intv (b := ((i + 1 : Nat) : Int)) (by omega))) (gon rfl rfl rfl (by first | assumption | rfl | (simp; done) | (simp; omega))) rfl rfl ?_; clear hf a; intro a hf
        refine mc_p rfl   hf (yv_fieldAddr Try.fo_117_1 rfl) (gon rfl rfl rfl (by first | assumption | rfl | (simp; done) | (simp; omega))) rfl rfl ?_; clear hf a; intro a hf
        refine mc_q rfl rfl (clsP hh) hf (y_lds Try.ag_115 rfl) (gon rfl rfl rfl (by first | assumption | rfl | (simp; done) | (simp; omega))) rfl rfl ?_; clear hf a; intro a hf
        refine mc_p rfl   hf (yv_move rfl) (gon rfl rfl rfl (by first | assumption | rfl | (simp; done) | (simp; omega))) rfl rfl ?_; clear hf a; intro a hf
        refine mc_q rfl rfl (clsP hh) hf (y_ld Try.sc_113 rfl) (gon rfl rfl rfl (by first | assumption | rfl | (simp; done) | (simp; omega))) rfl rfl ?_; clear hf a; intro a hf
        refine mc_q rfl rfl (clsP hh) hf (y_lds Try.ag_117 rfl) (gon rfl rfl rfl (by first | assumption | rfl | (simp; done) | (simp; omega))) rfl rfl ?_; clear hf a; intro a hf
        refine mc_e rfl fun Q1 => ?_
        refine o_call hf Try.en_47 rfl rfl rfl (p85 n a9 (by omega) (by have := hcy a9; omega) _) ?_; clear hf a; intro v a w hR hf
        obtain ⟨rfl, hx⟩ := hR; replace hh := hh.more hx; clear hx
        refine ops_end ?_
        refine then_n ⟨⟨fun _ _ => (clsP hh), trivial⟩, ?_⟩
        refine mc_p rfl   hf (yv_cast (yv_buildS Try.bs_117 rfl rfl) (show _ = encS (i + 1, cinc n a9) from rfl)) (gon rfl rfl rfl (by first | assumption | rfl | (simp; done) | (simp; omega))) rfl rfl ?_; clear hf a; intro a hf
        refine mc_e rfl fun Q1 => ?_
        refine o_call hf Try.en_43 rfl rfl rfl (p83 d p q ws (some ⟨blk, off, none⟩) cap Bc B7 B6 B3 B10 B11 B27 x hO hx hwl hw16 (ws.length - (i + 1)) (i + 1) (cinc n a9) _ _ _ (hh.at (i := 1) rfl) hM2 (mkLe hh) (by omega) (by first | omega | (rw [cardsN_inc]; omega))) ?_; clear hf a; intro v a w hR hf
        obtain ⟨rfl, es2, cm2, hM2, hx3⟩ := hR; replace hh := hh.turn (i := 1) rfl hx3.ext (hx3.at (i := 0) rfl); clear hx3
        replace hh : Hp w9 [D, B7, B6, B5, B3] ([(b12, .cells (stC i n) 117), (B27, .map es2 cm2), (B11, .cells #[.func (.func 43) #[] #[ptr B7 0, ptr B6 0, ptr B3 0, ptr B10 0, ptr B11 0]] 113), (B10, .cells #[.map (some B27)] 112), (B7, .cells #[.slice (some ⟨blk, off, none⟩) ws.length cap] 106), (B6, .cells #[ptr Bc 0] 102), (B5, .cells #[.int .i64 0] 42), (B3, .cells #[.int .i64 (q : Nat)] 3), (D, .deferred (some []))] ++ X4) w := hh
        refine ops_end ?_
        refine then_n ⟨⟨fun _ _ => (clsP hh), trivial⟩, ?_⟩
        refine mc_e rfl fun Q1 => ?_
        refine o_call hf Try.en_43 rfl rfl rfl (p83 d p q ws (some ⟨blk, off, none⟩) cap Bc B7 B6 B3 B10 B11 B27 x hO hx hwl hw16 (ws.length - (i)) (i) (n) _ _ _ (hh.at (i := 1) rfl) hM2 (mkLe hh) (by omega) (by first | omega | (rw [cardsN_inc]; omega))) ?_; clear hf a; intro v a w hR hf
        obtain ⟨rfl, es2, cm2, hM2, hx3⟩ := hR; replace hh := hh.turn (i := 1) rfl hx3.ext (hx3.at (i := 0) rfl); clear hx3
        replace hh : Hp w9 [D, B7, B6, B5, B3] ([(b12, .cells (stC i n) 117), (B27, .map es2 cm2), (B11, .cells #[.func (.func 43) #[] #[ptr B7 0, ptr B6 0, ptr B3 0, ptr B10 0, ptr B11 0]] 113), (B10, .cells #[.map (some B27)] 112), (B7, .cells #[.slice (some ⟨blk, off, none⟩) ws.length cap] 106), (B6, .cells #[ptr Bc 0] 102), (B5, .cells #[.int .i64 0] 42), (B3, .cells #[.int .i64 (q : Nat)] 3), (D, .deferred (some []))] ++ X4) w := hh
        refine ops_end ?_
        refine then_n ⟨⟨fun _ _ => (clsP hh), trivial⟩, ?_⟩
        refine mc_p rfl   hf (yv_bin rfl rfl rfl) (gon rfl rfl rfl (by first | assumption | rfl | (simp; done) | (simp; omega))) rfl rfl ?_; clear hf a; intro a hf
        refine mc_p rfl   hf (y_pf rfl rfl) (.inl rfl) rfl rfl ?_; clear hf a; intro a hf
        refine mc_end ?_
        refine then_n ?_
        refine sy_cond hf rfl (fun hg17 => ?_) (fun hg17 => ?_)
        ·have hG17 := hg17; try simp only [gS] at hG17
         refine sy_skip ?_
         refine then_n ?_
         refine sy_block ?_
         refine sy_ops ?_
         refine o_v hf hh (yv_move rfl) ?_; clear hf a; intro a hf
         refine o_v hf hh (y_add rfl rfl) ?_; clear hf a; intro a hf
         refine o_v hf hh (yv_assign rfl) ?_; clear hf a; intro a hf
         refine ops_end ?_
         refine blk_n ?_
         refine then_n ?_
         have hbad : ¬ goodA d x ws i wn n a9 := fun h => by
           obtain ⟨h1, h2⟩ := h
           first
           | (rw [h1] at *; simp_all; done)
           | omega
           | simp_all
         have hal : a9 + 1 < d.terms.length := by
           obtain ⟨g, hg, hgg⟩ := hgex
           rcases (show g < a9 ∨ g = a9 ∨ a9 < g by omega) with h | h | h
           · exact absurd hgg (hno g h)
           · subst h; exact absurd hgg hbad
           · omega
         exact ⟨(a9 + 1, es2, cm2), ⟨⟨hal, fun g' h => by
           rcases (show g' < a9 ∨ g' = a9 by simp only at h; omega) with h | h
           · exact hno g' h
           · subst h; exact hbad, hM2, hh⟩, (hf.head (by repeat' (first | exact True.intro | refine And.intro rfl ?_)) (Keep.cons rfl (Keep.cons rfl (Keep.cons rfl (Keep.cons rfl (Keep.cons rfl (Keep.cons rfl (Keep.cons rfl (Keep.cons rfl (Keep.cons rfl (Keep.cons rfl (Keep.cons rfl (Keep.cons rfl (Keep.cons rfl (Keep.cons rfl (Keep.cons rfl (Keep.cons rfl (Keep.cons rfl (Keep.cons rfl (Keep.cons rfl (Keep.cons rfl (Keep.cons rfl (Keep.cons rfl (Keep.cons rfl (Keep.cons rfl (Keep.cons rfl (Keep.cons rfl (Keep.cons rfl (Keep.app rfl (Keep.rm rfl Keep.base))))))))))))))))))))))))))))))⟩, by simp only; omega⟩
        ·have hG17 := hg17; try simp only [gS] at hG17
         refine sy_exit ?_
         refine then_e ?_
         refine then_e ?_
         refine blk_e ?_
         refine then_n ?_
         have hgood : goodA d x ws i wn n a9 := ⟨by simp_all, by simp_all⟩
         have hpick := good_is hwn ha hgood hno
         have clsQ : ∀ {X w'}, Hp w9 [D, B7, B6, B5, B3] ([(b12, .cells (stC i n) 117), (B27, .map es2 cm2), (B11, .cells #[.func (.func 43) #[] #[ptr B7 0, ptr B6 0, ptr B3 0, ptr B10 0, ptr B11 0]] 113), (B10, .cells #[.map (some B27)] 112), (B7, .cells #[.slice (some ⟨blk, off, none⟩) ws.length cap] 106), (B6, .cells #[ptr Bc 0] 102), (B5, .cells #[.int .i64 0] 42), (B3, .cells #[.int .i64 (q : Nat)] 3), (D, .deferred (some []))] ++ X) w' → Hp w9 [D, B7, B6, B5, B3] [(b12, .cells (stC i n) 117), (B27, .map es2 cm2), (B11, .cells #[.func (.func 43) #[] #[ptr B7 0, ptr B6 0, ptr B3 0, ptr B10 0, ptr B11 0]] 113), (B10, .cells #[.map (some B27)] 112), (B7, .cells #[.slice (some ⟨blk, off, none⟩) ws.length cap] 106), (B6, .cells #[ptr Bc 0] 102), (B5, .cells #[.int .i64 0] 42), (B3, .cells #[.int .i64 (q : Nat)] 3), (D, .deferred (some []))] w' := fun h => h.less (List.sublist_append_left _ _)
         replace hh : Hp w9 [D, B7, B6, B5, B3] ([(b12, .cells (stC i n) 117), (B27, .map es2 cm2), (B11, .cells #[.func (.func 43) #[] #[ptr B7 0, ptr B6 0, ptr B3 0, ptr B10 0, ptr B11 0]] 113), (B10, .cells #[.map (some B27)] 112), (B7, .cells #[.slice (some ⟨blk, off, none⟩) ws.length cap] 106), (B6, .cells #[ptr Bc 0] 102), (B5, .cells #[.int .i64 0] 42), (B3, .cells #[.int .i64 (q : Nat)] 3), (D, .deferred (some []))] ++ X4) w := hh
         refine sy_treeC (.p 0 (.p 1 (.p 4 (.q 0 5 (.p 6 (.e1 2 (.e1 3 (.e1 7 (.p 8 (.p 9 (.e1 10 (.fin)))))))))))) [[10]] [(Hp w9 [D, B7, B6, B5, B3] [(b12, .cells (stC i n) 117), (B27, .map es2 cm2), (B11, .cells #[.func (.func 43) #[] #[ptr B7 0, ptr B6 0, ptr B3 0, ptr B10 0, ptr B11 0]] 113), (B10, .cells #[.map (some B27)] 112), (B7, .cells #[.slice (some ⟨blk, off, none⟩) ws.length cap] 106), (B6, .cells #[ptr Bc 0] 102), (B5, .cells #[.int .i64 0] 42), (B3, .cells #[.int .i64 (q : Nat)] 3), (D, .deferred (some []))], [10])] Try.follows (by kernel_rfl) rfl hh (fun w hh => ?_)
         refine mc_p rfl   hf (yv_move rfl) (.inl rfl) rfl rfl ?_; clear hf a; intro a hf
         refine mc_p rfl   hf (yv_move rfl) (.inl rfl) rfl rfl ?_; clear hf a; intro a hf
         refine mc_p rfl   hf (yv_fieldAddr Try.fo_117_1 rfl) (.inl rfl) rfl rfl ?_; clear hf a; intro a hf
         refine mc_q rfl rfl (by first | exact clsQ hh | exact clsQ (hh.less (.cons _ (.refl _)))) hf (y_lds Try.ag_115 rfl) (.inl rfl) rfl rfl ?_; clear hf a; intro a hf
         refine mc_p rfl   hf (yv_move rfl) (.inl rfl) rfl rfl ?_; clear hf a; intro a hf
         refine mc_e rfl fun Q1 => ?_
         refine ops_buildSl hf hh Try.bl_25_1 rfl rfl (.inl rfl) rfl ?_; clear hf hh; clear a; intro B67 a w hf hh
         refine ops_end ?_
         refine then_n ⟨⟨fun _ _ => (by first | exact clsQ hh | exact clsQ (hh.less (.cons _ (.refl _)))), trivial⟩, ?_⟩
         refine mc_e rfl fun Q1 => ?_
         refine ops_append (e := 3) (size := 1) (xs := nvs pre) (X := X4) (Z := _) (m := i) (q := 1) hf (hh.perm (.cons _ (List.perm_append_comm (l₁ := [_, _, _, _, _, _, _, _, _]) (l₂ := X4)))) Try.eb_25 rfl rfl hO4 rfl rfl rfl (by simp only [maxLen]; omega) (by omega) (.inl rfl) rfl ?_; clear hf hh a; intro v5 X5 a w hO5 hf hh
         replace hh := hh.perm List.perm_append_comm
         refine ops_end ?_
         refine then_n ⟨⟨fun _ _ => (by first | exact clsQ hh | exact clsQ (hh.less (.cons _ (.refl _)))), trivial⟩, ?_⟩
         refine mc_e rfl fun Q1 => ?_
         refine o_call hf Try.en_47 rfl rfl rfl (p85 n a9 (by omega) (by have := hcy a9; omega) _) ?_; clear hf a; intro v a w hR hf
         obtain ⟨rfl, hx⟩ := hR; replace hh := hh.more hx; clear hx
         refine ops_end ?_
         refine then_n ⟨⟨fun _ _ => (by first | exact clsQ hh | exact clsQ (hh.less (.cons _ (.refl _)))), trivial⟩, ?_⟩
         refine mc_p rfl   hf (yv_assign rfl) (.inl rfl) rfl rfl ?_; clear hf a; intro a hf
         refine mc_p rfl   hf (yv_fieldAddr Try.fo_117_1 rfl) (.inl rfl) rfl rfl ?_; clear hf a; intro a hf
         refine mc_e rfl fun Q1 => ?_
         refine o_store hf hh Try.sz_115 fun w hh => ?_
         refine ops_end ?_
         refine then_n ⟨⟨fun h => Bool.noConfusion (show true = false from h), trivial⟩, ?_⟩
         refine mc_end ?_
         refine blk_n ?_
         refine then_n ?_
         refine sy_seq ?_
         refine sy_sq ?_
         refine o_v hf hh (y_lds Try.ag_117 rfl) ?_; clear hf a; intro a hf
         refine o_end ?_
         refine sy_ops ?_
         refine o_alloc hf hh Try.ze_117 ?_; clear hf hh a; intro B12 a w hf hh
         refine o_store hf hh Try.sz_117 fun w hh => ?_
         refine o_end ?_
         refine sy_ops ?_
         refine o_v hf hh (yv_fieldAddr Try.fo_117_0 rfl) ?_; clear hf a; intro a hf
         refine o_v hf hh (y_ld Try.sc_3 rfl) ?_; clear hf a; intro a hf
         refine ops_v hf hh (yv_cast (yv_add rfl rfl (by omega) (by omega)) (intv (b := ((i + 1 : Nat) : Int)) (by omega))) (.inl rfl) rfl rfl rfl ?_; clear hf a; intro a hf
         refine o_v hf hh (yv_fieldAddr Try.fo_117_0 rfl) ?_; clear hf a; intro a hf
         refine o_store hf hh Try.sz_3 fun w hh => ?_
         refine ops_end ?_
         refine then_n ?_
         have hh9 : Hp w9 [D, B7, B6, B5, B3] ([(B12, .cells (stC (i + 1) (cinc n a9)) 117), (b12, .cells (stC i (cinc n a9)) 117), (B27, .map es2 cm2), (B11, .cells #[.func (.func 43) #[] #[ptr B7 0, ptr B6 0, ptr B3 0, ptr B10 0, ptr B11 0]] 113), (B10, .cells #[.map (some B27)] 112), (B7, .cells #[.slice (some ⟨blk, off, none⟩) ws.length cap] 106), (B6, .cells #[ptr Bc 0] 102), (B5, .cells #[.int .i64 0] 42), (B3, .cells #[.int .i64 (q : Nat)] 3), (D, .deferred (some []))] ++ X5) w := hh
         exact ⟨(i + 1, cinc n a9, B12, pre ++ [a9], v5, X5, es2, cm2), ⟨⟨by simp only; omega, by simp only; rw [cardsN_inc]; omega, hTl.next hwn hpick, by simp only; rw [nvs_app]; exact hO5, hM2, hh9.pickX [0, 2, 3, 4, 5, 6, 7, 8, 9]⟩, (hf.head (by repeat' (first | exact True.intro | refine And.intro rfl ?_)) (Keep.cons rfl (Keep.cons rfl (Keep.cons rfl (Keep.cons rfl (Keep.cons rfl (Keep.cons rfl (Keep.cons rfl (Keep.cons rfl (Keep.cons rfl (Keep.cons rfl (Keep.cons rfl (Keep.cons rfl (Keep.cons rfl (Keep.cons rfl (Keep.cons rfl (Keep.cons rfl (Keep.cons rfl (Keep.cons rfl (Keep.cons rfl (Keep.cons rfl (Keep.cons rfl (Keep.cons rfl (Keep.cons rfl (Keep.cons rfl (Keep.cons rfl (Keep.cons rfl (Keep.cons rfl (Keep.cons rfl (Keep.cons rfl (Keep.cons rfl (Keep.cons rfl (Keep.cons rfl (Keep.cons rfl (Keep.cons rfl (Keep.cons rfl (Keep.cons rfl (Keep.cons rfl (Keep.cons rfl (Keep.cons rfl (Keep.cons rfl (Keep.app rfl (Keep.rm rfl (Keep.cons rfl (Keep.cons rfl (Keep.cons rfl (Keep.cons rfl (Keep.cons rfl (Keep.cons rfl (Keep.app rfl (Keep.rm rfl Keep.base)))))))))))))))))))))))))))))))))))))))))))))))))))⟩, by simp only; omega⟩
     ·have hG8 := hg8; try simp only [gS] at hG8
      refine sy_exit ?_
      refine then_e ?_
      refine then_e ?_
      refine blk_e ?_
      refine then_n ?_
      refine sy_sq ?_
      refine o_v hf hh (yv_move rfl) ?_; clear hf a; intro a hf
      refine o_v hf hh (yv_assign rfl) ?_; clear hf a; intro a hf
      refine o_store hf hh Try.sz_42 fun w hh => ?_
      refine o_end ?_
      refine sy_ret ?_
      have hdone := hTl.done (show i = ws.length by omega)
      have ev : leaV d q = pre := by unfold leaV; rw [if_pos e0, ep, ← hws, hdone]
      rw [e0, ev, hTl.1]
      replace hh : Hp w9 [D, B7, B6, B5, B3] ((D, .deferred (some [])) :: (B5, .cells #[.int .i64 0] 42) :: X4) w := hh.pickX (F := [(b12, .cells (stC i n) 117), (B27, .map es cm), (B11, .cells #[.func (.func 43) #[] #[ptr B7 0, ptr B6 0, ptr B3 0, ptr B10 0, ptr B11 0]] 113), (B10, .cells #[.map (some B27)] 112), (B7, .cells #[.slice sa ws.length cap] 106), (B6, .cells #[ptr Bc 0] 102), (B5, .cells #[.int .i64 0] 42), (B3, .cells #[.int .i64 (q : Nat)] 3), (D, .deferred (some []))]) [8, 6]
      exact ret_d (Ds := [D]) hf hh Try.en_37 (fun w' => d80r B5 w') fun w' hh => ⟨[v4, .int .i64 0], ⟨rfl, ⟨B5, 0, _, _, _, rfl, hh.at (i := 0) rfl, .inl ⟨Try.sc_42, rfl⟩⟩, True.intro⟩, v4, X4, rfl, hO4, (hh0.comp hh).less (.cons _ (List.Sublist.refl _))⟩
   ·rintro k c D H N2 a w hX hOw hf hh
    exact hX.elim
   · rintro N v v' b ⟨h, h'⟩ hb e; exact ⟨h.step (e.mono (by simpa using hb)) (.refl _ _), h'.step (e.mono (by simpa using hb)) (.refl _ _)⟩
  ·intro ch w hX hf
   obtain ⟨rfl, he, hx⟩ := hX; replace hh := hh.more hx; clear hx
   refine then_p ?_
   have ev : leaV d g = [] := by unfold leaV; exact if_neg he
   rw [ev]
   exact pan_d (Ds := []) hf hh Try.en_37 (fun w' hh => d80p B5 _ 0 w' (hh.at (i := 0) rfl)) fun w' w'' hh h2 => ⟨[.slice none 0 0, .int .i64 (allE d g)], ⟨rfl, ⟨B5, 0, _, _, _, rfl, h2.at (i := 0) rfl, .inl ⟨Try.sc_42, rfl⟩⟩, True.intro⟩, _, [], rfl, OwnSl.nil _ _, (hh.turn (i := 0) rfl h2.ext (h2.at (i := 0) rfl)).less (List.nil_sublist _)⟩
end Go.Proofs.Ytccpgpnekoncoaa
namespace Go.RoyM
open Go Go.Sy
abbrev spN (s : Int × Int) : List Value := [.int .i64 s.1, .int .i64 s.2]
/-- A deal: a forme is printed (so many times; its slots lie there), or cards are sold. -/
inductive DlD where
  | pr (t : Int) (sa : Option Addr) (ca : Nat)
  | se (m x : Int)
def dlC : DlD → List Value
  | .pr t sa ca => [.int .i64 1, .slice sa 1 ca, .int .i64 t, .int .i64 0, .int .i64 0, .int .i64 0]
  | .se m x => [.int .i64 2, .slice none 0 0, .int .i64 0, .int .i64 0, .int .i64 m, .int .i64 x]
def DlOk (w : World) : DlD → Prop
  | .pr t sa _ => IAt w sa [1] ∧ 1 ≤ t ∧ t ≤ 1048576
  | .se m x => 1 ≤ m ∧ m ≤ 1048576 ∧ 0 ≤ x ∧ x ≤ 1099511627776
theorem DlOk.ext {w w' : World} : ∀ {d : DlD}, DlOk w d → Ext [] w w' → DlOk w' d
  | .pr _ _ _, h, e => ⟨h.1.ext e, h.2⟩
  | .se _ _, h, _ => h
abbrev prC (pp : Int) (sw : Option Addr) (cw : Nat) (sd : Option Addr) (nd cd : Nat) : Array Value := #[.int .i64 1, .int .i64 1, .int .i64 0, .int .i64 0, .int .i64 0, .int .i64 0, .slice sw 1 cw, .int .i64 pp, .int .i64 0, .slice sd nd cd]
structure PrAt (w : World) (pp wn : Int) (sw sd : Option Addr) (dl : List DlD) : Prop where
  w1 : IAt w sw [wn]
  ds : TAt 6 dlC w sd dl
  ok : ∀ d ∈ dl, DlOk w d
  p0 : 0 ≤ pp
  p1 : pp ≤ 1099511627776
  b0 : 0 ≤ wn
  b1 : wn ≤ 60
  n : dl.length ≤ 20
theorem PrAt.ext {w w' : World} {pp wn : Int} {sw sd : Option Addr} {dl : List DlD} (h : PrAt w pp wn sw sd dl) (e : Ext [] w w') : PrAt w' pp wn sw sd dl :=
  ⟨h.w1.ext e, h.ds.ext e, fun d hd => (h.ok d hd).ext e, h.p0, h.p1, h.b0, h.b1, h.n⟩
/-- Sheets, pence, and cards of the view. -/
structure ShD where
  (p m lo hi : Int)
def stD (s : ShD) : DlD → Option ShD
  | .pr t _ _ => if 0 ≤ s.m ∧ t ≤ s.p then some ⟨s.p - t, s.m, s.lo + t, s.hi + t⟩ else none
  | .se m x => if m ≤ s.lo then some ⟨s.p, s.m + x, s.lo - m, s.hi - m⟩ else none
def aftD (s : ShD) : List DlD → Option ShD
  | [] => some s
  | d :: l => match stD s d with
    | none => none
    | some s' => aftD s' l
theorem aft_drop {s : ShD} {l : List DlD} {i : Nat} {d : DlD} (h : l[i]? = some d) : aftD s (l.drop i) = match stD s d with | none => none | some s' => aftD s' (l.drop (i + 1)) := by
  obtain ⟨hi, e⟩ := List.getElem?_eq_some_iff.1 h
  rw [List.drop_eq_getElem_cons hi, e]; rfl
structure ShB (s : ShD) (i : Nat) : Prop where
  p0 : -((i : Int) + 1) * 1099511627776 ≤ s.p
  p1 : s.p ≤ ((i : Int) + 1) * 1099511627776
  m0 : -((i : Int) + 1) * 1099511627776 ≤ s.m
  m1 : s.m ≤ ((i : Int) + 1) * 1099511627776
  l0 : -((i : Int) + 1) * 1099511627776 ≤ s.lo
  l1 : s.lo ≤ ((i : Int) + 1) * 1099511627776
  h0 : -((i : Int) + 1) * 1099511627776 ≤ s.hi
  h1 : s.hi ≤ ((i : Int) + 1) * 1099511627776
theorem ShB.step {w : World} {s s' : ShD} {d : DlD} {i : Nat} (h : ShB s i) (hd : DlOk w d) (hs : stD s d = some s') : ShB s' (i + 1) := by
  obtain ⟨a1, a2, a3, a4, a5, a6, a7, a8⟩ := h
  cases d with
  | pr t sa ca =>
    obtain ⟨_, b1, b2⟩ := hd
    replace hs : (if 0 ≤ s.m ∧ t ≤ s.p then some (⟨s.p - t, s.m, s.lo + t, s.hi + t⟩ : ShD) else none) = some s' := hs
    split at hs
    · injection hs with hs
      subst hs
      exact ⟨by show _ ≤ s.p - t; push_cast; omega, by show s.p - t ≤ _; push_cast; omega, by show _ ≤ s.m; push_cast; omega, by show s.m ≤ _; push_cast; omega, by show _ ≤ s.lo + t; push_cast; omega, by show s.lo + t ≤ _; push_cast; omega, by show _ ≤ s.hi + t; push_cast; omega, by show s.hi + t ≤ _; push_cast; omega⟩
    · cases hs
  | se m x =>
    obtain ⟨b1, b2, b3, b4⟩ := hd
    replace hs : (if m ≤ s.lo then some (⟨s.p, s.m + x, s.lo - m, s.hi - m⟩ : ShD) else none) = some s' := hs
    split at hs
    · injection hs with hs
      subst hs
      exact ⟨by show _ ≤ s.p; push_cast; omega, by show s.p ≤ _; push_cast; omega, by show _ ≤ s.m + x; push_cast; omega, by show s.m + x ≤ _; push_cast; omega, by show _ ≤ s.lo - m; push_cast; omega, by show s.lo - m ≤ _; push_cast; omega, by show _ ≤ s.hi - m; push_cast; omega, by show s.hi - m ≤ _; push_cast; omega⟩
    · cases hs
theorem iat_cells {w : World} {B : Nat} {T : TypeId} {fr : Nat × Nat} {l : List Int} (h : w.heap[B]? = some (.cells (l.map (Value.int .i64)).toArray T fr)) : IAt w (some ⟨B, 0, none⟩) l := fun i x hi => by
  refine ⟨B, 0, _, T, fr, rfl, h, ?_⟩
  rw [Int.toNat_natCast, Nat.zero_add, Nat.mul_one, List.getElem?_toArray, List.getElem?_map, hi]; rfl
/-- The cards of the view, ahead of its round and behind it. -/
def cdA (s : ShD) (t : Int) : Nat → Array Value
  | 0 => #[.int .i64 s.lo, .int .i64 s.hi]
  | _ + 1 => #[.int .i64 (s.lo + t), .int .i64 (s.hi + t)]
theorem stD_pr {s : ShD} {t : Int} {sa : Option Addr} {ca : Nat} (h : 0 ≤ s.m ∧ t ≤ s.p) : stD s (.pr t sa ca) = some ⟨s.p - t, s.m, s.lo + t, s.hi + t⟩ := if_pos h
theorem stD_prn {s : ShD} {t : Int} {sa : Option Addr} {ca : Nat} (h : ¬ (0 ≤ s.m ∧ t ≤ s.p)) : stD s (.pr t sa ca) = none := if_neg h
theorem stD_se {s : ShD} {m x : Int} (h : m ≤ s.lo) : stD s (.se m x) = some ⟨s.p, s.m + x, s.lo - m, s.hi - m⟩ := if_pos h
theorem stD_sen {s : ShD} {m x : Int} (h : ¬ m ≤ s.lo) : stD s (.se m x) = none := if_neg h
theorem hp_init2 {w : World} {b1 b2 : Nat} {o1 o2 : Obj} (h1 : w.heap[b1]? = some o1) (h2 : w.heap[b2]? = some o2) (hn : b1 ≠ b2) : Hp w [b1, b2] [(b1, o1), (b2, o2)] w := by
  refine ⟨.refl _ _, fun p hp => ?_, ?_, fun p hp => ?_⟩
  · rcases List.mem_cons.1 hp with rfl | hp
    · exact h1
    · rw [List.mem_singleton.1 hp]; exact h2
  · simp [hn]
  · right
    rcases List.mem_cons.1 hp with rfl | hp
    · exact .head _
    · rw [List.mem_singleton.1 hp]; exact .tail _ (.head _)
theorem hp_ne {u w : World} {M : List Nat} {H : List (Nat × Obj)} (h : Hp u M H w) {i j b b' : Nat} {o o' : Obj} (hi : H[i]? = some (b, o)) (hj : H[j]? = some (b', o')) (hn : i ≠ j) : b ≠ b' := fun e => by
  subst e
  exact hn (nodup_fst_idx h.nodup hi hj)
theorem hp_new {u w : World} {H : List (Nat × Obj)} (h : Hp u [] H w) {i b b' : Nat} {o o' : Obj} (hi : H[i]? = some (b, o)) (hb : u.heap[b']? = some o') : b' ≠ b := fun e => by
  have h1 := (Array.getElem?_eq_some_iff.1 hb).1
  rcases h.mine (b, o) (List.mem_of_getElem? hi) with h2 | h2
  · have h3 : u.heap.size ≤ b := h2
    omega
  · cases h2
theorem iat_M {u w : World} {M : List Nat} {sa : Option Addr} {l : List Int} (h : IAt u sa l) (e : Ext M u w) (hn : ∀ blk off, sa = some ⟨blk, off, none⟩ → blk ∉ M) : IAt w sa l := fun i s hi =>
  let ⟨blk, off, c, T, fr, h1, h2, h3⟩ := h i s hi
  ⟨blk, off, c, T, fr, h1, e.getM h2 (hn blk off h1), h3⟩
theorem dl6 : ∀ d : DlD, ∃ a b c e f g : Value, dlC d = [a, b, c, e, f, g] ∧ ([a, b, c, e, f, g] : List Value).all (·.oneCell') = true
  | .pr _ _ _ => ⟨_, _, _, _, _, _, rfl, rfl⟩
  | .se _ _ => ⟨_, _, _, _, _, _, rfl, rfl⟩
/-- What is told after some deals. -/
def AftF (X : List (Nat × Obj)) (o : Option ShD) (p m : Int) (so : Option Addr) (n : Nat) (co : Nat) (e : Int) : Prop := match o with
  | some s => p = s.p ∧ m = s.m ∧ n = 1 ∧ e = 0 ∧ ∀ w2 : World, (∀ q ∈ X, w2.heap[q.1]? = some q.2) → TAt 2 spN w2 so [(s.lo, s.hi)]
  | none => p = 0 ∧ m = 0 ∧ so = none ∧ n = 0 ∧ co = 0 ∧ e = 10
theorem tat_take {α : Type} {n : Nat} {enc : α → List Value} {w : World} {sa : Option Addr} {l : List α} (h : TAt n enc w sa l) (k : Nat) : TAt n enc w sa (l.take k) := fun i s hi => by
  rw [List.getElem?_take] at hi
  split at hi
  · exact h i s hi
  · cases hi
theorem shB0 {p : Int} (h0 : 0 ≤ p) (h1 : p ≤ 1099511627776) : ShB ⟨p, 0, 0, 0⟩ 0 :=
  ⟨by show _ ≤ p; omega, by show p ≤ _; omega, by show _ ≤ (0 : Int); omega, by show (0 : Int) ≤ _; omega, by show _ ≤ (0 : Int); omega, by show (0 : Int) ≤ _; omega, by show _ ≤ (0 : Int); omega, by show (0 : Int) ≤ _; omega⟩
end Go.RoyM
