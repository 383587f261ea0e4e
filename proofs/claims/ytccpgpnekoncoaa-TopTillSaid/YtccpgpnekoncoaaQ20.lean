/- Lemmas, in order: The store: a deal is done. The store: deals, one after the other. The store: On. Lists that are written out, in memory; the values of the examples. What the law of pence asks. Pence as the document shares them, in memory. What the document's functions on royalties compute. Lists of agents in memory; the document's claims. Sums of what is owed; royalties that are not great. All truths, as the document goes through them. Lists of truths in memory; the best of them. Truths that are made; the order of truths. Royalties where no card is told twice. A report more, of cards that are claimed already. Whoever truly sold the cards. Agents numbered otherwise, reports told in another order. The store: Gives; small functions of the law. The document's examples. RoyalNames; the document's shares and terms. The law's own example. TopTill's law in plain numbers: two agents, one view, all cards sold. TopTill: what is told of its press; sums of commissions, agent by agent.. -/
import Derived.Test.YtccpgpnekoncoaaQ19
namespace Go.Proofs.Ytccpgpnekoncoaa
open Go Go.Sy Go.RoyM
theorem mk2 : madeCells (Value.agg #[.int .i64 0, .int .i64 0]).cells (1 * 2) = #[.int .i64 0, .int .i64 0] := by kernel_rfl
theorem tat_one {w : World} {B : Nat} {T : TypeId} {lo hi : Int} (h : w.heap[B]? = some (.cells #[.int .i64 lo, .int .i64 hi] T (0, 0))) : TAt 2 spN w (some ⟨B, 0, none⟩) [(lo, hi)] := fun i s hi2 => by
  match i, hi2 with
  | 0, hi2 => cases hi2; exact ⟨B, 0, _, T, _, rfl, h, rfl⟩
  | i + 1, hi2 => simp at hi2
theorem tat_off {w : World} {so : Option Addr} {lo hi : Int} (h : TAt 2 spN w so [(lo, hi)]) : ∃ b o c T fr, so = some ⟨b, o, none⟩ ∧ w.heap[b]? = some (.cells c T fr) ∧ cellsAt c o (1 * 2) = some [.int .i64 lo, .int .i64 hi] := by
  obtain ⟨b, o, c, T, fr, h1, h2, h3⟩ := h 0 _ rfl
  exact ⟨b, o, c, T, fr, h1, h2, h3⟩
theorem perm6 {α : Type} (a b c d e f : α) : [a, b, c, d, e, f].Perm ([d, b] ++ [a, c, e, f]) := by
  refine .trans (.cons a (.cons b (.swap d c _))) ?_
  refine .trans (.cons a (.swap d b _)) ?_
  refine .trans (.swap d a _) ?_
  exact .cons d (.swap b a _)
set_option maxRecDepth 100000 in
set_option maxHeartbeats 4000000 in
theorem s89p (pp : Int) (sw sd : Option Addr) (cw nd cd Bv : Nat) (t : Int) (sa : Option Addr) (ca : Nat) (k : Nat) (s : ShD) (so0 : Option Addr) (co : Nat) (u : World) (hBv : u.heap[Bv]? = some (.cells (prC pp sw cw sd nd cd) 97 (0, 0))) (hS : TAt 2 spN u so0 [(s.lo, s.hi)]) (hB : ShB s k) (hk : k ≤ 30) (hA : IAt u sa [1]) (ht : 1 ≤ t ∧ t ≤ 1048576) : Calls Try.prog 89 #[ptr Bv 0, .agg #[.int .i64 s.p, .int .i64 s.m, .slice so0 1 co], .agg (dlC (.pr t sa ca)).toArray] u (Ret fun v w' => (∃ (s' : ShD) (B : Nat) (e : Int), v = .tuple #[.agg #[.int .i64 s'.p, .int .i64 s'.m, .slice (some ⟨B, 0, none⟩) 1 1], .int .i64 e] ∧ ((stD s (.pr t sa ca) = some s' ∧ e = 0) ∨ (stD s (.pr t sa ca) = none ∧ e = 10)) ∧ Hp u [] [(B, .cells #[.int .i64 s'.lo, .int .i64 s'.hi] 36)] w')) := by
  refine calls_ofM Try.func89 rfl rfl (fun a hf => ?_)
  have hh := Hp.init u []
  obtain ⟨sb, so, cS, TS, frS, eso, hsb, hcS⟩ := tat_off hS
  subst eso
  refine sy_sq ?_
  refine o_box hf hh ?_; clear hf hh a; intro B4 a w hf hh
  refine o_box hf hh ?_; clear hf hh a; intro B5 a w hf hh
  refine o_alloc hf hh Try.ze_41 ?_; clear hf hh a; intro B6 a w hf hh
  refine o_alloc hf hh Try.ze_42 ?_; clear hf hh a; intro B7 a w hf hh
  refine o_end ?_
  refine sy_sq ?_
  refine o_defer hf ?_; clear hf a; intro a hf
  refine o_end ?_
  refine sy_seq ?_
  replace hh : Hp u [] [(B7, .cells #[.int .i64 0] 42), (B6, .cells #[.int .i64 0, .int .i64 0, .slice none 0 0] 41), (B5, .cells #[.int .i64 1, .slice sa 1 ca, .int .i64 t, .int .i64 0, .int .i64 0, .int .i64 0] 32), (B4, .cells #[.int .i64 s.p, .int .i64 s.m, .slice (some ⟨sb, so, none⟩) 1 co] 41)] w := hh
  refine sy_ops ?_
  refine o_v hf hh (y_lds Try.ag_41 rfl) ?_; clear hf a; intro a hf
  refine o_store hf hh Try.sz_41 fun w hh => ?_
  refine o_end ?_
  refine sy_sq ?_
  refine o_v hf hh (yv_fieldAddr Try.fo_41_2 rfl) ?_; clear hf a; intro a hf
  refine o_v hf hh (y_ld Try.sc_39 rfl) ?_; clear hf a; intro a hf
  refine o_v hf hh (yv_len Try.se_39 rfl) ?_; clear hf a; intro a hf
  refine ops_make (q := 1) hf hh Try.eb_39 rfl rfl (by omega) (by omega) (.inl rfl) rfl ?_; clear hf hh a; intro B12 a w hf hh
  refine o_v hf hh (yv_fieldAddr Try.fo_41_2 rfl) ?_; clear hf a; intro a hf
  refine o_store hf hh Try.sz_39 fun w hh => ?_
  refine o_end ?_
  refine sy_seq ?_
  rw [mk2] at hh
  replace hh : Hp u [] [(B12, .cells #[.int .i64 (0), .int .i64 (0)] 36), (B7, .cells #[.int .i64 0] 42), (B6, .cells #[.int .i64 (s.p), .int .i64 (s.m), .slice (some ⟨B12, 0, none⟩) 1 1] 41), (B5, .cells #[.int .i64 1, .slice sa 1 ca, .int .i64 t, .int .i64 0, .int .i64 0, .int .i64 0] 32), (B4, .cells #[.int .i64 s.p, .int .i64 s.m, .slice (some ⟨sb, so, none⟩) 1 co] 41)] w := hh
  refine sy_ops ?_
  refine o_v hf hh (yv_fieldAddr Try.fo_41_2 rfl) ?_; clear hf a; intro a hf
  refine o_v hf hh (y_ld Try.sc_39 rfl) ?_; clear hf a; intro a hf
  refine o_v hf hh (yv_fieldAddr Try.fo_41_2 rfl) ?_; clear hf a; intro a hf
  refine o_v hf hh (y_ld Try.sc_39 rfl) ?_; clear hf a; intro a hf
  refine ops_copy (i := 0) (q := 1) hf hh Try.se_39 rfl rfl rfl (hh.old hsb) hcS rfl (by decide) (.inl rfl) rfl ?_; clear hf a; intro a w hf hh
  refine o_end ?_
  refine sy_seq ?_
  replace hh : Hp u [] [(B12, .cells #[.int .i64 (s.lo), .int .i64 (s.hi)] 36), (B7, .cells #[.int .i64 0] 42), (B6, .cells #[.int .i64 (s.p), .int .i64 (s.m), .slice (some ⟨B12, 0, none⟩) 1 1] 41), (B5, .cells #[.int .i64 1, .slice sa 1 ca, .int .i64 t, .int .i64 0, .int .i64 0, .int .i64 0] 32), (B4, .cells #[.int .i64 s.p, .int .i64 s.m, .slice (some ⟨sb, so, none⟩) 1 co] 41)] w := hh
  refine sy_treeX (.p 1 (.q 0 2 (.p 5 (.q 0 6 (.e1 0 (.e1 3 (.p 4 (.e1 7 (.fin))))))))) [[]] [(AtE u [] [(B5, .cells #[.int .i64 1, .slice sa 1 ca, .int .i64 t, .int .i64 0, .int .i64 0, .int .i64 0] 32)], [])] (fun ch w => ¬ (0 ≤ s.m ∧ t ≤ s.p) ∧ ch = misS 10 ∧ Hp u [] [(B6, .cells #[.int .i64 (s.p), .int .i64 (s.m), .slice (some ⟨B12, 0, none⟩) 1 1] 41), (B12, .cells #[.int .i64 (s.lo), .int .i64 (s.hi)] 36), (B7, .cells #[.int .i64 0] 42)] w) ([(6, ptr B6 0), (7, ptr B7 0)]) Try.follows (by kernel_rfl) rfl hf (by repeat' (first | exact True.intro | refine And.intro rfl ?_)) (by rfl) hh ?_ (fun w hh => ?_)
  ·intro ch a w hX hf
   obtain ⟨hnn, rfl, hh⟩ := hX
   refine then_p ?_
   exact pan_da (Ds := []) hf hh Try.en_31 (fun w' hh => d31p B7 10 0 w' (hh.at (i := 2) rfl)) fun w' w'' hh h2 => by
     replace hh := hh.turn (i := 2) rfl h2.ext (h2.at (i := 0) rfl)
     exact ⟨[.agg #[.int .i64 s.p, .int .i64 s.m, .slice (some ⟨B12, 0, none⟩) 1 1], .int .i64 10], ⟨⟨B6, 0, _, _, _, rfl, hh.at (i := 0) rfl, .inr ⟨3, _, Try.ag_41, rfl, rfl⟩⟩, ⟨B7, 0, _, _, _, rfl, hh.at (i := 2) rfl, .inl ⟨Try.sc_42, rfl⟩⟩, True.intro⟩, ⟨s, B12, 10, rfl, .inr ⟨stD_prn hnn, rfl⟩, hh.less (.cons _ (.cons_cons _ (List.nil_sublist _)))⟩⟩
  refine mz_p rfl   hf (yv_fieldAddr Try.fo_32_0 rfl) (.inl rfl) rfl rfl ?_; clear hf a; intro a hf
  refine mz_q rfl rfl (AtE.of hh (by intro p hp; rw [List.mem_singleton.1 hp]; simp)) hf (y_ld Try.sc_3 rfl) (.inl rfl) rfl rfl ?_; clear hf a; intro a hf
  refine mz_p rfl   hf (yv_move rfl) (.inl rfl) rfl rfl ?_; clear hf a; intro a hf
  refine mz_q rfl rfl (AtE.of hh (by intro p hp; rw [List.mem_singleton.1 hp]; simp)) hf (y_lds Try.ag_32 rfl) (.inl rfl) rfl rfl ?_; clear hf a; intro a hf
  refine mz_e rfl ?_
  refine o_call hf Try.en_123 rfl rfl rfl (s123 _) ?_; clear hf a; intro v a w hR hf
  obtain ⟨Bm, es, c, rfl, hM, hx⟩ := hR; replace hh := hh.join hx; clear hx
  refine ops_end ?_
  refine qx_n ⟨hf.sub (by repeat' (first | exact True.intro | refine And.intro rfl ?_)), ⟨fun _ _ => (AtE.of hh (by intro p hp; rw [List.mem_singleton.1 hp]; simp)), trivial⟩, ?_⟩
  refine mz_e rfl ?_
  refine o_v hf hh (yv_cast (yv_getI Try.mt_217 Try.ze_222 rfl rfl (fun _ h => h.at (i := 0) rfl) hM) (show _ = Value.agg #[.func (.func 154) #[] #[], .func (.func 155) #[] #[]] from rfl)) ?_; clear hf a; intro a hf
  refine ops_end ?_
  refine qx_n ⟨hf.sub (by repeat' (first | exact True.intro | refine And.intro rfl ?_)), ⟨fun _ _ => (AtE.of hh (by intro p hp; rw [List.mem_singleton.1 hp]; simp)), trivial⟩, ?_⟩
  refine mz_p rfl   hf (yv_fieldS Try.fs_222_1 rfl rfl) (.inl rfl) rfl rfl ?_; clear hf a; intro a hf
  refine mz_e rfl ?_
  refine o_callX hf Try.en_155 rfl rfl rfl (s155 pp sw sd cw nd cd Bv t sa ca B6 B12 k s _ (hh.old hBv) (hh.at (i := 3) rfl) (hh.at (i := 1) rfl) (hp_ne hh (i := 3) (j := 1) rfl rfl (by decide)) (hp_new hh (i := 3) rfl hBv) (hp_new hh (i := 1) rfl hBv) hB hk (hA.ext hh.ext) ht (fun blk off e => by
    obtain ⟨b2, o2, _, _, _, e2, h2, _⟩ := hA 0 1 rfl
    rw [e] at e2
    cases e2
    simp only [List.mem_cons, List.not_mem_nil, or_false, not_or]
    exact ⟨hp_new hh (i := 3) rfl h2, hp_new hh (i := 1) rfl h2⟩)) ?_ ?_
  ·clear hf a; intro v a w hR hf
   obtain ⟨hok, hx⟩ := hR
   replace hh : Hp u [] ([(B6, .cells #[.int .i64 (s.p - t), .int .i64 (s.m), .slice (some ⟨B12, 0, none⟩) 1 1] 41), (B12, .cells #[.int .i64 (s.lo + t), .int .i64 (s.hi + t)] 36)] ++ [(Bm, .map es c), (B7, .cells #[.int .i64 0] 42), (B5, .cells #[.int .i64 1, .slice sa 1 ca, .int .i64 t, .int .i64 0, .int .i64 0, .int .i64 0] 32), (B4, .cells #[.int .i64 s.p, .int .i64 s.m, .slice (some ⟨sb, so, none⟩) 1 co] 41)]) w := hh.swap' (X := [(B6, Obj.cells #[.int .i64 (s.p), .int .i64 (s.m), .slice (some ⟨B12, 0, none⟩) 1 1] 41), (B12, Obj.cells #[.int .i64 (s.lo), .int .i64 (s.hi)] 36)]) (Z := [(Bm, Obj.map es c), (B7, Obj.cells #[.int .i64 0] 42), (B5, Obj.cells #[.int .i64 1, .slice sa 1 ca, .int .i64 t, .int .i64 0, .int .i64 0, .int .i64 0] 32), (B4, Obj.cells #[.int .i64 s.p, .int .i64 s.m, .slice (some ⟨sb, so, none⟩) 1 co] 41)]) (perm6 _ _ _ _ _ _) hx; clear hx
   refine ops_end ?_
   refine qx_n ⟨hf.sub (by repeat' (first | exact True.intro | refine And.intro rfl ?_)), ⟨fun _ _ => (AtE.of hh (by intro p hp; rw [List.mem_singleton.1 hp]; simp)), trivial⟩, ?_⟩
   refine mz_end ?_
   refine then_n ?_
   refine sy_sq ?_
   refine o_v hf hh (y_lds Try.ag_41 rfl) ?_; clear hf a; intro a hf
   refine o_store hf hh Try.sz_41 fun w hh => ?_
   refine o_store hf hh Try.sz_42 fun w hh => ?_
   refine o_end ?_
   refine sy_ret ?_
   replace hh : Hp u [] [(B6, .cells #[.int .i64 (s.p - t), .int .i64 (s.m), .slice (some ⟨B12, 0, none⟩) 1 1] 41), (B12, .cells #[.int .i64 (s.lo + t), .int .i64 (s.hi + t)] 36), (Bm, .map es c), (B7, .cells #[.int .i64 0] 42), (B5, .cells #[.int .i64 1, .slice sa 1 ca, .int .i64 t, .int .i64 0, .int .i64 0, .int .i64 0] 32), (B4, .cells #[.int .i64 s.p, .int .i64 s.m, .slice (some ⟨sb, so, none⟩) 1 co] 41)] w := hh
   exact ret_dan (Ds := []) hf hh Try.en_31 (fun w' => d31r B7 w') fun w' hh => ⟨[.agg #[.int .i64 (s.p - t), .int .i64 (s.m), .slice (some ⟨B12, 0, none⟩) 1 1], .int .i64 0], ⟨⟨B6, 0, _, _, _, rfl, hh.at (i := 0) rfl, .inr ⟨3, _, Try.ag_41, rfl, rfl⟩⟩, ⟨B7, 0, _, _, _, rfl, hh.at (i := 3) rfl, .inl ⟨Try.sc_42, rfl⟩⟩, True.intro⟩, ⟨⟨s.p - t, s.m, s.lo + t, s.hi + t⟩, B12, 0, rfl, .inl ⟨stD_pr hok, rfl⟩, hh.less (.cons _ (.cons_cons _ (List.nil_sublist _)))⟩⟩
  ·intro ch w hX hf
   obtain ⟨hnn, rfl, hx⟩ := hX
   replace hh : Hp u [] ([(B6, .cells #[.int .i64 (s.p), .int .i64 (s.m), .slice (some ⟨B12, 0, none⟩) 1 1] 41), (B12, .cells #[.int .i64 (s.lo), .int .i64 (s.hi)] 36)] ++ [(Bm, .map es c), (B7, .cells #[.int .i64 0] 42), (B5, .cells #[.int .i64 1, .slice sa 1 ca, .int .i64 t, .int .i64 0, .int .i64 0, .int .i64 0] 32), (B4, .cells #[.int .i64 s.p, .int .i64 s.m, .slice (some ⟨sb, so, none⟩) 1 co] 41)]) w := hh.swap' (X := [(B6, Obj.cells #[.int .i64 (s.p), .int .i64 (s.m), .slice (some ⟨B12, 0, none⟩) 1 1] 41), (B12, Obj.cells #[.int .i64 (s.lo), .int .i64 (s.hi)] 36)]) (Z := [(Bm, Obj.map es c), (B7, Obj.cells #[.int .i64 0] 42), (B5, Obj.cells #[.int .i64 1, .slice sa 1 ca, .int .i64 t, .int .i64 0, .int .i64 0, .int .i64 0] 32), (B4, Obj.cells #[.int .i64 s.p, .int .i64 s.m, .slice (some ⟨sb, so, none⟩) 1 co] 41)]) (perm6 _ _ _ _ _ _) hx; clear hx
   exact qx_p ⟨hnn, rfl, hh.less (.cons_cons _ (.cons_cons _ (.cons _ (.cons_cons _ (List.nil_sublist _)))))⟩
set_option maxRecDepth 100000 in
set_option maxHeartbeats 4000000 in
theorem s89s (pp : Int) (sw sd : Option Addr) (cw nd cd Bv : Nat) (m x : Int) (k : Nat) (s : ShD) (so0 : Option Addr) (co : Nat) (u : World) (hBv : u.heap[Bv]? = some (.cells (prC pp sw cw sd nd cd) 97 (0, 0))) (hS : TAt 2 spN u so0 [(s.lo, s.hi)]) (hB : ShB s k) (hk : k ≤ 30) (hm : 1 ≤ m ∧ m ≤ 1048576) (hx9 : 0 ≤ x ∧ x ≤ 1099511627776) : Calls Try.prog 89 #[ptr Bv 0, .agg #[.int .i64 s.p, .int .i64 s.m, .slice so0 1 co], .agg (dlC (.se m x)).toArray] u (Ret fun v w' => (∃ (s' : ShD) (B : Nat) (e : Int), v = .tuple #[.agg #[.int .i64 s'.p, .int .i64 s'.m, .slice (some ⟨B, 0, none⟩) 1 1], .int .i64 e] ∧ ((stD s (.se m x) = some s' ∧ e = 0) ∨ (stD s (.se m x) = none ∧ e = 10)) ∧ Hp u [] [(B, .cells #[.int .i64 s'.lo, .int .i64 s'.hi] 36)] w')) := by
  refine calls_ofM Try.func89 rfl rfl (fun a hf => ?_)
  have hh := Hp.init u []
  obtain ⟨sb, so, cS, TS, frS, eso, hsb, hcS⟩ := tat_off hS
  subst eso
  refine sy_sq ?_
  refine o_box hf hh ?_; clear hf hh a; intro B4 a w hf hh
  refine o_box hf hh ?_; clear hf hh a; intro B5 a w hf hh
  refine o_alloc hf hh Try.ze_41 ?_; clear hf hh a; intro B6 a w hf hh
  refine o_alloc hf hh Try.ze_42 ?_; clear hf hh a; intro B7 a w hf hh
  refine o_end ?_
  refine sy_sq ?_
  refine o_defer hf ?_; clear hf a; intro a hf
  refine o_end ?_
  refine sy_seq ?_
  replace hh : Hp u [] [(B7, .cells #[.int .i64 0] 42), (B6, .cells #[.int .i64 0, .int .i64 0, .slice none 0 0] 41), (B5, .cells #[.int .i64 2, .slice none 0 0, .int .i64 0, .int .i64 0, .int .i64 m, .int .i64 x] 32), (B4, .cells #[.int .i64 s.p, .int .i64 s.m, .slice (some ⟨sb, so, none⟩) 1 co] 41)] w := hh
  refine sy_ops ?_
  refine o_v hf hh (y_lds Try.ag_41 rfl) ?_; clear hf a; intro a hf
  refine o_store hf hh Try.sz_41 fun w hh => ?_
  refine o_end ?_
  refine sy_sq ?_
  refine o_v hf hh (yv_fieldAddr Try.fo_41_2 rfl) ?_; clear hf a; intro a hf
  refine o_v hf hh (y_ld Try.sc_39 rfl) ?_; clear hf a; intro a hf
  refine o_v hf hh (yv_len Try.se_39 rfl) ?_; clear hf a; intro a hf
  refine ops_make (q := 1) hf hh Try.eb_39 rfl rfl (by omega) (by omega) (.inl rfl) rfl ?_; clear hf hh a; intro B12 a w hf hh
  refine o_v hf hh (yv_fieldAddr Try.fo_41_2 rfl) ?_; clear hf a; intro a hf
  refine o_store hf hh Try.sz_39 fun w hh => ?_
  refine o_end ?_
  refine sy_seq ?_
  rw [mk2] at hh
  replace hh : Hp u [] [(B12, .cells #[.int .i64 (0), .int .i64 (0)] 36), (B7, .cells #[.int .i64 0] 42), (B6, .cells #[.int .i64 (s.p), .int .i64 (s.m), .slice (some ⟨B12, 0, none⟩) 1 1] 41), (B5, .cells #[.int .i64 2, .slice none 0 0, .int .i64 0, .int .i64 0, .int .i64 m, .int .i64 x] 32), (B4, .cells #[.int .i64 s.p, .int .i64 s.m, .slice (some ⟨sb, so, none⟩) 1 co] 41)] w := hh
  refine sy_ops ?_
  refine o_v hf hh (yv_fieldAddr Try.fo_41_2 rfl) ?_; clear hf a; intro a hf
  refine o_v hf hh (y_ld Try.sc_39 rfl) ?_; clear hf a; intro a hf
  refine o_v hf hh (yv_fieldAddr Try.fo_41_2 rfl) ?_; clear hf a; intro a hf
  refine o_v hf hh (y_ld Try.sc_39 rfl) ?_; clear hf a; intro a hf
  refine ops_copy (i := 0) (q := 1) hf hh Try.se_39 rfl rfl rfl (hh.old hsb) hcS rfl (by decide) (.inl rfl) rfl ?_; clear hf a; intro a w hf hh
  refine o_end ?_
  refine sy_seq ?_
  replace hh : Hp u [] [(B12, .cells #[.int .i64 (s.lo), .int .i64 (s.hi)] 36), (B7, .cells #[.int .i64 0] 42), (B6, .cells #[.int .i64 (s.p), .int .i64 (s.m), .slice (some ⟨B12, 0, none⟩) 1 1] 41), (B5, .cells #[.int .i64 2, .slice none 0 0, .int .i64 0, .int .i64 0, .int .i64 m, .int .i64 x] 32), (B4, .cells #[.int .i64 s.p, .int .i64 s.m, .slice (some ⟨sb, so, none⟩) 1 co] 41)] w := hh
  refine sy_treeX (.p 1 (.q 0 2 (.p 5 (.q 0 6 (.e1 0 (.e1 3 (.p 4 (.e1 7 (.fin))))))))) [[]] [(AtE u [] [(B5, .cells #[.int .i64 2, .slice none 0 0, .int .i64 0, .int .i64 0, .int .i64 m, .int .i64 x] 32)], [])] (fun ch w => ¬ (m ≤ s.lo) ∧ ch = misS 10 ∧ Hp u [] [(B6, .cells #[.int .i64 (s.p), .int .i64 (s.m), .slice (some ⟨B12, 0, none⟩) 1 1] 41), (B12, .cells #[.int .i64 (s.lo), .int .i64 (s.hi)] 36), (B7, .cells #[.int .i64 0] 42)] w) ([(6, ptr B6 0), (7, ptr B7 0)]) Try.follows (by kernel_rfl) rfl hf (by repeat' (first | exact True.intro | refine And.intro rfl ?_)) (by rfl) hh ?_ (fun w hh => ?_)
  ·intro ch a w hX hf
   obtain ⟨hnn, rfl, hh⟩ := hX
   refine then_p ?_
   exact pan_da (Ds := []) hf hh Try.en_31 (fun w' hh => d31p B7 10 0 w' (hh.at (i := 2) rfl)) fun w' w'' hh h2 => by
     replace hh := hh.turn (i := 2) rfl h2.ext (h2.at (i := 0) rfl)
     exact ⟨[.agg #[.int .i64 s.p, .int .i64 s.m, .slice (some ⟨B12, 0, none⟩) 1 1], .int .i64 10], ⟨⟨B6, 0, _, _, _, rfl, hh.at (i := 0) rfl, .inr ⟨3, _, Try.ag_41, rfl, rfl⟩⟩, ⟨B7, 0, _, _, _, rfl, hh.at (i := 2) rfl, .inl ⟨Try.sc_42, rfl⟩⟩, True.intro⟩, ⟨s, B12, 10, rfl, .inr ⟨stD_sen hnn, rfl⟩, hh.less (.cons _ (.cons_cons _ (List.nil_sublist _)))⟩⟩
  refine mz_p rfl   hf (yv_fieldAddr Try.fo_32_0 rfl) (.inl rfl) rfl rfl ?_; clear hf a; intro a hf
  refine mz_q rfl rfl (AtE.of hh (by intro p hp; rw [List.mem_singleton.1 hp]; simp)) hf (y_ld Try.sc_3 rfl) (.inl rfl) rfl rfl ?_; clear hf a; intro a hf
  refine mz_p rfl   hf (yv_move rfl) (.inl rfl) rfl rfl ?_; clear hf a; intro a hf
  refine mz_q rfl rfl (AtE.of hh (by intro p hp; rw [List.mem_singleton.1 hp]; simp)) hf (y_lds Try.ag_32 rfl) (.inl rfl) rfl rfl ?_; clear hf a; intro a hf
  refine mz_e rfl ?_
  refine o_call hf Try.en_123 rfl rfl rfl (s123 _) ?_; clear hf a; intro v a w hR hf
  obtain ⟨Bm, es, c, rfl, hM, hx⟩ := hR; replace hh := hh.join hx; clear hx
  refine ops_end ?_
  refine qx_n ⟨hf.sub (by repeat' (first | exact True.intro | refine And.intro rfl ?_)), ⟨fun _ _ => (AtE.of hh (by intro p hp; rw [List.mem_singleton.1 hp]; simp)), trivial⟩, ?_⟩
  refine mz_e rfl ?_
  refine o_v hf hh (yv_cast (yv_getI Try.mt_217 Try.ze_222 rfl rfl (fun _ h => h.at (i := 0) rfl) hM) (show _ = Value.agg #[.func (.func 156) #[] #[], .func (.func 157) #[] #[]] from rfl)) ?_; clear hf a; intro a hf
  refine ops_end ?_
  refine qx_n ⟨hf.sub (by repeat' (first | exact True.intro | refine And.intro rfl ?_)), ⟨fun _ _ => (AtE.of hh (by intro p hp; rw [List.mem_singleton.1 hp]; simp)), trivial⟩, ?_⟩
  refine mz_p rfl   hf (yv_fieldS Try.fs_222_1 rfl rfl) (.inl rfl) rfl rfl ?_; clear hf a; intro a hf
  refine mz_e rfl ?_
  refine o_callX hf Try.en_157 rfl rfl rfl (s157 pp sw sd cw nd cd Bv m x B6 B12 k s _ (hh.old hBv) (hh.at (i := 3) rfl) (hh.at (i := 1) rfl) (hp_ne hh (i := 3) (j := 1) rfl rfl (by decide)) (hp_new hh (i := 3) rfl hBv) (hp_new hh (i := 1) rfl hBv) hB hk hm hx9) ?_ ?_
  ·clear hf a; intro v a w hR hf
   obtain ⟨hok, hx⟩ := hR
   replace hh : Hp u [] ([(B6, .cells #[.int .i64 (s.p), .int .i64 (s.m + x), .slice (some ⟨B12, 0, none⟩) 1 1] 41), (B12, .cells #[.int .i64 (s.lo - m), .int .i64 (s.hi - m)] 36)] ++ [(Bm, .map es c), (B7, .cells #[.int .i64 0] 42), (B5, .cells #[.int .i64 2, .slice none 0 0, .int .i64 0, .int .i64 0, .int .i64 m, .int .i64 x] 32), (B4, .cells #[.int .i64 s.p, .int .i64 s.m, .slice (some ⟨sb, so, none⟩) 1 co] 41)]) w := hh.swap' (X := [(B6, Obj.cells #[.int .i64 (s.p), .int .i64 (s.m), .slice (some ⟨B12, 0, none⟩) 1 1] 41), (B12, Obj.cells #[.int .i64 (s.lo), .int .i64 (s.hi)] 36)]) (Z := [(Bm, Obj.map es c), (B7, Obj.cells #[.int .i64 0] 42), (B5, Obj.cells #[.int .i64 2, .slice none 0 0, .int .i64 0, .int .i64 0, .int .i64 m, .int .i64 x] 32), (B4, Obj.cells #[.int .i64 s.p, .int .i64 s.m, .slice (some ⟨sb, so, none⟩) 1 co] 41)]) (perm6 _ _ _ _ _ _) hx; clear hx
   refine ops_end ?_
   refine qx_n ⟨hf.sub (by repeat' (first | exact True.intro | refine And.intro rfl ?_)), ⟨fun _ _ => (AtE.of hh (by intro p hp; rw [List.mem_singleton.1 hp]; simp)), trivial⟩, ?_⟩
   refine mz_end ?_
   refine then_n ?_
   refine sy_sq ?_
   refine o_v hf hh (y_lds Try.ag_41 rfl) ?_; clear hf a; intro a hf
   refine o_store hf hh Try.sz_41 fun w hh => ?_
   refine o_store hf hh Try.sz_42 fun w hh => ?_
   refine o_end ?_
   refine sy_ret ?_
   replace hh : Hp u [] [(B6, .cells #[.int .i64 (s.p), .int .i64 (s.m + x), .slice (some ⟨B12, 0, none⟩) 1 1] 41), (B12, .cells #[.int .i64 (s.lo - m), .int .i64 (s.hi - m)] 36), (Bm, .map es c), (B7, .cells #[.int .i64 0] 42), (B5, .cells #[.int .i64 2, .slice none 0 0, .int .i64 0, .int .i64 0, .int .i64 m, .int .i64 x] 32), (B4, .cells #[.int .i64 s.p, .int .i64 s.m, .slice (some ⟨sb, so, none⟩) 1 co] 41)] w := hh
   exact ret_dan (Ds := []) hf hh Try.en_31 (fun w' => d31r B7 w') fun w' hh => ⟨[.agg #[.int .i64 (s.p), .int .i64 (s.m + x), .slice (some ⟨B12, 0, none⟩) 1 1], .int .i64 0], ⟨⟨B6, 0, _, _, _, rfl, hh.at (i := 0) rfl, .inr ⟨3, _, Try.ag_41, rfl, rfl⟩⟩, ⟨B7, 0, _, _, _, rfl, hh.at (i := 3) rfl, .inl ⟨Try.sc_42, rfl⟩⟩, True.intro⟩, ⟨⟨s.p, s.m + x, s.lo - m, s.hi - m⟩, B12, 0, rfl, .inl ⟨stD_se hok, rfl⟩, hh.less (.cons _ (.cons_cons _ (List.nil_sublist _)))⟩⟩
  ·intro ch w hX hf
   obtain ⟨hnn, rfl, hx⟩ := hX
   replace hh : Hp u [] ([(B6, .cells #[.int .i64 (s.p), .int .i64 (s.m), .slice (some ⟨B12, 0, none⟩) 1 1] 41), (B12, .cells #[.int .i64 (s.lo), .int .i64 (s.hi)] 36)] ++ [(Bm, .map es c), (B7, .cells #[.int .i64 0] 42), (B5, .cells #[.int .i64 2, .slice none 0 0, .int .i64 0, .int .i64 0, .int .i64 m, .int .i64 x] 32), (B4, .cells #[.int .i64 s.p, .int .i64 s.m, .slice (some ⟨sb, so, none⟩) 1 co] 41)]) w := hh.swap' (X := [(B6, Obj.cells #[.int .i64 (s.p), .int .i64 (s.m), .slice (some ⟨B12, 0, none⟩) 1 1] 41), (B12, Obj.cells #[.int .i64 (s.lo), .int .i64 (s.hi)] 36)]) (Z := [(Bm, Obj.map es c), (B7, Obj.cells #[.int .i64 0] 42), (B5, Obj.cells #[.int .i64 2, .slice none 0 0, .int .i64 0, .int .i64 0, .int .i64 m, .int .i64 x] 32), (B4, Obj.cells #[.int .i64 s.p, .int .i64 s.m, .slice (some ⟨sb, so, none⟩) 1 co] 41)]) (perm6 _ _ _ _ _ _) hx; clear hx
   exact qx_p ⟨hnn, rfl, hh.less (.cons_cons _ (.cons_cons _ (.cons _ (.cons_cons _ (List.nil_sublist _)))))⟩
theorem s89 (pp : Int) (sw sd : Option Addr) (cw nd cd Bv : Nat)  (k : Nat) (s : ShD) (so0 : Option Addr) (co : Nat) (u : World) (hBv : u.heap[Bv]? = some (.cells (prC pp sw cw sd nd cd) 97 (0, 0))) (hS : TAt 2 spN u so0 [(s.lo, s.hi)]) (hB : ShB s k) (hk : k ≤ 30) : ∀ d : DlD, DlOk u d → Calls Try.prog 89 #[ptr Bv 0, .agg #[.int .i64 s.p, .int .i64 s.m, .slice so0 1 co], .agg (dlC d).toArray] u (Ret fun v w' => (∃ (s' : ShD) (B : Nat) (e : Int), v = .tuple #[.agg #[.int .i64 s'.p, .int .i64 s'.m, .slice (some ⟨B, 0, none⟩) 1 1], .int .i64 e] ∧ ((stD s d = some s' ∧ e = 0) ∨ (stD s d = none ∧ e = 10)) ∧ Hp u [] [(B, .cells #[.int .i64 s'.lo, .int .i64 s'.hi] 36)] w'))
  | .pr t sa ca, h => s89p pp sw sd cw nd cd Bv t sa ca k s so0 co u hBv hS hB hk h.1 h.2
  | .se m x, h => s89s pp sw sd cw nd cd Bv m x k s so0 co u hBv hS hB hk ⟨h.1, h.2.1⟩ h.2.2
end Go.Proofs.Ytccpgpnekoncoaa
namespace Go.Proofs.Ytccpgpnekoncoaa
open Go Go.Sy Go.RoyM
set_option maxRecDepth 100000 in
theorem s36 (pp : Int) (sw sd : Option Addr) (cw nd cd Bv : Nat) (u : World) (hBv : u.heap[Bv]? = some (.cells (prC pp sw cw sd nd cd) 97 (0, 0))) : Calls Try.prog 36 #[ptr Bv 0] u (Ret fun v w' => ∃ B, v = .agg #[.int .i64 pp, .int .i64 0, .slice (some ⟨B, 0, none⟩) 1 1] ∧ Hp u [] [(B, .cells #[.int .i64 0, .int .i64 0] 36)] w') := by
  refine calls_of Try.func36 rfl rfl (fun a hf => ?_)
  have hh := Hp.init u []
  refine sy_sq ?_
  refine o_alloc hf hh Try.ze_41 ?_; clear hf hh a; intro B2 a w hf hh
  refine o_end ?_
  refine sy_seq ?_
  refine sy_treeC (.p 0 (.p 1 (.p 2 (.p 3 (.q 0 4 (.p 5 (.p 6 (.p 7 (.p 8 (.q 0 9 (.p 10 (.p 11 (.p 12 (.p 13 (.q 0 14 (.p 15 (.e1 16 (.p 17 (.e1 18 (.fin)))))))))))))))))))) [[]] [(AtE u [] [], [])] Try.follows (by kernel_rfl) rfl hh (fun w hh => ?_)
  refine mc_p rfl   hf (yv_move rfl) (.inl rfl) rfl rfl ?_; clear hf a; intro a hf
  refine mc_p rfl   hf (yv_nilCheck rfl) (.inl rfl) rfl rfl ?_; clear hf a; intro a hf
  refine mc_p rfl   hf (yv_fieldAddr Try.fo_97_0 rfl) (.inl rfl) rfl rfl ?_; clear hf a; intro a hf
  refine mc_p rfl   hf (yv_fieldAddr Try.fo_38_6 rfl) (.inl rfl) rfl rfl ?_; clear hf a; intro a hf
  refine mc_q rfl rfl (AtE.of hh (by intro p hp; cases hp)) hf (y_ld Try.sc_3 rfl) (.inl rfl) rfl rfl ?_; clear hf a; intro a hf
  refine mc_p rfl   hf (yv_move rfl) (.inl rfl) rfl rfl ?_; clear hf a; intro a hf
  refine mc_p rfl   hf (yv_nilCheck rfl) (.inl rfl) rfl rfl ?_; clear hf a; intro a hf
  refine mc_p rfl   hf (yv_fieldAddr Try.fo_97_0 rfl) (.inl rfl) rfl rfl ?_; clear hf a; intro a hf
  refine mc_p rfl   hf (yv_fieldAddr Try.fo_38_7 rfl) (.inl rfl) rfl rfl ?_; clear hf a; intro a hf
  refine mc_q rfl rfl (AtE.of hh (by intro p hp; cases hp)) hf (y_ld Try.sc_3 rfl) (.inl rfl) rfl rfl ?_; clear hf a; intro a hf
  refine mc_p rfl   hf (yv_move rfl) (.inl rfl) rfl rfl ?_; clear hf a; intro a hf
  refine mc_p rfl   hf (yv_nilCheck rfl) (.inl rfl) rfl rfl ?_; clear hf a; intro a hf
  refine mc_p rfl   hf (yv_fieldAddr Try.fo_97_0 rfl) (.inl rfl) rfl rfl ?_; clear hf a; intro a hf
  refine mc_p rfl   hf (yv_fieldAddr Try.fo_38_5 rfl) (.inl rfl) rfl rfl ?_; clear hf a; intro a hf
  refine mc_q rfl rfl (AtE.of hh (by intro p hp; cases hp)) hf (y_ld Try.sc_25 rfl) (.inl rfl) rfl rfl ?_; clear hf a; intro a hf
  refine mc_p rfl   hf (yv_len Try.se_25 rfl) (.inl rfl) rfl rfl ?_; clear hf a; intro a hf
  refine mc_e rfl fun Q1 => ?_
  refine ops_make (q := 1) hf hh Try.eb_39 rfl rfl (by omega) (by omega) (.inl rfl) rfl ?_; clear hf hh a; intro B19 a w hf hh
  rw [mk2] at hh
  refine ops_end ?_
  refine then_n ⟨⟨fun _ _ => (AtE.of hh (by intro p hp; cases hp)), trivial⟩, ?_⟩
  refine mc_p rfl   hf (yv_buildS Try.bs_41 rfl rfl) (.inl rfl) rfl rfl ?_; clear hf a; intro a hf
  refine mc_e rfl fun Q1 => ?_
  refine o_store hf hh Try.sz_41 fun w hh => ?_
  refine ops_end ?_
  refine then_n ⟨⟨fun _ _ => (AtE.of hh (by intro p hp; cases hp)), trivial⟩, ?_⟩
  refine mc_end ?_
  refine then_n ?_
  refine sy_ret ?_
  refine ret_c (vs := [.agg #[.int .i64 pp, .int .i64 0, .slice (some ⟨B19, 0, none⟩) 1 1]]) hf ?_ ?_
  · exact ⟨⟨B2, 0, _, _, _, rfl, hh.at (i := 1) rfl, .inr ⟨3, _, Try.ag_41, rfl, rfl⟩⟩, True.intro⟩
  · exact ⟨B19, rfl, hh.less (.cons_cons _ (List.nil_sublist _))⟩
set_option maxRecDepth 100000 in
set_option maxHeartbeats 4000000 in
theorem s35 (pp : Int) (sw sd : Option Addr) (cw nd cd Bv : Nat) (l : List DlD) (sd2 : Option Addr) (cd2 : Nat) (s : ShD) (so0 : Option Addr) (co0 : Nat) (u : World) (hBv : u.heap[Bv]? = some (.cells (prC pp sw cw sd nd cd) 97 (0, 0))) (hL : TAt 6 dlC u sd2 l) (hOk : ∀ d ∈ l, DlOk u d) (hl : l.length ≤ 20) (X0 : List (Nat × Obj)) (hX0 : ∀ q ∈ X0, u.heap[q.1]? = some q.2) (hS : ∀ w2 : World, (∀ q ∈ X0, w2.heap[q.1]? = some q.2) → TAt 2 spN w2 so0 [(s.lo, s.hi)]) (hB0 : ShB s 0) : Calls Try.prog 35 #[ptr Bv 0, .agg #[.int .i64 s.p, .int .i64 s.m, .slice so0 1 co0], .slice sd2 l.length cd2] u (Ret fun v w' => ∃ (p m : Int) (so : Option Addr) (n co : Nat) (z e : Int) (X : List (Nat × Obj)), v = .tuple #[.agg #[.int .i64 p, .int .i64 m, .slice so n co], .int .i64 z, .int .i64 e] ∧ AftF (X0 ++ X) (aftD s l) p m so n co e ∧ Hp u [] X w') := by
  refine calls_of Try.func35 rfl rfl (fun a hf => ?_)
  have hh := Hp.init u []
  refine sy_sq ?_
  refine o_box hf hh ?_; clear hf hh a; intro B4 a w hf hh
  refine o_alloc hf hh Try.ze_41 ?_; clear hf hh a; intro B6 a w hf hh
  refine o_v hf hh (yv_assign rfl) ?_; clear hf a; intro a hf
  refine o_v hf hh (yv_assign rfl) ?_; clear hf a; intro a hf
  refine o_end ?_
  refine sy_seq ?_
  refine sy_sq ?_
  refine o_v hf hh (yv_move rfl) ?_; clear hf a; intro a hf
  refine o_v hf hh (yv_len Try.se_34 rfl) ?_; clear hf a; intro a hf
  refine o_v hf hh (yv_move rfl) ?_; clear hf a; intro a hf
  refine o_end ?_
  refine sy_block ?_
  refine sy_loopH (σ := Nat × ShD × Option Addr × Nat × List (Nat × Obj)) [7, 8, 9, 10, 11, 12, 15, 16, 17, 18, 19, 20, 21, 22, 23, 24, 25, 26, 27, 28, 29, 30, 31, 32, 33] (fun q => [(15, .int .i64 (q.1 : Nat))]) (fun q => fun w' => q.1 ≤ l.length ∧ aftD s l = aftD q.2.1 (l.drop q.1) ∧ ShB q.2.1 q.1 ∧ (∀ w2 : World, (∀ p ∈ X0 ++ q.2.2.2.2, w2.heap[p.1]? = some p.2) → TAt 2 spN w2 q.2.2.1 [(q.2.1.lo, q.2.1.hi)]) ∧ Hp u [] ([(B6, .cells #[.int .i64 0, .int .i64 0, .slice none 0 0] 41), (B4, .cells #[.int .i64 q.2.1.p, .int .i64 q.2.1.m, .slice q.2.2.1 1 q.2.2.2.1] 41)] ++ q.2.2.2.2) w') (fun q => l.length - q.1) ((0, s, so0, co0, [])) hf ?_ ?_ ?_
  · repeat' (first | exact True.intro | refine And.intro rfl ?_)
  · exact ⟨Nat.zero_le _, rfl, hB0, fun w2 h2 => hS w2 (fun q hq => h2 q (by simpa using hq)), hh⟩
  ·rintro q a w ⟨hi, ha, hBi, hT, hh⟩ hf
   obtain ⟨i, si, so, co, X⟩ := q; simp only at hi ha hBi hT hh hf ⊢
   refine sy_sq ?_
   refine o_v hf hh (yv_bin rfl rfl rfl) ?_; clear hf a; intro a hf
   refine o_end ?_
   refine sy_seq ?_
   refine sy_cond hf rfl (fun hg2 => ?_) (fun hg2 => ?_)
   ·have hG2 := hg2; try simp only [gS] at hG2
    refine sy_skip ?_
    refine then_n ?_
    refine sy_seq ?_
    refine sy_block ?_
    refine sy_seq ?_
    obtain ⟨d, hd⟩ := ex_of (l := l) (i := i) (by omega)
    obtain ⟨blk, off, cc, TT, fr, e1, hb2, hc⟩ := hL i d hd; subst e1
    have hdo := hOk d (List.mem_of_getElem? hd)
    obtain ⟨x1, x2, x3, x4, x5, x6, e6, ho6⟩ := dl6 d
    rw [e6] at hc
    have had := aft_drop (s := si) hd
    refine sy_ops ?_
    refine o_v hf hh (yv_move rfl) ?_; clear hf a; intro a hf
    refine o_v hf hh (y_ix Try.se_34 rfl rfl) ?_; clear hf a; intro a hf
    refine o_v hf hh (y_lds Try.ag_32 rfl) ?_; clear hf a; intro a hf
    refine o_alloc hf hh Try.ze_32 ?_; clear hf hh a; intro B10 a w hf hh
    refine o_v hf hh (yv_assign rfl) ?_; clear hf a; intro a hf
    refine o_store hf hh Try.sz_32 (h1 := by exact ho6) fun w hh => ?_
    refine o_end ?_
    refine sy_seq ?_
    replace hh : Hp u [] ((B10, .cells #[x1, x2, x3, x4, x5, x6] 32) :: ([(B6, .cells #[.int .i64 0, .int .i64 0, .slice none 0 0] 41), (B4, .cells #[.int .i64 si.p, .int .i64 si.m, .slice so 1 co] 41)] ++ X)) w := hh
    have hcon := s89 pp sw sd cw nd cd Bv i si so co w (hh.old hBv) (hT _ (fun q hq => by rcases List.mem_append.1 hq with h | h; exact hh.old (hX0 q h); exact hh.get q (by simp [h]))) hBi (by omega) d (hdo.ext hh.ext)
    rw [e6] at hcon
    refine sy_ops ?_
    refine o_v hf hh (yv_move rfl) ?_; clear hf a; intro a hf
    refine o_v hf hh (y_lds Try.ag_41 rfl) ?_; clear hf a; intro a hf
    refine o_v hf hh (y_lds Try.ag_32 rfl) ?_; clear hf a; intro a hf
    refine o_call hf Try.en_89 rfl rfl rfl hcon ?_; clear hf a; intro v a w hR hf
    obtain ⟨s2, Bn, e, rfl, hst, hx⟩ := hR; replace hh := hh.join hx; clear hx
    refine o_v hf hh (yv_move rfl) ?_; clear hf a; intro a hf
    refine o_v hf hh (yv_extract rfl rfl) ?_; clear hf a; intro a hf
    refine o_v hf hh (yv_extract rfl rfl) ?_; clear hf a; intro a hf
    refine o_alloc hf hh Try.ze_41 ?_; clear hf hh a; intro B11 a w hf hh
    refine o_store hf hh Try.sz_41 fun w hh => ?_
    refine o_v hf hh (yv_assign rfl) ?_; clear hf a; intro a hf
    refine o_end ?_
    refine sy_seq ?_
    refine sy_sq ?_
    refine o_v hf hh (yv_move rfl) ?_; clear hf a; intro a hf
    refine o_v hf hh (yv_bin rfl rfl rfl) ?_; clear hf a; intro a hf
    refine o_end ?_
    refine sy_cond hf rfl (fun hg7 => ?_) (fun hg7 => ?_)
    ·have hG7 := hg7; try simp only [gS] at hG7
     refine sy_seq ?_
     have hne : ¬ e = 0 := by assumption
     obtain ⟨hsn, he10⟩ : stD si d = none ∧ e = 10 := by
       rcases hst with ⟨_, h⟩ | h
       · exact absurd h hne
       · exact h
     subst he10
     refine sy_ops ?_
     refine o_v hf hh (yv_buildS Try.bs_41 rfl rfl) ?_; clear hf a; intro a hf
     refine o_v hf hh (yv_move rfl) ?_; clear hf a; intro a hf
     refine o_v hf hh (yv_move rfl) ?_; clear hf a; intro a hf
     refine o_store hf hh Try.sz_41 fun w hh => ?_
     refine o_v hf hh (yv_assign rfl) ?_; clear hf a; intro a hf
     refine o_v hf hh (yv_assign rfl) ?_; clear hf a; intro a hf
     refine o_end ?_
     refine sy_ret ?_
     refine then_r ?_
     refine blk_r ?_
     refine then_r ?_
     refine then_r ?_
     refine blk_r ?_
     refine then_r ?_
     refine ret_c (vs := [.agg #[.int .i64 0, .int .i64 0, .slice none 0 0], .int .i64 (i : Nat), .int .i64 10]) hf ?_ ?_
     · exact ⟨⟨B6, 0, _, _, _, rfl, hh.at (i := 3) rfl, .inr ⟨3, _, Try.ag_41, rfl, rfl⟩⟩, rfl, rfl, True.intro⟩
     · exact ⟨0, 0, none, 0, 0, _, 10, [], rfl, by rw [ha, had, hsn]; exact ⟨rfl, rfl, rfl, rfl, rfl, rfl⟩, hh.less (List.nil_sublist _)⟩
    ·have hG7 := hg7; try simp only [gS] at hG7
     refine sy_skip ?_
     refine then_n ?_
     refine sy_ops ?_
     refine o_v hf hh (y_lds Try.ag_41 rfl) ?_; clear hf a; intro a hf
     refine o_store hf hh Try.sz_41 fun w hh => ?_
     refine ops_end ?_
     refine blk_n ?_
     refine then_n ?_
     refine sy_ops ?_
     refine o_v hf hh (y_add rfl rfl) ?_; clear hf a; intro a hf
     refine o_v hf hh (yv_move rfl) ?_; clear hf a; intro a hf
     refine ops_end ?_
     refine then_n ?_
     rcases hst with ⟨hst, rfl⟩ | ⟨hst, rfl⟩
     · replace hh : Hp u [] ((B11, .cells #[.int .i64 s2.p, .int .i64 s2.m, .slice (some ⟨Bn, 0, none⟩) 1 1] 41) :: (Bn, .cells #[.int .i64 s2.lo, .int .i64 s2.hi] 36) :: (B10, .cells #[x1, x2, x3, x4, x5, x6] 32) :: ([(B6, .cells #[.int .i64 0, .int .i64 0, .slice none 0 0] 41), (B4, .cells #[.int .i64 s2.p, .int .i64 s2.m, .slice (some ⟨Bn, 0, none⟩) 1 1] 41)] ++ X)) w := hh
       exact ⟨(i + 1, s2, some ⟨Bn, 0, none⟩, 1, [(Bn, .cells #[.int .i64 s2.lo, .int .i64 s2.hi] 36)]), ⟨⟨by simp only; omega, by simp only; rw [ha, had, hst], hBi.step (hdo.ext hh.ext) hst, (fun w2 h2 => tat_one (h2 _ (List.mem_append_right _ (.head _)))), (hh.less (.cons _ (.cons_cons _ (.cons _ (List.sublist_append_left _ X))))).perm (List.perm_append_comm (l₁ := [_]) (l₂ := [_, _]))⟩, (hf.head (by repeat' (first | exact True.intro | refine And.intro rfl ?_)) (Keep.cons rfl (Keep.cons rfl (Keep.cons rfl (Keep.cons rfl (Keep.cons rfl (Keep.cons rfl (Keep.cons rfl (Keep.cons rfl (Keep.cons rfl (Keep.cons rfl (Keep.cons rfl (Keep.cons rfl (Keep.cons rfl (Keep.cons rfl (Keep.cons rfl (Keep.cons rfl (Keep.cons rfl (Keep.cons rfl (Keep.cons rfl (Keep.cons rfl (Keep.app rfl (Keep.rm rfl Keep.base)))))))))))))))))))))))⟩, by simp only; omega⟩
     · exact absurd (show (10 : Int) = 0 by assumption) (by decide)
   ·have hG2 := hg2; try simp only [gS] at hG2
    refine sy_exit ?_
    refine then_e ?_
    refine then_e ?_
    refine blk_e ?_
    refine then_n ?_
    refine sy_sq ?_
    refine o_v hf hh (y_lds Try.ag_41 rfl) ?_; clear hf a; intro a hf
    refine o_v hf hh (yv_move rfl) ?_; clear hf a; intro a hf
    refine o_v hf hh (yv_len Try.se_34 rfl) ?_; clear hf a; intro a hf
    refine o_store hf hh Try.sz_41 fun w hh => ?_
    refine o_v hf hh (yv_assign rfl) ?_; clear hf a; intro a hf
    refine o_v hf hh (yv_assign rfl) ?_; clear hf a; intro a hf
    refine o_end ?_
    refine sy_ret ?_
    refine ret_c (vs := [.agg #[.int .i64 si.p, .int .i64 si.m, .slice so 1 co], .int .i64 (l.length : Nat), .int .i64 0]) hf ?_ ?_
    · exact ⟨⟨B6, 0, _, _, _, rfl, hh.at (i := 0) rfl, .inr ⟨3, _, Try.ag_41, rfl, rfl⟩⟩, rfl, rfl, True.intro⟩
    · obtain rfl : i = l.length := by omega
      rw [List.drop_length] at ha
      exact ⟨si.p, si.m, so, 1, co, _, 0, X, rfl, by rw [ha]; exact ⟨rfl, rfl, rfl, rfl, hT⟩, hh.less (.cons _ (.cons _ (.refl _)))⟩
end Go.Proofs.Ytccpgpnekoncoaa
namespace Go.Proofs.Ytccpgpnekoncoaa
open Go Go.Sy Go.RoyM
set_option maxRecDepth 100000 in
set_option maxHeartbeats 4000000 in
theorem s9 (pp wn : Int) (sw sd : Option Addr) (cw cd : Nat) (dl : List DlD) (k : Nat) (u : World) (hA : PrAt u pp wn sw sd dl) (hk : k ≤ dl.length) (hcap : dl.length ≤ cd) : Calls Try.prog 9 #[.agg (prC pp sw cw sd dl.length cd), .int .i64 (k : Nat)] u (Ret fun v w' => ∃ (p m : Int) (so : Option Addr) (n co : Nat) (e : Int) (X : List (Nat × Obj)), v = .tuple #[.agg #[.int .i64 p, .int .i64 m, .slice so n co], .int .i64 e] ∧ AftF X (aftD ⟨pp, 0, 0, 0⟩ (dl.take k)) p m so n co e ∧ Hp u [] X w') := by
  refine calls_ofM Try.func9 rfl rfl (fun a hf => ?_)
  have hh := Hp.init u []
  have hnl := hA.n; have hp0 := hA.p0; have hp1 := hA.p1
  have gk : inI ((k : Nat) : Int) 0 ((dl.length : Nat) : Int) = true := by unfold inI; simp only [Bool.and_eq_true, decide_eq_true_eq]; omega
  refine sy_sq ?_
  refine o_box hf hh ?_; clear hf hh a; intro B2 a w hf hh
  refine o_alloc hf hh Try.ze_41 ?_; clear hf hh a; intro B4 a w hf hh
  refine o_alloc hf hh Try.ze_42 ?_; clear hf hh a; intro B5 a w hf hh
  refine o_end ?_
  refine sy_sq ?_
  refine o_defer hf ?_; clear hf a; intro a hf
  refine o_end ?_
  refine sy_sq ?_
  refine o_v hf hh (y_lds Try.ag_38 rfl) ?_; clear hf a; intro a hf
  refine o_call hf Try.en_32 rfl rfl rfl (s32 pp wn sw sd cw cd dl _ (hA.ext hh.ext)) ?_; clear hf a; intro v a w hR hf
  obtain ⟨Bv, rfl, hx⟩ := hR; replace hh := hh.join hx; clear hx
  refine o_v hf hh (yv_assign rfl) ?_; clear hf a; intro a hf
  refine o_end ?_
  refine sy_sq ?_
  refine o_v hf hh (yv_move rfl) ?_; clear hf a; intro a hf
  refine o_v hf hh (yv_move rfl) ?_; clear hf a; intro a hf
  refine o_v hf hh (yv_nilCheck rfl) ?_; clear hf a; intro a hf
  refine o_v hf hh (yv_fieldAddr Try.fo_97_0 rfl) ?_; clear hf a; intro a hf
  refine o_v hf hh (yv_fieldAddr Try.fo_38_8 rfl) ?_; clear hf a; intro a hf
  refine o_v hf hh (y_ld Try.sc_34 rfl) ?_; clear hf a; intro a hf
  refine o_v hf hh (yv_len Try.se_34 rfl) ?_; clear hf a; intro a hf
  refine o_call hf Try.en_34 rfl rfl rfl (Calls.ret_mono (R' := fun v w' => v = .bool true ∧ Ext [] w w') (s34 _ _ _ _) fun v w' h => ⟨h.1.trans (congrArg Value.bool gk), h.2⟩) ?_; clear hf a; intro v a w hR hf
  obtain ⟨rfl, hx⟩ := hR; replace hh := hh.more hx; clear hx
  refine o_call hf Try.en_33 rfl rfl rfl (s33t 2 _) ?_; clear hf a; intro v a w hR hf
  replace hh := hh.more hR; clear hR
  refine o_end ?_
  refine sy_seq ?_
  replace hh : Hp u [] [(Bv, .cells (prC pp sw cw sd dl.length cd) 97), (B5, .cells #[.int .i64 0] 42), (B4, .cells #[.int .i64 0, .int .i64 0, .slice none 0 0] 41), (B2, .cells (prC pp sw cw sd dl.length cd) 38)] w := hh
  refine sy_treeC (.p 0 (.p 1 (.p 3 (.p 4 (.p 5 (.p 6 (.q 0 7 (.p 8 (.p 9 (.e1 2 (.e1 10 (.p 11 (.p 12 (.p 13 (.p 14 (.e1 15 (.e1 16 (.fin)))))))))))))))))) [[]] [(AtE u [] [(Bv, .cells (prC pp sw cw sd dl.length cd) 97)], [])] Try.follows (by kernel_rfl) rfl hh (fun w hh => ?_)
  refine mc_p rfl   hf (yv_move rfl) (.inl rfl) rfl rfl ?_; clear hf a; intro a hf
  refine mc_p rfl   hf (yv_move rfl) (.inl rfl) rfl rfl ?_; clear hf a; intro a hf
  refine mc_p rfl   hf (yv_move rfl) (.inl rfl) rfl rfl ?_; clear hf a; intro a hf
  refine mc_p rfl   hf (yv_nilCheck rfl) (.inl rfl) rfl rfl ?_; clear hf a; intro a hf
  refine mc_p rfl   hf (yv_fieldAddr Try.fo_97_0 rfl) (.inl rfl) rfl rfl ?_; clear hf a; intro a hf
  refine mc_p rfl   hf (yv_fieldAddr Try.fo_38_8 rfl) (.inl rfl) rfl rfl ?_; clear hf a; intro a hf
  refine mc_q rfl rfl (AtE.of hh (by intro p hp; rw [List.mem_singleton.1 hp]; simp)) hf (y_ld Try.sc_34 rfl) (.inl rfl) rfl rfl ?_; clear hf a; intro a hf
  refine mc_p rfl   hf (yv_move rfl) (.inl rfl) rfl rfl ?_; clear hf a; intro a hf
  refine mc_p rfl   hf (yv_cutHi Try.se_34 rfl rfl (by omega)) (.inl rfl) rfl rfl ?_; clear hf a; intro a hf
  refine mc_e rfl fun Q1 => ?_
  refine o_call hf Try.en_36 rfl rfl rfl (s36 pp sw sd cw dl.length cd Bv _ (hh.at (i := 0) rfl)) ?_; clear hf a; intro v a w hR hf
  obtain ⟨Bc, rfl, hx⟩ := hR; replace hh := hh.join hx; clear hx
  refine ops_end ?_
  refine then_n ⟨⟨fun _ _ => (AtE.of hh (by intro p hp; rw [List.mem_singleton.1 hp]; simp)), trivial⟩, ?_⟩
  refine mc_e rfl fun Q1 => ?_
  have hcon := s35 pp sw sd cw dl.length cd Bv (dl.take k) sd cd ⟨pp, 0, 0, 0⟩ (some ⟨Bc, 0, none⟩) 1 w (hh.at (i := 1) rfl) ((tat_take hA.ds k).ext hh.ext) (fun d hd => (hA.ok d (List.mem_of_mem_take hd)).ext hh.ext) (by rw [List.length_take]; omega) [(Bc, .cells #[.int .i64 0, .int .i64 0] 36)] (fun q hq => by rw [List.mem_singleton.1 hq]; exact hh.at (i := 0) rfl) (fun w2 h2 => tat_one (h2 _ (.head _))) (shB0 hp0 hp1)
  rw [List.length_take, Nat.min_eq_left hk] at hcon
  refine o_call hf Try.en_35 rfl rfl rfl hcon ?_; clear hf a hcon; intro v a w hR hf
  obtain ⟨p1, m1, so1, n1, co1, z1, e1, X1, rfl, hfin, hx⟩ := hR; replace hh := (hh.join hx).perm List.perm_append_comm; clear hx
  replace hh : Hp u [] ((Bc, .cells #[.int .i64 0, .int .i64 0] 36) :: (Bv, .cells (prC pp sw cw sd dl.length cd) 97) :: (B5, .cells #[.int .i64 0] 42) :: (B4, .cells #[.int .i64 0, .int .i64 0, .slice none 0 0] 41) :: (B2, .cells (prC pp sw cw sd dl.length cd) 38) :: X1) w := hh
  refine ops_end ?_
  refine then_n ⟨⟨fun _ _ => (AtE.of hh (by intro p hp; rw [List.mem_singleton.1 hp]; simp)), trivial⟩, ?_⟩
  refine mc_p rfl   hf (yv_move rfl) (.inl rfl) rfl rfl ?_; clear hf a; intro a hf
  refine mc_p rfl   hf (yv_extract rfl rfl) (.inl rfl) rfl rfl ?_; clear hf a; intro a hf
  refine mc_p rfl   hf (yv_extract rfl rfl) (.inl rfl) rfl rfl ?_; clear hf a; intro a hf
  refine mc_p rfl   hf (yv_extract rfl rfl) (.inl rfl) rfl rfl ?_; clear hf a; intro a hf
  refine mc_e rfl fun Q1 => ?_
  refine o_store hf hh Try.sz_41 fun w hh => ?_
  refine ops_end ?_
  refine then_n ⟨⟨fun _ _ => (AtE.of hh (by intro p hp; rw [List.mem_singleton.1 hp]; simp)), trivial⟩, ?_⟩
  refine mc_e rfl fun Q1 => ?_
  refine o_store hf hh Try.sz_42 fun w hh => ?_
  refine ops_end ?_
  refine then_n ⟨⟨fun _ _ => (AtE.of hh (by intro p hp; rw [List.mem_singleton.1 hp]; simp)), trivial⟩, ?_⟩
  refine mc_end ?_
  refine then_n ?_
  refine sy_seq ?_
  replace hh : Hp u [] ((Bc, .cells #[.int .i64 0, .int .i64 0] 36) :: (Bv, .cells (prC pp sw cw sd dl.length cd) 97) :: (B5, .cells #[.int .i64 e1] 42) :: (B4, .cells #[.int .i64 p1, .int .i64 m1, .slice so1 n1 co1] 41) :: (B2, .cells (prC pp sw cw sd dl.length cd) 38) :: X1) w := hh
  refine sy_treeC (.q 0 0 (.q 1 1 (.e1 2 (.e1 3 (.fin))))) [[2, 3], [3]] [(AtE u [] [(B4, .cells #[.int .i64 p1, .int .i64 m1, .slice so1 n1 co1] 41), (B5, .cells #[.int .i64 e1] 42)], [2, 3]), (AtE u [] [(B5, .cells #[.int .i64 e1] 42)], [3])] Try.follows (by kernel_rfl) rfl hh (fun w hh => ?_)
  refine mc_q rfl rfl (AtE.of hh (by intro p hp; simp only [List.mem_cons, List.not_mem_nil, or_false] at hp; rcases hp with h | h <;> simp [h])) hf (y_lds Try.ag_41 rfl) (.inl rfl) rfl rfl ?_; clear hf a; intro a hf
  refine mc_q rfl rfl (AtE.of hh (by intro p hp; rw [List.mem_singleton.1 hp]; simp)) hf (y_ld Try.sc_42 rfl) (.inl rfl) rfl rfl ?_; clear hf a; intro a hf
  refine mc_e rfl fun Q1 => ?_
  refine o_store hf hh Try.sz_41 fun w hh => ?_
  refine ops_end ?_
  refine then_n ⟨⟨fun h => Bool.noConfusion (show true = false from h), fun _ _ => (AtE.of hh (by intro p hp; rw [List.mem_singleton.1 hp]; simp)), trivial⟩, ?_⟩
  refine mc_e rfl fun Q1 => ?_
  refine o_store hf hh Try.sz_42 fun w hh => ?_
  refine ops_end ?_
  refine then_n ⟨⟨fun h => Bool.noConfusion (show true = false from h), fun h => Bool.noConfusion (show true = false from h), trivial⟩, ?_⟩
  refine mc_end ?_
  refine then_n ?_
  refine sy_ret ?_
  replace hh : Hp u [] ((Bc, .cells #[.int .i64 0, .int .i64 0] 36) :: (Bv, .cells (prC pp sw cw sd dl.length cd) 97) :: (B5, .cells #[.int .i64 e1] 42) :: (B4, .cells #[.int .i64 p1, .int .i64 m1, .slice so1 n1 co1] 41) :: (B2, .cells (prC pp sw cw sd dl.length cd) 38) :: X1) w := hh
  exact ret_da (Ds := []) hf hh Try.en_31 (fun w' => d31r B5 w') fun w' hh => ⟨[.agg #[.int .i64 p1, .int .i64 m1, .slice so1 n1 co1], .int .i64 e1], ⟨⟨B4, 0, _, _, _, rfl, hh.at (i := 3) rfl, .inr ⟨3, _, Try.ag_41, rfl, rfl⟩⟩, ⟨B5, 0, _, _, _, rfl, hh.at (i := 2) rfl, .inl ⟨Try.sc_42, rfl⟩⟩, True.intro⟩, p1, m1, so1, n1, co1, e1, (Bc, .cells #[.int .i64 0, .int .i64 0] 36) :: X1, rfl, hfin, hh.less (.cons_cons _ (.cons _ (.cons _ (.cons _ (.cons _ (.refl _))))))⟩
end Go.Proofs.Ytccpgpnekoncoaa
namespace Go.RoyM
open Go Go.Sy
theorem iat_lit {w : World} {B : Nat} {l : List Int} {cs : Array Value} {T : TypeId} (h : w.heap[B]? = some (.cells cs T (0, 0))) (hc : cs.toList = ivs l) : IAt w (some ⟨B, 0, none⟩) l := fun i x hi => by
  refine ⟨B, 0, _, _, _, rfl, h, ?_⟩
  rw [Int.toNat_natCast, Nat.zero_add, Nat.mul_one, ← Array.getElem?_toList, hc]
  unfold ivs
  rw [List.getElem?_map, hi]; rfl
theorem iat_own {oa : Option Addr} {m c : Nat} {l : List Int} {X : List (Nat × Obj)} {w : World} (h : OwnSl 3 1 (.slice oa m c) m (ivs l) X) (hX : ∀ q ∈ X, w.heap[q.1]? = some q.2) : IAt w oa l := by
  obtain ⟨oa2, c2, e, _, h2⟩ := own_iat h hX
  cases e
  exact h2
theorem nvs_ivs (l : List Nat) : nvs l = ivs (l.map fun x => ((x : Nat) : Int)) := by unfold nvs ivs; rw [List.map_map]; rfl
theorem eq_take {a b : List Int} {i : Nat} {x y : Int} (h : a.take i = b.take i) (hx : a[i]? = some x) (hy : b[i]? = some y) (he : x = y) : a.take (i + 1) = b.take (i + 1) := by
  rw [List.take_add_one, List.take_add_one, h, hx, hy, he]
theorem ne_at {a b : List Int} {i : Nat} {x y : Int} (hx : a[i]? = some x) (hy : b[i]? = some y) (he : ¬ x = y) : ¬ a = b := fun h => by
  rw [h, hy] at hx
  exact he (by cases hx; rfl)
theorem sx_sV : splV 604 [334, 333, 333] = [202, 201, 201] := by kernel_rfl
theorem sx_sE : splE 604 [334, 333, 333] = 0 := by kernel_rfl
theorem sx_sV2 : splV 600 [334, 333, 333] = [200, 200, 200] := by kernel_rfl
theorem sx_sE2 : splE 600 [334, 333, 333] = 0 := by kernel_rfl
theorem sx_sV3 : splV 595 [334, 333, 333] = [199, 198, 198] := by kernel_rfl
theorem sx_sE3 : splE 595 [334, 333, 333] = 0 := by kernel_rfl
theorem sx_cW : comW ⟨20, 3, 30⟩ 99 6 = 148 := by kernel_rfl
theorem sx_cE : comE ⟨20, 3, 30⟩ 99 6 = 0 := by kernel_rfl
theorem sx_cW2 : comW ⟨20, 3, 30⟩ 99 4 = 89 := by kernel_rfl
theorem sx_cE2 : comE ⟨20, 3, 30⟩ 99 4 = 0 := by kernel_rfl
theorem sx_tA : twA smpR = (1, 0) := by kernel_rfl
theorem sx_tE : twE smpR = 0 := by kernel_rfl
theorem sx_clE : claE smpR 1 0 = 0 := by kernel_rfl
theorem sx_clV2 : claV smpR 0 0 = (15, 63) := by kernel_rfl
theorem sx_clE2 : claE smpR 0 0 = 0 := by kernel_rfl
theorem sx_oE : oweE smpR 0 = 0 := by kernel_rfl
theorem sx_oV2 : oweV smpR 1 = (49, 99) := by kernel_rfl
theorem sx_oE2 : oweE smpR 1 = 0 := by kernel_rfl
theorem sx_aE : allE smpR 0 = 0 := by kernel_rfl
theorem sx_gE : getE smpR 0 1 = 0 := by kernel_rfl
theorem sx_gV2 : getV smpR 0 0 = (199, 202) := by kernel_rfl
theorem sx_gE2 : getE smpR 0 0 = 0 := by kernel_rfl
end Go.RoyM
namespace Go.RoyM
open Go Go.Sy
theorem splE_zero {n : Int} {l : List Int} (h : splE n l = 0) : inI n 0 1099511627776 = true ∧ shB l = true := by
  unfold splE splB at h
  cases h1 : inI n 0 1099511627776 <;> cases h2 : shB l <;> simp [h1, h2] at h ⊢
theorem splE_no {n : Int} {l : List Int} (h : ¬ splE n l = 0) : splV n l = [] ∧ splE n l = 1 ∧ (n < 0 ∨ 1099511627776 < n ∨ shB l = false) := by
  have hB : splB n l = false := by
    unfold splE at h
    cases h1 : splB n l
    · rfl
    · rw [h1] at h; exact absurd rfl h
  obtain ⟨h1, h2⟩ := splV_no hB
  refine ⟨h1, h2, ?_⟩
  unfold splB at hB
  cases h3 : shB l
  · exact .inr (.inr rfl)
  · rw [h3, Bool.and_true] at hB
    unfold inI at hB
    simp only [Bool.and_eq_false_iff, decide_eq_false_iff_not] at hB
    omega
theorem OwnN.pos {oa : Option Addr} {cap : Nat} {l : List Int} {H : List (Nat × Obj)} (h : OwnN oa cap l H) (hl : 1 ≤ l.length) : ∃ B cur, oa = some ⟨B, 0, none⟩ ∧ cap = l.length ∧ H = [(B, .cells cur 3 (0, 0))] ∧ CF cur l.length (fun j => l.getD j 0) := by
  rcases h with ⟨_, _, rfl, _⟩ | h
  · simp at hl
  · exact h
/-- A part: its share, rounded down, and a penny of those that are left, or none. -/
theorem split_at {n : Int} {l : List Int} {j : Nat} (h : j < l.length) : (splitL n l).getD j 0 = flo n (l.getD j 0) + moreN n l j := by
  rw [split_get h]; rfl
theorem split_bd {n : Int} {l : List Int} (h0 : 0 ≤ n) (h1 : n ≤ 1099511627776) (hS : ShOk l) {j : Nat} (h : j < l.length) : 0 ≤ (splitL n l).getD j 0 ∧ (splitL n l).getD j 0 ≤ 1099511627777 := by
  rw [split_get h]; exact out_bd h0 h1 hS.bd _ h
theorem split_mem {n : Int} {l : List Int} (h0 : 0 ≤ n) (h1 : n ≤ 1099511627776) (hS : ShOk l) : ∀ x ∈ splitL n l, -1099511627777 ≤ x ∧ x ≤ 1099511627777 := fun x hx => by
  obtain ⟨j, hj⟩ := List.mem_iff_getElem?.1 hx
  have hl := len_of hj
  rw [split_len] at hl
  have := split_bd h0 h1 hS hl
  rw [getD_at hj] at this
  omega
theorem split_take {n : Int} {l : List Int} (h0 : 0 ≤ n) (h1 : n ≤ 1099511627776) (hS : ShOk l) (i : Nat) : -1099511627777000 ≤ sumI ((splitL n l).take i) ∧ sumI ((splitL n l).take i) ≤ 1099511627777000 := by
  have := take_bd (split_mem h0 h1 hS) (by omega) i (by rw [split_len]; have := hS.n2; omega)
  omega
theorem sum_takeD {l : List Int} {i : Nat} (h : i < l.length) : sumI (l.take (i + 1)) = sumI (l.take i) + l.getD i 0 := by
  obtain ⟨x, hx⟩ := ex_of h
  rw [sumI_take hx, getD_at hx]
/-- Of two parts the one with the greater remainder, or the first of two with the same, has no fewer pence. -/
theorem more_facts {n : Int} {l : List Int} {i k : Nat} (hi : i < l.length) (hk : k < i) : (remF n l i < remF n l k → moreN n l i ≤ moreN n l k) ∧ (remF n l k < remF n l i → moreN n l k ≤ moreN n l i) ∧ (remF n l k = remF n l i → moreN n l i ≤ moreN n l k) :=
  ⟨fun h => more_ord (by omega) hi (.inl h), fun h => more_ord hi (by omega) (.inl h), fun h => more_ord (by omega) hi (.inr ⟨h, hk⟩)⟩
end Go.RoyM
namespace Go.RoyM
open Go Go.Sy
theorem ivs_CF {cur : Array Value} {l : List Int} {m : Nat} (hm : m = l.length) (hs : m ≤ cur.size) (h : cur.toList.take (m * 1) = ivs l) : CF cur l.length (fun j => l.getD j 0) := by
  subst hm
  refine ⟨hs, fun j hj => ?_⟩
  obtain ⟨x, hx⟩ := ex_of hj
  have h1 : (ivs l)[j]? = some (.int .i64 x) := by unfold ivs; rw [List.getElem?_map, hx]; rfl
  rw [← h, Nat.mul_one, List.getElem?_take, if_pos hj] at h1
  rw [Int.toNat_natCast, Nat.zero_add, Nat.mul_one, ← Array.getElem?_toList, h1]
  dsimp only
  rw [getD_at hx]
theorem take_snoc {l : List Int} {i : Nat} {x : Int} (h : l[i]? = some x) (f : Int → Int) : ivs ((l.take (i + 1)).map f) = ivs ((l.take i).map f) ++ [.int .i64 (f x)] := by
  rw [List.take_add_one, h, List.map_append, ivs_app]; rfl
theorem floors_take (n : Int) (l : List Int) (i : Nat) : (floors n l).take i = (l.take i).map (flo n) := by unfold floors; rw [List.map_take]
theorem floD {n : Int} {l : List Int} {j : Nat} (h : j < l.length) : (l.map (flo n)).getD j 0 = flo n (l.getD j 0) := by simp [List.getD, h]
theorem rmdD {n : Int} {l : List Int} {j : Nat} (h : j < l.length) : (l.map (rmd n)).getD j 0 = rmd n (l.getD j 0) := by simp [List.getD, h]
theorem bestN_le (f : Nat → Int) : ∀ {i m : Nat}, i ≤ m → 0 < m → bestN f i < m
  | 0, m, _, h => h
  | i + 1, m, h, h0 => by
    rw [bestN]
    split
    · omega
    · exact bestN_le f (by omega) h0
theorem rest_bd (n : Int) (l : List Int) (k i : Nat) : -1 ≤ restF n l k i ∧ restF n l k i < 1000 := by
  have := rem_nn n l i
  unfold restF
  split <;> omega
end Go.RoyM
namespace Go.RoyM
open Go Go.Sy
theorem roy_no {d : RoyD} (h : RoyOk d → False) : royB d = false := Bool.eq_false_iff.2 fun e => h (royB_iff.1 e)
/-- Whether a report has a card. -/
def hasB (x : RepD) (k c : Int) : Bool := decide (x.kd = k) && inI c x.fi x.la
/-- The agents who claim a card, rising. -/
def claL (d : RoyD) (k c : Int) (n : Nat) : List Nat := (List.range n).filter fun g => d.reps.any fun x => decide (x.ag = (g : Int)) && hasB x k c
theorem claL_put {d : RoyD} {k c : Int} {n : Nat} (h : (d.reps.any fun x => decide (x.ag = (n : Int)) && hasB x k c) = true) : claL d k c (n + 1) = claL d k c n ++ [n] := by
  unfold claL
  rw [List.range_succ, List.filter_append]
  simp [h]
theorem claL_no {d : RoyD} {k c : Int} {n : Nat} (h : (d.reps.any fun x => decide (x.ag = (n : Int)) && hasB x k c) = false) : claL d k c (n + 1) = claL d k c n := by
  unfold claL
  rw [List.range_succ, List.filter_append]
  simp [h]
theorem any_take {α : Type} {l : List α} {i : Nat} {x : α} {f : α → Bool} (h : l[i]? = some x) : (l.take (i + 1)).any f = ((l.take i).any f || f x) := by
  rw [List.take_add_one, h, List.any_append]
  simp
theorem claL_eq (d : RoyD) (k : Int) (c : Nat) : claL d k c d.terms.length = (List.range d.terms.length).filter fun g => clmB d k g c := by
  unfold claL clmB hasB inI
  congr 1
  funext g
  congr 1
  funext x
  cases decide (x.ag = (g : Int)) <;> cases decide (x.kd = k) <;> rfl
theorem claL_len (d : RoyD) (k c : Int) (n : Nat) : (claL d k c n).length ≤ n := by
  unfold claL
  refine Nat.le_trans (List.length_filter_le _ _) ?_
  rw [List.length_range]; exact Nat.le_refl _
theorem claL_mem {d : RoyD} {k : Int} {c g : Nat} : g ∈ claL d k c d.terms.length ↔ g < d.terms.length ∧ clmB d k g c = true := by
  rw [claL_eq, List.mem_filter, List.mem_range]
theorem claL_nodup (d : RoyD) (k c : Int) (n : Nat) : (claL d k c n).Nodup := List.Nodup.sublist List.filter_sublist List.nodup_range
/-- The number with these bits. -/
def bitS (f : Nat → Bool) : Nat → Nat
  | 0 => 0
  | c + 1 => bitS f c + if f c then 2 ^ c else 0
theorem bitS_lt (f : Nat → Bool) : ∀ n, bitS f n < 2 ^ n
  | 0 => by simp [bitS]
  | n + 1 => by
    have ih := bitS_lt f n
    rw [bitS, Nat.pow_succ]
    split <;> omega
theorem bitS_bit (f : Nat → Bool) : ∀ (n i : Nat), (bitS f n).testBit i = (decide (i < n) && f i)
  | 0, i => by simp [bitS]
  | n + 1, i => by
    have ih := bitS_bit f n i
    have hl := bitS_lt f n
    rw [bitS]
    by_cases hf : f n = true
    · have e9 := Nat.two_pow_add_eq_or_of_lt hl 1
      rw [Nat.mul_one] at e9
      rw [if_pos hf, Nat.add_comm, e9, Nat.testBit_or, ih]
      by_cases hi : i = n
      · subst hi; simp [hf, Nat.testBit_two_pow_self]
      · rw [Nat.testBit_two_pow_of_ne (by omega), Bool.false_or, show decide (i < n + 1) = decide (i < n) from decide_eq_decide.2 (by omega)]
    · rw [if_neg hf, Nat.add_zero, ih]
      by_cases hi : i = n
      · subst hi; simp [hf]
      · rw [show decide (i < n + 1) = decide (i < n) from decide_eq_decide.2 (by omega)]
theorem bitS_of {x n : Nat} (h : x < 2 ^ n) : bitS x.testBit n = x := by
  apply Nat.eq_of_testBit_eq
  intro i
  rw [bitS_bit]
  by_cases hi : i < n
  · rw [decide_eq_true hi, Bool.true_and]
  · rw [decide_eq_false hi, Bool.false_and, Nat.testBit_lt_two_pow (Nat.lt_of_lt_of_le h (Nat.pow_le_pow_right (by omega) (by omega)))]
theorem surT_bit {d : RoyD} (k : Int) (g c : Nat) : ∀ h, (surT d k g h).testBit c = ((clm d k g).testBit c && (List.range h).all fun j => decide (j = g) || !(clm d k j).testBit c)
  | 0 => by simp [surT]
  | h + 1 => by
    have ih := surT_bit (d := d) k g c h
    rw [surT, List.range_succ, List.all_append]
    split
    · rename_i e
      subst e
      rw [ih]; simp
    · rename_i e
      rw [Nat.testBit_xor, Nat.testBit_and, ih]
      simp only [List.all_cons, List.all_nil, Bool.and_true, decide_eq_false e, Bool.false_or]
      cases (clm d k g).testBit c <;> cases (List.range h).all (fun j => decide (j = g) || !(clm d k j).testBit c) <;> cases (clm d k h).testBit c <;> simp [e]
/-- A card is surely an agent's if nobody else claims it. -/
def surB (d : RoyD) (k : Int) (g c : Nat) : Bool := clmB d k g c && decide ((claL d k c d.terms.length).length = 1)
theorem one_of {l : List Nat} (hn : l.Nodup) {g : Nat} (hg : g ∈ l) : l.length = 1 ↔ ∀ j ∈ l, j = g := by
  constructor
  · intro h j hj
    match l, h with
    | [x], _ => rw [List.mem_singleton.1 hj, List.mem_singleton.1 hg]
  · intro h
    match l, hn, hg with
    | [x], _, _ => rfl
    | x :: y :: l, hn, _ =>
      exfalso
      have h1 := h x (.head _)
      have h2 := h y (.tail _ (.head _))
      rw [List.nodup_cons] at hn
      exact hn.1 (by rw [h1, ← h2]; exact .head _)
theorem sur_bit {d : RoyD} (hO : RoyOk d) (k : Int) (g c : Nat) : (surN d k g).testBit c = surB d k g c := by
  unfold surN surB
  rw [surT_bit, clm_bit hO]
  cases hc : clmB d k g c
  · simp
  · rw [Bool.true_and, Bool.true_and]
    have hg : g ∈ claL d k c d.terms.length := claL_mem.2 ⟨clm_lt hO hc, hc⟩
    rw [Bool.eq_iff_iff, decide_eq_true_eq, one_of (claL_nodup _ _ _ _) hg, List.all_eq_true]
    constructor
    · intro h j hj
      obtain ⟨h1, h2⟩ := claL_mem.1 hj
      have h3 := h j (List.mem_range.2 (by have := hO.nt; omega))
      rw [clm_bit hO, h2] at h3
      simpa using h3
    · intro h j hj
      rw [clm_bit hO]
      cases h2 : clmB d k j c
      · simp
      · have := h j (claL_mem.2 ⟨clm_lt hO h2, h2⟩)
        simp [this]
theorem sur_lt {d : RoyD} (hO : RoyOk d) (k : Int) (g : Nat) : surN d k g < 4096 := Nat.lt_of_le_of_lt (surT_le d k g 4) (clm_lt12 hO k g)
theorem clm_sum {d : RoyD} (hO : RoyOk d) (k : Int) (g : Nat) : bitS (clmB d k g) 12 = clm d k g := by
  have h := bitS_of (x := clm d k g) (n := 12) (clm_lt12 hO k g)
  rwa [show (clm d k g).testBit = clmB d k g from funext fun c => clm_bit hO k g c] at h
theorem sur_sum {d : RoyD} (hO : RoyOk d) (k : Int) (g : Nat) : bitS (surB d k g) 12 = surN d k g := by
  have h := bitS_of (x := surN d k g) (n := 12) (sur_lt hO k g)
  rwa [show (surN d k g).testBit = surB d k g from funext fun c => sur_bit hO k g c] at h
theorem bitS_bd (f : Nat → Bool) {i n : Nat} (h : i ≤ n) : bitS f i < 2 ^ n := Nat.lt_of_lt_of_le (bitS_lt f i) (Nat.pow_le_pow_right (by omega) h)
/-- Whether two reports have a card in common, card by card. -/
theorem meet_iff {d : RoyD} {x y : RepD} (hx : RepOk d x) (hy : RepOk d y) : meetB x y = true ↔ ∃ c : Nat, c < 12 ∧ hasB x x.kd c = true ∧ hasB y x.kd c = true := by
  unfold meetB hasB inI
  have h1 := hx.f0; have h2 := hx.f1; have h3 := hx.l1; have h4 := hy.f0; have h5 := hy.f1; have h6 := hy.l1
  simp only [Bool.and_eq_true, decide_eq_true_eq, true_and]
  constructor
  · rintro ⟨h, hne⟩
    obtain ⟨c, hc⟩ := bit_of_ne hne
    rw [Nat.testBit_and, crd_bit hx, crd_bit hy] at hc
    simp only [Bool.and_eq_true, decide_eq_true_eq] at hc
    exact ⟨c, by omega, hc.1, h.symm, hc.2⟩
  · rintro ⟨c, hc, h7, h8, h9⟩
    refine ⟨h8.symm, fun h => ?_⟩
    have : (crd x &&& crd y).testBit c = true := by
      rw [Nat.testBit_and, crd_bit hx, crd_bit hy]
      simp only [Bool.and_eq_true, decide_eq_true_eq]
      exact ⟨h7, h9⟩
    rw [h, Nat.zero_testBit] at this
    cases this
theorem pc_half {x : Nat} (h : x < 18446744073709551616) : pc x = x % 2 + pc (x / 2) := pc_step h
end Go.RoyM
namespace Go.RoyM
open Go Go.Sy
/-- Numbers that are not less than nought lie in memory. -/
def NAt (w : World) (sa : Option Addr) (l : List Nat) : Prop :=
  ∀ i x, l[i]? = some x → ∃ blk off c T fr, sa = some ⟨blk, off, none⟩ ∧ w.heap[blk]? = some (.cells c T fr) ∧ c[off + ((i : Nat) : Int).toNat * 1]? = some (.int .i64 ((x : Nat) : Int))
theorem NAt.ext {w w' : World} {sa : Option Addr} {l : List Nat} (h : NAt w sa l) (e : Ext [] w w') : NAt w' sa l := fun i s hi =>
  let ⟨blk, off, c, T, fr, h1, h2, h3⟩ := h i s hi
  ⟨blk, off, c, T, fr, h1, e.get h2, h3⟩
theorem NAt.iat {w : World} {sa : Option Addr} {l : List Nat} (h : NAt w sa l) : IAt w sa (l.map fun x => ((x : Nat) : Int)) := fun i x hi => by
  rw [List.getElem?_map] at hi
  cases e : l[i]? with
  | none => rw [e] at hi; cases hi
  | some y => rw [e] at hi; cases hi; exact h i y e
theorem own_nat {v : Value} {m : Nat} {l : List Nat} {X : List (Nat × Obj)} {w : World} (h : OwnSl 3 1 v m (nvs l) X) (hX : ∀ q ∈ X, w.heap[q.1]? = some q.2) : ∃ oa cap, v = .slice oa m cap ∧ m = l.length ∧ NAt w oa l := by
  rw [nvs_ivs] at h
  obtain ⟨oa, cap, h1, h2, h3⟩ := own_iat h hX
  rw [List.length_map] at h2
  refine ⟨oa, cap, h1, h2, fun i x hi => h3 i ((x : Nat) : Int) (by rw [List.getElem?_map, hi]; rfl)⟩
/-- A weight for an element that has come. -/
def inW (l : List Nat) (g w i : Nat) : Nat := if g ∈ l.take i then w else 0
theorem take_in {l : List Nat} {i x g : Nat} (h : l[i]? = some x) : g ∈ l.take (i + 1) ↔ g ∈ l.take i ∨ g = x := by
  rw [List.take_add_one, h, List.mem_append]
  simp
theorem inW_zero (l : List Nat) (g w : Nat) : inW l g w 0 = 0 := by unfold inW; simp
theorem inW_hit {l : List Nat} (hn : l.Nodup) {i g : Nat} (h : l[i]? = some g) (w : Nat) : inW l g w (i + 1) = inW l g w i + w := by
  unfold inW
  rw [if_pos ((take_in h).2 (.inr rfl)), if_neg, Nat.zero_add]
  intro h1
  obtain ⟨j, hj⟩ := List.mem_iff_getElem?.1 h1
  rw [List.getElem?_take] at hj
  split at hj
  · have := (List.getElem?_inj (len_of hj) hn).1 (hj.trans h.symm)
    omega
  · cases hj
theorem inW_miss {l : List Nat} {i g x : Nat} (h : l[i]? = some x) (hne : ¬ x = g) (w : Nat) : inW l g w (i + 1) = inW l g w i := by
  unfold inW
  by_cases h1 : g ∈ l.take i
  · rw [if_pos h1, if_pos ((take_in h).2 (.inl h1))]
  · rw [if_neg h1, if_neg fun h2 => ((take_in h).1 h2).elim h1 fun e => hne e.symm]
theorem inW_all (l : List Nat) (g w : Nat) : inW l g w l.length = if g ∈ l then w else 0 := by unfold inW; rw [List.take_length]
theorem inW_le (l : List Nat) (g w i : Nat) : inW l g w i ≤ w := by unfold inW; split <;> omega
theorem clm_step {d : RoyD} {k : Int} {g : Nat} (hg : g < d.terms.length) (c : Nat) : bitS (clmB d k g) (c + 1) = bitS (clmB d k g) c + inW (claL d k c d.terms.length) g (2 ^ c) (claL d k c d.terms.length).length := by
  rw [inW_all, bitS]
  congr 1
  cases h : clmB d k g c
  · rw [if_neg (by decide), if_neg fun h1 => by rw [(claL_mem.1 h1).2] at h; cases h]
  · rw [if_pos rfl, if_pos (claL_mem.2 ⟨hg, h⟩)]
theorem sur_step {d : RoyD} {k : Int} {g : Nat} (hg : g < d.terms.length) (c : Nat) : bitS (surB d k g) (c + 1) = bitS (surB d k g) c + inW (claL d k c d.terms.length) g (if (claL d k c d.terms.length).length = 1 then 2 ^ c else 0) (claL d k c d.terms.length).length := by
  rw [inW_all, bitS]
  congr 1
  unfold surB
  cases h : clmB d k g c
  · rw [Bool.false_and, if_neg (by decide), if_neg fun h1 => by rw [(claL_mem.1 h1).2] at h; cases h]
  · rw [if_pos (claL_mem.2 ⟨hg, h⟩), Bool.true_and]
    by_cases h2 : (claL d k c d.terms.length).length = 1
    · rw [if_pos (decide_eq_true h2), if_pos h2]
    · rw [if_neg (by simpa using h2), if_neg h2]
end Go.RoyM
namespace Go.RoyM
open Go Go.Sy
theorem owe_bd {d : RoyD} (hO : RoyOk d) {g : Nat} (hg : g < d.terms.length) (F : Nat → Nat) (hF : ∀ k, F k ≤ 12) {i : Nat} (hi : i ≤ d.prices.length) : -5497558138880 ≤ sumI (-(d.paid.getD g 0) :: (List.range i).map fun k => comV (termN d g) (d.prices.getD k 0) (F k : Nat)) ∧ sumI (-(d.paid.getD g 0) :: (List.range i).map fun k => comV (termN d g) (d.prices.getD k 0) (F k : Nat)) ≤ 5497558138880 := by
  obtain ⟨t, ht⟩ := ex_of hg
  obtain ⟨pd, hpd⟩ := ex_of (l := d.paid) (i := g) (by have := hO.npd; omega)
  have hp := hO.pd pd (List.mem_of_getElem? hpd)
  rw [getD_at hpd, term_at ht]
  have h := sum_bd (b := 1099511627776) (l := -pd :: (List.range i).map fun k => comV t (d.prices.getD k 0) (F k : Nat)) (fun x hx => by
    rcases List.mem_cons.1 hx with rfl | hx
    · omega
    · obtain ⟨k, hk, rfl⟩ := List.mem_map.1 hx
      obtain ⟨pr, hpr⟩ := ex_of (l := d.prices) (i := k) (by have := List.mem_range.1 hk; omega)
      have hb := hO.p pr (List.mem_of_getElem? hpr)
      rw [getD_at hpr]
      have := com_bd (hO.t t (List.mem_of_getElem? ht)) hb.1 hb.2 (hF k)
      omega)
  have h4 := hO.np
  have h5 : (-pd :: (List.range i).map fun k => comV t (d.prices.getD k 0) (F k : Nat)).length = i + 1 := by simp
  rw [h5] at h
  omega
theorem low_sum {d : RoyD} {g i : Nat} {x : Int} (hx : d.prices[i]? = some x) : sumI (lowL d g (i + 1)) = sumI (lowL d g i) + comV (termN d g) x (pc (surN d i g) : Nat) := by
  rw [lowL_succ, sumI_app, getD_at hx]
  show _ + (0 + _) = _
  rw [Int.zero_add]
theorem hig_sum {d : RoyD} {g i : Nat} {x : Int} (hx : d.prices[i]? = some x) : sumI (higL d g (i + 1)) = sumI (higL d g i) + comV (termN d g) x (pc (clm d i g) : Nat) := by
  rw [higL_succ, sumI_app, getD_at hx]
  show _ + (0 + _) = _
  rw [Int.zero_add]
/-- The most parts of a sharing. -/
def mxN (l : List (List Int)) : Nat := l.foldl (fun m x => max m x.length) 0
theorem mx_take {l : List (List Int)} {i : Nat} {x : List Int} (h : l[i]? = some x) : mxN (l.take (i + 1)) = max (mxN (l.take i)) x.length := by
  unfold mxN
  rw [List.take_add_one, h, List.foldl_append]; rfl
theorem mx_fold : ∀ (l : List (List Int)) (m : Nat), m ≤ l.foldl (fun m x => max m x.length) m ∧ ∀ x ∈ l, x.length ≤ l.foldl (fun m x => max m x.length) m
  | [], m => ⟨Nat.le_refl _, by simp⟩
  | y :: l, m => by
    obtain ⟨h1, h2⟩ := mx_fold l (max m y.length)
    rw [List.foldl_cons]
    refine ⟨by omega, fun x hx => ?_⟩
    rcases List.mem_cons.1 hx with rfl | hx
    · omega
    · exact h2 x hx
def grB (d : RoyD) : Bool := decide (16 < d.terms.length) || (decide (16 < d.prices.length) || (decide (16 < d.shares.length) || (decide (60 < d.reps.length) || (decide (16 < d.paid.length) || decide (20 < mxN d.shares)))))
theorem gr_no {d : RoyD} (h : grB d = false) : d.terms.length ≤ 16 ∧ d.prices.length ≤ 16 ∧ d.shares.length ≤ 16 ∧ d.reps.length ≤ 60 ∧ d.paid.length ≤ 16 ∧ ∀ l ∈ d.shares, l.length ≤ 20 := by
  unfold grB at h
  simp only [Bool.or_eq_false_iff, decide_eq_false_iff_not] at h
  obtain ⟨h1, h2, h3, h4, h5, h6⟩ := h
  refine ⟨by omega, by omega, by omega, by omega, by omega, fun l hl => ?_⟩
  have h7 : l.length ≤ mxN d.shares := (mx_fold d.shares 0).2 l hl
  omega
/-- No two reports with a card in common so far, as the document looks for them. -/
theorem meet_no {d : RoyD} {x y : RepD} (hx : RepOk d x) (hy : RepOk d y) (h : ∀ c : Nat, c < 12 → ¬ (hasB x x.kd c = true ∧ hasB y x.kd c = true)) : meetB x y = false := Bool.eq_false_iff.2 fun e => by
  obtain ⟨c, hc, h1, h2⟩ := (meet_iff hx hy).1 e
  exact h c hc ⟨h1, h2⟩
end Go.RoyM
namespace Go.RoyM
open Go Go.Sy
def wsL (d : RoyD) (k : Int) : List Nat := (soldL d k).map Prod.snd
def csL (d : RoyD) (k : Int) : List Nat := (soldL d k).map Prod.fst
/-- The truths that go on from some agents. -/
def trB (m : Nat) (ws : List Nat) (b : List Nat) : List (List Nat) := (truA m (ws.drop b.length)).map (b ++ ·)
theorem trB_end {m : Nat} {ws b : List Nat} (h : b.length = ws.length) : trB m ws b = [b] := by
  unfold trB
  rw [h, List.drop_length]
  simp [truA]
def curB (m : Nat) (ws b : List Nat) (l : List Nat) (j : Nat) : List (List Nat) := (l.take j).flatMap fun g => trB m ws (b ++ [g])
theorem curB_zero (m : Nat) (ws b l : List Nat) : curB m ws b l 0 = [] := by unfold curB; simp
theorem curB_next {m : Nat} {ws b l : List Nat} {j g : Nat} (h : l[j]? = some g) : curB m ws b l (j + 1) = curB m ws b l j ++ trB m ws (b ++ [g]) := by
  unfold curB
  rw [List.take_add_one, h, List.flatMap_append]
  simp
theorem curB_all {m : Nat} {ws b : List Nat} {w : Nat} (h : ws[b.length]? = some w) : curB m ws b (clrL m w) (clrL m w).length = trB m ws b := by
  have hi := len_of h
  unfold curB trB
  rw [List.take_length, List.drop_eq_getElem_cons hi, (List.getElem?_eq_some_iff.1 h).2, truA, fm_map]
  congr 1
  funext g
  rw [List.map_map, List.length_append]
  show List.map (fun t => b ++ [g] ++ t) (truA m (List.drop (b.length + 1) ws)) = _
  congr 1
  funext t
  simp
theorem flatMap_len {α β : Type} {f : α → List β} {c : Nat} : ∀ {l : List α}, (∀ x ∈ l, (f x).length ≤ c) → (l.flatMap f).length ≤ l.length * c
  | [], _ => by simp
  | x :: l, h => by
    have h1 := h x (.head _)
    have h2 := flatMap_len (l := l) (f := f) (c := c) fun y hy => h y (.tail _ hy)
    rw [List.flatMap_cons, List.length_append, List.length_cons, Nat.succ_mul]
    omega
theorem tru_len {m : Nat} (hm : m ≤ 4) : ∀ ws : List Nat, (truA m ws).length ≤ 4 ^ ws.length
  | [] => by simp [truA]
  | w :: ws => by
    have ih := tru_len hm ws
    rw [truA, List.length_cons, Nat.pow_succ]
    have h1 := flatMap_len (l := clrL m w) (f := fun g => (truA m ws).map (g :: ·)) (c := 4 ^ ws.length) fun g _ => by rw [List.length_map]; exact ih
    have h2 : (clrL m w).length ≤ 4 := by
      unfold clrL
      refine Nat.le_trans (List.length_filter_le _ _) ?_
      rw [List.length_range]; exact hm
    have h3 : (clrL m w).length * 4 ^ ws.length ≤ 4 * 4 ^ ws.length := Nat.mul_le_mul_right _ h2
    omega
theorem trB_len {m : Nat} (hm : m ≤ 4) {ws b : List Nat} (hw : ws.length ≤ 12) : (trB m ws b).length ≤ 16777216 := by
  unfold trB
  rw [List.length_map]
  refine Nat.le_trans (tru_len hm _) ?_
  have : 4 ^ (ws.drop b.length).length ≤ 4 ^ 12 := Nat.pow_le_pow_right (by omega) (by rw [List.length_drop]; omega)
  exact this
theorem curB_len {m : Nat} {ws b : List Nat} {w : Nat} (h : ws[b.length]? = some w) (j : Nat) : (curB m ws b (clrL m w) j).length ≤ (trB m ws b).length := by
  rw [← curB_all h]
  unfold curB
  rw [List.take_length]
  have h1 : (clrL m w).flatMap (fun g => trB m ws (b ++ [g])) = ((clrL m w).take j).flatMap (fun g => trB m ws (b ++ [g])) ++ ((clrL m w).drop j).flatMap (fun g => trB m ws (b ++ [g])) := by
    rw [← List.flatMap_append, List.take_append_drop]
  rw [h1, List.length_append]
  omega
theorem trB_nil (m : Nat) (ws : List Nat) : trB m ws [] = truA m ws := by unfold trB; simp
theorem nvs_len (l : List Nat) : (nvs l).length = l.length := List.length_map _
theorem nvs_1c (l : List Nat) : (nvs l).all (·.oneCell') = true := by
  rw [List.all_eq_true]
  intro v hv
  obtain ⟨x, _, rfl⟩ := List.mem_map.1 hv
  rfl
theorem nvs_at {l : List Nat} {i x : Nat} (h : l[i]? = some x) : (nvs l)[i]? = some (.int .i64 ((x : Nat) : Int)) := by unfold nvs; rw [List.getElem?_map, h]; rfl
/-- The agents who claim a card that is sold. -/
theorem claW {d : RoyD} (hO : RoyOk d) {k : Int} {i c w : Nat} (hc : (csL d k)[i]? = some c) (hw : (wsL d k)[i]? = some w) : claL d k c d.terms.length = clrL d.terms.length w := by
  unfold csL at hc; unfold wsL at hw
  rw [List.getElem?_map] at hc hw
  cases e : (soldL d k)[i]? with
  | none => rw [e] at hc; cases hc
  | some y =>
    rw [e] at hc hw; cases hc; cases hw
    rw [(soldT_mem.1 (List.mem_of_getElem? e)).2.1, who_clr hO, claL_eq]
theorem cs_len (d : RoyD) (k : Int) : (csL d k).length = (wsL d k).length := by unfold csL wsL; rw [List.length_map, List.length_map]
theorem ws_len (d : RoyD) (k : Int) : (wsL d k).length ≤ 12 := by unfold wsL; rw [List.length_map]; exact sold_len d k
/-- Which cards are sold: those that somebody claims. -/
theorem sold_iff {d : RoyD} (hO : RoyOk d) (k : Int) (c : Nat) : whoN d k c = 0 ↔ (claL d k c d.terms.length).length = 0 := by
  rw [claL_eq]
  constructor
  · intro h
    rw [← who_clr hO, h]
    unfold clrL
    simp
  · intro h
    refine Decidable.byContradiction fun hn => ?_
    have := clr_ne hO hn
    rw [who_clr hO] at this
    exact this (List.eq_nil_of_length_eq_zero h)
def csT (d : RoyD) (k : Int) (n : Nat) : List Nat := (soldT d k n).map Prod.fst
theorem csT_put {d : RoyD} {k : Int} {c : Nat} (h : ¬ whoN d k c = 0) : csT d k (c + 1) = csT d k c ++ [c] := by
  unfold csT
  rw [soldT, if_neg h, List.map_append]; rfl
theorem csT_no {d : RoyD} {k : Int} {c : Nat} (h : whoN d k c = 0) : csT d k (c + 1) = csT d k c := by unfold csT; rw [soldT, if_pos h, List.append_nil]
theorem csT_len (d : RoyD) (k : Int) (n : Nat) : (csT d k n).length ≤ n := by unfold csT; rw [List.length_map]; exact soldT_len n
theorem Ext.over {u0 u w : World} {M : List Nat} (h : Ext [] u0 u) (h' : Ext M u w) (hM : ∀ x ∈ M, u0.heap.size ≤ x) : Ext [] u0 w := h.chain h' fun x hx => .inr (hM x hx)
/-- How many cards an agent sold. -/
def cntG (t : List Nat) (g : Nat) : Nat := t.count g
theorem cnt_get : ∀ (t : List Nat) (n : Cts) (g : Nat), g < 4 → (∀ x ∈ t, x < 4) → cget (cnt n t) g = cget n g + t.count g
  | [], n, g, _, _ => by simp [cnt]
  | x :: t, n, g, hg, h => by
    have ih := cnt_get t (cinc n x) g hg fun y hy => h y (.tail _ hy)
    have e : cnt n (x :: t) = cnt (cinc n x) t := rfl
    rw [e, ih, cget_inc (h x (.head _)) hg, List.count_cons]
    by_cases hx : g = x
    · subst hx; simp; omega
    · have h1 : (x == g) = false := by simpa using fun e => hx e.symm
      rw [if_neg hx, h1]; simp
theorem cnt_zero {t : List Nat} (h : ∀ x ∈ t, x < 4) {g : Nat} (hg : g < 4) : cget (cnt (0, 0, 0, 0) t) g = t.count g := by
  rw [cnt_get t _ g hg h]
  rcases (show g = 0 ∨ g = 1 ∨ g = 2 ∨ g = 3 by omega) with rfl | rfl | rfl | rfl <;> simp [cget]
theorem tot_cnt {d : RoyD} (x : Int) {t : List Nat} (h : ∀ x ∈ t, x < 4) : ∀ g, g ≤ 4 → totF d x (cnt (0, 0, 0, 0) t) g = sumI ((List.range g).map fun j => comV (termN d j) x (t.count j : Nat))
  | 0, _ => by simp [totF, sumI]
  | g + 1, hg => by
    rw [totF, tot_cnt x h g (by omega), cnt_zero h (by omega), List.range_succ, List.map_append, sumI_app]
    show _ = _ + (0 + _)
    rw [Int.zero_add]; rfl
theorem count_take {t : List Nat} {i x g : Nat} (h : t[i]? = some x) : (t.take (i + 1)).count g = (t.take i).count g + if x = g then 1 else 0 := by
  rw [List.take_add_one, h, List.count_append]
  by_cases hx : x = g
  · subst hx; simp
  · simp [hx]
theorem cards_cnt : ∀ (t : List Nat) (n : Cts), cardsN (cnt n t) = cardsN n + t.length
  | [], n => by simp [cnt]
  | x :: t, n => by
    have e : cnt n (x :: t) = cnt (cinc n x) t := rfl
    rw [e, cards_cnt t, cardsN_inc, List.length_cons]; omega
theorem tru_mem {m : Nat} : ∀ {ws t : List Nat}, t ∈ truA m ws → t.length = ws.length ∧ ∀ x ∈ t, x < m
  | [], t, h => by simp [truA] at h; subst h; simp
  | w :: ws, t, h => by
    rw [truA] at h
    obtain ⟨g, hg, h⟩ := List.mem_flatMap.1 h
    obtain ⟨s, hs, rfl⟩ := List.mem_map.1 h
    obtain ⟨h1, h2⟩ := tru_mem hs
    refine ⟨by rw [List.length_cons, List.length_cons, h1], fun x hx => ?_⟩
    rcases List.mem_cons.1 hx with rfl | hx
    · unfold clrL at hg
      exact List.mem_range.1 (List.mem_filter.1 hg).1
    · exact h2 x hx
end Go.RoyM
namespace Go.RoyM
open Go Go.Sy
/-- Lists of agents lie in memory, a slice for each. -/
def LsAt (w : World) (so : Option Addr) (L : List (List Nat)) : Prop :=
  ∀ i t, L[i]? = some t → ∃ blk off c T fr sb cb, so = some ⟨blk, off, none⟩ ∧ w.heap[blk]? = some (.cells c T fr) ∧ c[off + ((i : Nat) : Int).toNat * 1]? = some (.slice sb t.length cb) ∧ NAt w sb t
theorem LsAt.ext {w w' : World} {so : Option Addr} {L : List (List Nat)} (h : LsAt w so L) (e : Ext [] w w') : LsAt w' so L := fun i s hi =>
  let ⟨blk, off, c, T, fr, sb, cb, h1, h2, h3, h4⟩ := h i s hi
  ⟨blk, off, c, T, fr, sb, cb, h1, e.get h2, h3, h4.ext e⟩
theorem nat_off {w : World} {X : List (Nat × Obj)} {sb : Option Addr} {t : List Nat} (h : ValsOff w X sb (nvs t)) : NAt w sb t := fun i x hi => by
  rcases h with h | ⟨blk, off, c, T, fr, h1, _, h3, h4⟩
  · have := congrArg List.length h
    rw [nvs_len] at this
    have h2 := len_of hi
    simp at this
    rw [this] at h2; simp at h2
  · exact ⟨blk, off, c, T, fr, h1, h3, by rw [Int.toNat_natCast, Nat.mul_one]; exact h4 i _ (nvs_at hi)⟩
theorem ls_of {w : World} {v : Value} {L : List (List Nat)} {hs : List Value} {X : List (Nat × Obj)} (h : OwnSl 22 1 v L.length hs X) (hH : HdsAt nvs List.length w X hs L) (hX : ∀ q ∈ X, w.heap[q.1]? = some q.2) : ∃ so co, v = .slice so L.length co ∧ LsAt w so L := by
  rcases h.2 with ⟨h1, h2, _⟩ | ⟨B, cap, cur, h1, h2, _, _, h5, h6⟩
  · refine ⟨none, 0, by rw [h1, h2], fun i t hi => ?_⟩
    have := len_of hi
    omega
  · refine ⟨_, _, h1, fun i t hi => ?_⟩
    obtain ⟨sb, cb, h7, h8⟩ := hH.2 i t hi
    refine ⟨B, 0, cur, 22, (0, 0), sb, cb, rfl, hX (B, .cells cur 22 (0, 0)) (by rw [h2]; exact .head _), ?_, nat_off h8⟩
    have hl := len_of hi
    rw [← h6, Nat.mul_one, List.getElem?_take, if_pos (by omega)] at h7
    rw [Int.toNat_natCast, Nat.zero_add, Nat.mul_one, ← Array.getElem?_toList]
    exact h7
theorem nat_own {oa : Option Addr} {m c : Nat} {l : List Nat} {X : List (Nat × Obj)} {w : World} (h : OwnSl 3 1 (.slice oa m c) m (nvs l) X) (hX : ∀ q ∈ X, w.heap[q.1]? = some q.2) : NAt w oa l := by
  obtain ⟨oa2, c2, e, _, h2⟩ := own_nat h hX
  cases e
  exact h2
def truL (d : RoyD) (k : Int) : List (List Nat) := truA d.terms.length (wsL d k)
def totF2 (d : RoyD) (x : Int) (t : List Nat) : Int := totV d x (cnt (0, 0, 0, 0) t)
theorem tru_facts {d : RoyD} (hO : RoyOk d) {k : Int} {t : List Nat} (h : t ∈ truL d k) : t.length ≤ 12 ∧ (∀ x ∈ t, x < 4) ∧ t.length = (wsL d k).length := by
  obtain ⟨h1, h2⟩ := tru_mem h
  have := ws_len d k
  have hn := hO.nt
  exact ⟨by omega, fun x hx => by have := h2 x hx; omega, h1⟩
theorem truL_ne {d : RoyD} (hO : RoyOk d) (k : Int) : truL d k ≠ [] := truA_ne (sold_some hO k)
theorem truL_len {d : RoyD} (hO : RoyOk d) (k : Int) : 1 ≤ (truL d k).length ∧ (truL d k).length ≤ 16777216 := by
  have h1 := List.length_pos_iff.2 (truL_ne hO k)
  have h2 := tru_len hO.nt (wsL d k)
  have h3 : 4 ^ (wsL d k).length ≤ 4 ^ 12 := Nat.pow_le_pow_right (by omega) (ws_len d k)
  exact ⟨h1, Nat.le_trans h2 h3⟩
theorem reach_map (d : RoyD) (k : Int) (f : Cts → Int) : (reachL d k).map f = (truL d k).map fun t => f (cnt (0, 0, 0, 0) t) := by
  rw [reachL_tru, List.map_map]; rfl
theorem lo_with {c : Int} {l : List Int} (hn : l ≠ []) (h : ∃ y ∈ l, y ≤ c) : loL (c :: l) = loL l := by
  obtain ⟨h1, h2⟩ := loL_spec hn
  refine lo_uniq (.tail _ h1) fun y hy => ?_
  rcases List.mem_cons.1 hy with rfl | hy
  · obtain ⟨z, hz, hzc⟩ := h
    exact Int.le_trans (h2 z hz) hzc
  · exact h2 y hy
theorem hi_with {c : Int} {l : List Int} (hn : l ≠ []) (h : ∃ y ∈ l, c ≤ y) : hiL (c :: l) = hiL l := by
  obtain ⟨h1, h2⟩ := hiL_spec hn
  refine hi_uniq (.tail _ h1) fun y hy => ?_
  rcases List.mem_cons.1 hy with rfl | hy
  · obtain ⟨z, hz, hzc⟩ := h
    exact Int.le_trans hzc (h2 z hz)
  · exact h2 y hy
theorem map_take {α : Type} {L : List α} {i : Nat} {t : α} (h : L[i]? = some t) (f : α → Int) (c : Int) : c :: (L.take (i + 1)).map f = (c :: (L.take i).map f) ++ [f t] := by
  rw [List.take_add_one, h, List.map_append]; rfl
/-- The first of those with the least. -/
def BestAt (f : List Nat → Int) (L : List (List Nat)) (i b : Nat) (tb : List Nat) : Prop :=
  L[b]? = some tb ∧ (∀ j t, j < i → L[j]? = some t → f tb ≤ f t) ∧ ∀ j t, j < b → L[j]? = some t → f tb < f t
theorem BestAt.keep {f : List Nat → Int} {L : List (List Nat)} {i b : Nat} {tb t : List Nat} (h : BestAt f L i b tb) (hi : L[i]? = some t) (hn : ¬ f t < f tb) : BestAt f L (i + 1) b tb :=
  ⟨h.1, fun j t' hj h' => by
    rcases (show j < i ∨ j = i by omega) with h1 | h1
    · exact h.2.1 j t' h1 h'
    · subst h1; rw [hi] at h'; cases h'; omega, h.2.2⟩
theorem BestAt.turn {f : List Nat → Int} {L : List (List Nat)} {i b : Nat} {tb t : List Nat} (h : BestAt f L i b tb) (hi : L[i]? = some t) (hn : f t < f tb) : BestAt f L (i + 1) i t :=
  ⟨hi, fun j t' hj h' => by
    rcases (show j < i ∨ j = i by omega) with h1 | h1
    · have := h.2.1 j t' h1 h'; omega
    · subst h1; rw [hi] at h'; cases h'; exact Int.le_refl _, fun j t' hj h' => by have := h.2.1 j t' hj h'; omega⟩
theorem BestAt.find {f : List Nat → Int} {L : List (List Nat)} {b : Nat} {tb : List Nat} (h : BestAt f L L.length b tb) : L.find? (fun t => decide (f t ≤ loL (L.map f))) = some tb := by
  have hb := len_of h.1
  have hne : L.map f ≠ [] := by
    intro e
    have := congrArg List.length e
    simp at this
    rw [this] at hb; simp at hb
  obtain ⟨h1, h2⟩ := loL_spec hne
  have hv : loL (L.map f) = f tb := by
    obtain ⟨t, ht, e⟩ := List.mem_map.1 h1
    obtain ⟨j, hj⟩ := List.mem_iff_getElem?.1 ht
    have h3 := h.2.1 j t (len_of hj) hj
    have h4 := h2 (f tb) (List.mem_map.2 ⟨tb, List.mem_of_getElem? h.1, rfl⟩)
    omega
  rw [hv, List.find?_eq_some_iff_getElem]
  refine ⟨by simp, b, hb, (List.getElem?_eq_some_iff.1 h.1).2, fun j hj => ?_⟩
  have h5 := h.2.2 j (L[j]'(by omega)) hj (List.getElem?_eq_getElem (by omega))
  simp only [Bool.not_eq_true', decide_eq_false_iff_not]
  omega
theorem lea_best {d : RoyD} (hO : RoyOk d) {k : Int} {b : Nat} {tb : List Nat} (h : BestAt (totF2 d (priceN d k)) (truL d k) (truL d k).length b tb) : leastL d (priceN d k) (wsL d k) (0, 0, 0, 0) = tb := by
  have h1 := leastL_first d (priceN d k) (wsL d k) (0, 0, 0, 0) (sold_some hO k)
  rw [least_tru d (priceN d k) (wsL d k) (0, 0, 0, 0) (sold_some hO k)] at h1
  have h2 := h.find
  have h3 : some (leastL d (priceN d k) (wsL d k) (0, 0, 0, 0)) = some tb := h1.symm.trans h2
  exact Option.some.inj h3
theorem part_bd {n : Int} {l : List Int} (h0 : 0 ≤ n) (h1 : n ≤ 12582912) (hS : ShOk l) {j : Nat} (h : j < l.length) : 0 ≤ (splitL n l).getD j 0 ∧ (splitL n l).getD j 0 ≤ 12582913 := by
  rw [split_at h]
  obtain ⟨s, hj⟩ := ex_of h
  rw [getD_at hj]
  have hs := hS.bd s (List.mem_of_getElem? hj)
  have h2 : n * s ≤ n * 1000 := Int.mul_le_mul_of_nonneg_left hs.2 h0
  have h3 : 0 ≤ n * s := Int.mul_nonneg h0 hs.1
  have h4 := more_01 n l j
  unfold flo
  omega
theorem openE_and {d : RoyD} {a b : Bool} : openE d (a && b) = if openE d a = 0 then (if b = false then 2 else 0) else openE d a := by
  unfold openE
  cases royB d <;> cases a <;> cases b <;> simp
end Go.RoyM
namespace Go.RoyM
open Go Go.Sy
/-- A truth: for each card one of those who claim it. -/
theorem tru_of {m : Nat} : ∀ {ws t : List Nat}, t.length = ws.length → (∀ (i g w : Nat), t[i]? = some g → ws[i]? = some w → g ∈ clrL m w) → t ∈ truA m ws
  | [], t, h, _ => by
    rw [List.length_nil] at h
    rw [List.eq_nil_of_length_eq_zero h]; simp [truA]
  | w :: ws, [], h, _ => by simp at h
  | w :: ws, g :: t, h, hg => by
    rw [truA]
    refine List.mem_flatMap.2 ⟨g, hg 0 g w rfl rfl, List.mem_map.2 ⟨t, tru_of (by simpa using h) fun i x y hx hy => hg (i + 1) x y hx hy, rfl⟩⟩
theorem tru_at {m : Nat} : ∀ {ws t : List Nat}, t ∈ truA m ws → ∀ {i g w : Nat}, t[i]? = some g → ws[i]? = some w → g ∈ clrL m w
  | [], t, h, i, g, w, _, hw => by simp at hw
  | w0 :: ws, t, h, i, g, w, hg, hw => by
    rw [truA] at h
    obtain ⟨g0, hg0, h⟩ := List.mem_flatMap.1 h
    obtain ⟨s, hs, rfl⟩ := List.mem_map.1 h
    match i, hg, hw with
    | 0, hg, hw => cases hg; cases hw; exact hg0
    | i + 1, hg, hw => exact tru_at hs (by simpa using hg) (by simpa using hw)
/-- One list comes before another one. -/
def lexlt (t s : List Nat) : Prop := ∃ (i a b : Nat), (∀ j : Nat, j < i → t[j]? = s[j]?) ∧ t[i]? = some a ∧ s[i]? = some b ∧ a < b
theorem lexlt_cons {g : Nat} {t s : List Nat} (h : lexlt t s) : lexlt (g :: t) (g :: s) := by
  obtain ⟨i, a, b, h1, h2, h3, h4⟩ := h
  refine ⟨i + 1, a, b, fun j hj => ?_, h2, h3, h4⟩
  match j with
  | 0 => rfl
  | j + 1 => exact h1 j (by omega)
theorem clr_sorted (m w : Nat) : (clrL m w).Pairwise (fun a b : Nat => a < b) := List.pairwise_lt_range.sublist List.filter_sublist
theorem tru_sorted (m : Nat) : ∀ ws : List Nat, (truA m ws).Pairwise lexlt
  | [] => by simp [truA]
  | w :: ws => by
    have ih := tru_sorted m ws
    rw [truA, List.pairwise_flatMap]
    refine ⟨fun g _ => List.pairwise_map.2 (ih.imp lexlt_cons), (clr_sorted m w).imp fun {a b} hab x hx y hy => ?_⟩
    obtain ⟨t, _, rfl⟩ := List.mem_map.1 hx
    obtain ⟨s, _, rfl⟩ := List.mem_map.1 hy
    exact ⟨0, a, b, fun j hj => absurd hj (by omega), rfl, rfl, hab⟩
/-- The first one that is found comes before all others that would do. -/
theorem find_lex {L : List (List Nat)} (hs : L.Pairwise lexlt) {p : List Nat → Bool} {b t : List Nat} (h : L.find? p = some b) (ht : t ∈ L) (hp : p t = true) : t = b ∨ lexlt b t := by
  rw [List.find?_eq_some_iff_append] at h
  obtain ⟨_, l1, l2, rfl, h3⟩ := h
  rcases List.mem_append.1 ht with h4 | h4
  · have := h3 t h4
    rw [hp] at this; simp at this
  · rcases List.mem_cons.1 h4 with h5 | h5
    · exact .inl h5
    · right
      rw [List.pairwise_append, List.pairwise_cons] at hs
      exact hs.2.1.1 t h5
theorem lea_mem {d : RoyD} (hO : RoyOk d) (k : Int) : leastL d (priceN d k) (wsL d k) (0, 0, 0, 0) ∈ truL d k :=
  List.mem_of_find?_eq_some (leastL_first d (priceN d k) (wsL d k) (0, 0, 0, 0) (sold_some hO k))
theorem lea_lo {d : RoyD} (hO : RoyOk d) (k : Int) : totF2 d (priceN d k) (leastL d (priceN d k) (wsL d k) (0, 0, 0, 0)) = loL ((reachL d k).map (totV d (priceN d k))) := by
  have h1 := leastL_first d (priceN d k) (wsL d k) (0, 0, 0, 0) (sold_some hO k)
  have h2 := List.find?_some h1
  have h3 := of_decide_eq_true h2
  rw [least_tru d (priceN d k) (wsL d k) (0, 0, 0, 0) (sold_some hO k)] at h3
  rw [reach_map]
  have hne : (truL d k).map (fun t => totV d (priceN d k) (cnt (0, 0, 0, 0) t)) ≠ [] := by simpa using truL_ne hO k
  have h4 := (loL_spec hne).2 _ (List.mem_map.2 ⟨_, lea_mem hO k, rfl⟩)
  exact Int.le_antisymm h3 h4
theorem lea_first {d : RoyD} (hO : RoyOk d) {k : Int} {t : List Nat} (ht : t ∈ truL d k) (hl : totF2 d (priceN d k) t = loL ((reachL d k).map (totV d (priceN d k)))) : t = leastL d (priceN d k) (wsL d k) (0, 0, 0, 0) ∨ lexlt (leastL d (priceN d k) (wsL d k) (0, 0, 0, 0)) t := by
  have h1 := leastL_first d (priceN d k) (wsL d k) (0, 0, 0, 0) (sold_some hO k)
  refine find_lex (tru_sorted _ _) h1 ht (decide_eq_true ?_)
  rw [least_tru d (priceN d k) (wsL d k) (0, 0, 0, 0) (sold_some hO k)]
  rw [reach_map] at hl
  exact Int.le_of_eq hl
/-- What all agents have in a truth lies within the span. -/
theorem tru_span {d : RoyD} {k : Int} {t : List Nat} (ht : t ∈ truL d k) : loL ((reachL d k).map (totV d (priceN d k))) ≤ totF2 d (priceN d k) t ∧ totF2 d (priceN d k) t ≤ hiL ((reachL d k).map (totV d (priceN d k))) := by
  rw [reach_map]
  have hm : totF2 d (priceN d k) t ∈ (truL d k).map (fun t => totV d (priceN d k) (cnt (0, 0, 0, 0) t)) := List.mem_map.2 ⟨t, ht, rfl⟩
  exact ⟨(loL_spec (List.ne_nil_of_mem hm)).2 _ hm, (hiL_spec (List.ne_nil_of_mem hm)).2 _ hm⟩
/-- Where two lists differ first. -/
theorem lex_at {b t : List Nat} (h : lexlt b t) {i x y : Nat} (hx : b[i]? = some x) (hy : t[i]? = some y) (hne : ¬ y = x) (hp : ∀ j, j < i → b[j]? = t[j]?) : x < y := by
  obtain ⟨i0, p, q, h1, h2, h3, h4⟩ := h
  rcases (show i0 < i ∨ i0 = i ∨ i < i0 by omega) with h5 | h5 | h5
  · have := hp i0 h5
    rw [h2, h3] at this
    cases this; omega
  · subst h5; rw [h2] at hx; rw [h3] at hy; cases hx; cases hy; exact h4
  · have := h1 i h5
    rw [hx, hy] at this
    cases this; exact absurd rfl hne
theorem leaV_ok {d : RoyD} {k : Int} (he : allE d k = 0) : leaV d k = leastL d (priceN d k) (wsL d k) (0, 0, 0, 0) := by unfold leaV; rw [if_pos he]; rfl
theorem allV_ok {d : RoyD} {k : Int} (he : allE d k = 0) : allV d k = (loL ((reachL d k).map (totV d (priceN d k))), hiL ((reachL d k).map (totV d (priceN d k)))) := by unfold allV; rw [if_pos he]
theorem allE_facts {d : RoyD} {k : Int} (he : ¬ allE d k = 0) : leaV d k = [] ∧ allV d k = (0, 0) ∧ ((allE d k = 1 ∧ royB d = false) ∨ (allE d k = 2 ∧ royB d = true)) := by
  refine ⟨by unfold leaV; rw [if_neg he], by unfold allV; rw [if_neg he], ?_⟩
  unfold allE openE at he ⊢
  cases h1 : royB d
  · exact .inl ⟨rfl, rfl⟩
  · cases h2 : isKd d k
    · exact .inr ⟨rfl, rfl⟩
    · rw [h1, h2] at he; exact absurd rfl he
/-- Bytes lie in memory. -/
def BAt (w : World) (sa : Option Addr) (l : List Int) : Prop :=
  ∀ i x, l[i]? = some x → ∃ blk off c T fr, sa = some ⟨blk, off, none⟩ ∧ w.heap[blk]? = some (.cells c T fr) ∧ c[off + ((i : Nat) : Int).toNat * 1]? = some (.int .u8 x)
theorem BAt.ext {w w' : World} {sa : Option Addr} {l : List Int} (h : BAt w sa l) (e : Ext [] w w') : BAt w' sa l := fun i s hi =>
  let ⟨blk, off, c, T, fr, h1, h2, h3⟩ := h i s hi
  ⟨blk, off, c, T, fr, h1, e.get h2, h3⟩
/-- A truth so far. -/
def TruT (m : Nat) (ws t : List Nat) (i : Nat) : Prop := t.length = i ∧ ∀ (j g w : Nat), t[j]? = some g → ws[j]? = some w → g ∈ clrL m w
theorem TruT.zero (m : Nat) (ws : List Nat) : TruT m ws [] 0 := ⟨rfl, fun j g w h => by simp at h⟩
theorem TruT.put {m : Nat} {ws t : List Nat} {i g w : Nat} (h : TruT m ws t i) (hw : ws[i]? = some w) (hg : g ∈ clrL m w) : TruT m ws (t ++ [g]) (i + 1) := by
  refine ⟨by rw [List.length_append, h.1]; rfl, fun j g' w' h1 h2 => ?_⟩
  rw [List.getElem?_append] at h1
  split at h1
  · exact h.2 j g' w' h1 h2
  · rename_i hj
    have hjl : j = i := by
      have := h.1
      have h3 := len_of h1
      simp at h3; omega
    subst hjl
    rw [h.1, Nat.sub_self] at h1
    rw [hw] at h2
    cases h1; cases h2; exact hg
theorem TruT.done {m : Nat} {ws t : List Nat} (h : TruT m ws t ws.length) : t ∈ truA m ws := tru_of h.1 h.2
end Go.RoyM
namespace Go.RoyM
open Go Go.Sy
/-- Whether two reports meet, by their ends. -/
def endB (x y : RepD) : Bool := decide (x.kd = y.kd) && decide (x.fi ≤ y.la) && decide (y.fi ≤ x.la)
theorem end_meet {d : RoyD} {x y : RepD} (hx : RepOk d x) (hy : RepOk d y) : endB x y = meetB x y := by
  have h1 := hx.f0; have h2 := hx.f1; have h3 := hx.l1; have h4 := hy.f0; have h5 := hy.f1; have h6 := hy.l1
  rw [Bool.eq_iff_iff, meet_iff hx hy]
  unfold endB hasB inI
  simp only [Bool.and_eq_true, decide_eq_true_eq, true_and]
  constructor
  · rintro ⟨⟨e, h7⟩, h8⟩
    refine ⟨(max x.fi y.fi).toNat, by omega, ⟨by omega, by omega⟩, e.symm, by omega, by omega⟩
  · rintro ⟨c, hc, h7, e, h8⟩
    exact ⟨⟨e.symm, by omega⟩, by omega⟩
def NoMeet (d : RoyD) : Prop := ∀ (i j : Nat) (x y : RepD), j < i → d.reps[i]? = some x → d.reps[j]? = some y → meetB x y = false
theorem no_two {d : RoyD} (hO : RoyOk d) (hn : NoMeet d) {k : Int} {a b c : Nat} (ha : clmB d k a c = true) (hb : clmB d k b c = true) : a = b := by
  unfold clmB at ha hb
  obtain ⟨x, hx, h1⟩ := List.any_eq_true.1 ha
  obtain ⟨y, hy, h2⟩ := List.any_eq_true.1 hb
  simp only [Bool.and_eq_true, decide_eq_true_eq] at h1 h2
  have hxo := hO.r x hx
  have hyo := hO.r y hy
  have hc12 : c < 12 := by have := hxo.l1; omega
  obtain ⟨i, hi⟩ := List.mem_iff_getElem?.1 hx
  obtain ⟨j, hj⟩ := List.mem_iff_getElem?.1 hy
  have key : ∀ {x y : RepD}, RepOk d x → RepOk d y → (x.kd = k ∧ x.fi ≤ c ∧ (c : Int) ≤ x.la) → (y.kd = k ∧ y.fi ≤ c ∧ (c : Int) ≤ y.la) → meetB x y = true := fun {x y} hxo hyo h1 h2 => by
    rw [meet_iff hxo hyo]
    refine ⟨c, hc12, ?_, ?_⟩
    · unfold hasB inI; simp only [Bool.and_eq_true, decide_eq_true_eq, true_and]; exact ⟨h1.2.1, h1.2.2⟩
    · unfold hasB inI; simp only [Bool.and_eq_true, decide_eq_true_eq]; exact ⟨by rw [h1.1, h2.1], h2.2.1, h2.2.2⟩
  rcases (show j < i ∨ j = i ∨ i < j by omega) with h | h | h
  · have h3 := hn i j x y h hi hj
    rw [key hxo hyo ⟨h1.1.1, h1.2⟩ ⟨h2.1.1, h2.2⟩] at h3; cases h3
  · subst h
    rw [hi] at hj; cases hj
    have := h1.1.2; have := h2.1.2; omega
  · have h3 := hn j i y x h hj hi
    rw [key hyo hxo ⟨h2.1.1, h2.2⟩ ⟨h1.1.1, h1.2⟩] at h3; cases h3
theorem sur_clm {d : RoyD} (hO : RoyOk d) (hn : NoMeet d) (k : Int) (g : Nat) : surN d k g = clm d k g := by
  apply Nat.eq_of_testBit_eq
  intro c
  rw [sur_bit hO, clm_bit hO]
  unfold surB
  cases hc : clmB d k g c
  · rfl
  · rw [Bool.true_and, decide_eq_true_eq, one_of (claL_nodup _ _ _ _) (claL_mem.2 ⟨clm_lt hO hc, hc⟩)]
    exact fun j hj => no_two hO hn (claL_mem.1 hj).2 hc
/-- The cards that the first agents claim. -/
def orC (d : RoyD) (k : Int) : Nat → Nat
  | 0 => 0
  | g + 1 => orC d k g ||| clm d k g
theorem orC_bit {d : RoyD} (k : Int) (c : Nat) : ∀ g, (orC d k g).testBit c = true → ∃ j, j < g ∧ (clm d k j).testBit c = true
  | 0, h => by simp [orC] at h
  | g + 1, h => by
    rw [orC, Nat.testBit_or, Bool.or_eq_true] at h
    rcases h with h | h
    · obtain ⟨j, hj, h1⟩ := orC_bit k c g h
      exact ⟨j, by omega, h1⟩
    · exact ⟨g, by omega, h⟩
theorem orC_lt {d : RoyD} (hO : RoyOk d) (k : Int) : ∀ g, orC d k g < 4096
  | 0 => by simp [orC]
  | g + 1 => or_lt (orC_lt hO k g) (clm_lt12 hO k g)
theorem orC_and {d : RoyD} (hO : RoyOk d) (hn : NoMeet d) (k : Int) (g : Nat) : orC d k g &&& clm d k g = 0 := by
  apply Nat.eq_of_testBit_eq
  intro c
  rw [Nat.testBit_and, Nat.zero_testBit]
  cases h1 : (orC d k g).testBit c
  · rfl
  · cases h2 : (clm d k g).testBit c
    · rfl
    · obtain ⟨j, hj, h3⟩ := orC_bit k c g h1
      rw [clm_bit hO] at h2 h3
      have := no_two hO hn h2 h3
      omega
theorem tru_one {m : Nat} : ∀ {ws : List Nat}, (∀ w ∈ ws, (clrL m w).length = 1) → (truA m ws).length = 1
  | [], _ => by simp [truA]
  | w :: ws, h => by
    have ih := tru_one (m := m) (ws := ws) fun x hx => h x (.tail _ hx)
    have h1 := h w (.head _)
    obtain ⟨g, hg⟩ : ∃ g, clrL m w = [g] := by
      match hl : clrL m w, h1 with
      | [g], _ => exact ⟨g, rfl⟩
    rw [truA, hg, List.flatMap_cons, List.flatMap_nil, List.append_nil, List.length_map, ih]
theorem all_one {d : RoyD} (hO : RoyOk d) (hn : NoMeet d) {k : Int} (he : allE d k = 0) : ∃ z, allV d k = (z, z) := by
  have h1 : (truL d k).length = 1 := tru_one fun w hw => by
    have h0 := sold_some hO k w hw
    unfold wsL at hw
    obtain ⟨y, hy, e⟩ := List.mem_map.1 hw
    obtain ⟨_, h3, _⟩ := soldT_mem.1 hy
    subst e
    rw [h3, who_clr hO] at h0 ⊢
    obtain ⟨g, hg⟩ := List.exists_mem_of_ne_nil _ h0
    have hnd : ((List.range d.terms.length).filter fun g => clmB d k g y.1).Nodup := List.Nodup.sublist List.filter_sublist List.nodup_range
    rw [one_of hnd hg]
    intro j hj
    exact no_two hO hn (List.mem_filter.1 hj).2 (List.mem_filter.1 hg).2
  obtain ⟨t, ht⟩ : ∃ t, truL d k = [t] := by
    match hl : truL d k, h1 with
    | [t], _ => exact ⟨t, rfl⟩
  refine ⟨totV d (priceN d k) (cnt (0, 0, 0, 0) t), ?_⟩
  rw [allV_ok he, reach_map, ht]; rfl
theorem openE_z {d : RoyD} {b : Bool} : openE d b = 0 ↔ royB d = true ∧ b = true := by
  unfold openE
  cases royB d <;> cases b <;> simp
theorem claV_ok {d : RoyD} (hO : RoyOk d) {g k : Nat} (hg : g < d.terms.length) (hk : k < d.prices.length) : claE d g k = 0 ∧ claV d g k = (surN d k g, clm d k g) := by
  have h1 : isAg d g = true := by unfold isAg inI; simp only [Bool.and_eq_true, decide_eq_true_eq]; omega
  have h2 : isKd d k = true := by unfold isKd inI; simp only [Bool.and_eq_true, decide_eq_true_eq]; omega
  have h3 : claE d g k = 0 := openE_z.2 ⟨royB_iff.2 hO, by rw [h1, h2]; rfl⟩
  exact ⟨h3, by unfold claV; rw [if_pos h3]; rfl⟩
theorem allE_ok {d : RoyD} (hO : RoyOk d) {k : Nat} (hk : k < d.prices.length) : allE d k = 0 := by
  have h2 : isKd d k = true := by unfold isKd inI; simp only [Bool.and_eq_true, decide_eq_true_eq]; omega
  exact openE_z.2 ⟨royB_iff.2 hO, h2⟩
theorem lea_cs {d : RoyD} (hO : RoyOk d) {k : Int} (he : allE d k = 0) : (leaV d k).length = (csL d k).length := by
  rw [leaV_ok he, cs_len]
  exact (tru_facts hO (lea_mem hO k)).2.2
theorem tw_none {d : RoyD} (hO : RoyOk d) (h0 : twF d.reps d.reps.length = none) : twA d = (0, 0) ∧ twE d = 4 := by
  have htw : twV d = none := by unfold twV; rw [royB_iff.2 hO, if_pos rfl]; exact h0
  exact ⟨by unfold twA; rw [htw]; rfl, by unfold twE; rw [royB_iff.2 hO, htw]; rfl⟩
theorem tw_some {d : RoyD} (hO : RoyOk d) {i j : Nat} (h0 : twF d.reps d.reps.length = some (i, j)) : twA d = (i, j) ∧ twE d = 0 := by
  have htw : twV d = some (i, j) := by unfold twV; rw [royB_iff.2 hO, if_pos rfl]; exact h0
  exact ⟨by unfold twA; rw [htw]; rfl, by unfold twE; rw [royB_iff.2 hO, htw]; rfl⟩
/-- No two reports meet among the first ones. -/
def NoT (d : RoyD) (n : Nat) : Prop := ∀ (i j : Nat) (x y : RepD), i < n → j < i → d.reps[i]? = some x → d.reps[j]? = some y → meetB x y = false
theorem NoT.next {d : RoyD} {n : Nat} {x : RepD} (h : NoT d n) (hx : d.reps[n]? = some x) (h2 : ∀ z, z < n → ∀ t, d.reps[z]? = some t → meetB x t = false) : NoT d (n + 1) := fun i j x' y hi hj h3 h4 => by
  rcases (show i < n ∨ i = n by omega) with h5 | h5
  · exact h i j x' y h5 hj h3 h4
  · subst h5; rw [hx] at h3; cases h3; exact h2 j hj y h4
theorem NoT.all {d : RoyD} (h : NoT d d.reps.length) : NoMeet d := fun i j x y hj hx hy => h i j x y (len_of hx) hj hx hy
end Go.RoyM
namespace Go.RoyM
open Go Go.Sy
theorem flat_get {α : Type} {enc : α → List Value} {n : Nat} (hn : ∀ x, (enc x).length = n) : ∀ {l : List α} {j : Nat} {v : Value}, (l.flatMap enc)[j]? = some v → ∃ i x r, l[i]? = some x ∧ (enc x)[r]? = some v ∧ j = i * n + r
  | [], j, v, h => by simp at h
  | y :: l, j, v, h => by
    rw [List.flatMap_cons, List.getElem?_append, hn y] at h
    split at h
    · exact ⟨0, y, j, rfl, h, by omega⟩
    · rename_i hj
      obtain ⟨i, x, r, h1, h2, h3⟩ := flat_get hn h
      refine ⟨i + 1, x, r, h1, h2, ?_⟩
      rw [Nat.add_mul, Nat.one_mul]; omega
theorem flat_len {α : Type} {enc : α → List Value} {n : Nat} (hn : ∀ x, (enc x).length = n) : ∀ l : List α, (l.flatMap enc).length = l.length * n
  | [] => by simp
  | y :: l => by rw [List.flatMap_cons, List.length_append, hn y, flat_len hn l, List.length_cons, Nat.add_mul, Nat.one_mul]; omega
theorem vals_of {α : Type} {enc : α → List Value} {n : Nat} (hn : ∀ x, (enc x).length = n) {w : World} {sa : Option Addr} {l : List α} (h : TAt n enc w sa l) : ValsIn w sa (l.flatMap enc) := by
  match l, h with
  | [], _ => exact .inl rfl
  | x :: l, h =>
    obtain ⟨blk, off, c, T, fr, h1, h2, _⟩ := h 0 x rfl
    refine .inr ⟨blk, off, c, T, fr, h1, h2, fun j v hj => ?_⟩
    obtain ⟨i, y, r, h3, h4, h5⟩ := flat_get hn hj
    obtain ⟨blk', off', c', T', fr', k1, k2, k3⟩ := h i y h3
    rw [h1] at k1; cases k1
    rw [h2] at k2; cases k2
    have := (cellsAt_get n _ _ k3).2 r v h4
    rw [Int.toNat_natCast] at this
    rw [h5, ← Nat.add_assoc]; exact this
theorem own_tat {α : Type} {enc : α → List Value} {n e : Nat} (hn : ∀ x, (enc x).length = n) {oa : Option Addr} {c m : Nat} {l : List α} {X : List (Nat × Obj)} {w : World} (h : OwnSl e n (.slice oa m c) m (l.flatMap enc) X) (hm : m = l.length) (hX : ∀ q ∈ X, w.heap[q.1]? = some q.2) : TAt n enc w oa l := fun i s hi => by
  have hl := len_of hi
  rcases h.2 with ⟨_, h2, _⟩ | ⟨B, cap, cur, h1, h2, _, _, h5, h6⟩
  · omega
  · cases h1
    refine ⟨B, 0, cur, e, (0, 0), rfl, hX (B, .cells cur e (0, 0)) (by rw [h2]; exact .head _), ?_⟩
    have key : ∀ r v, (enc s)[r]? = some v → cur[0 + ((i : Nat) : Int).toNat * n + r]? = some v := fun r v hr => by
      have hrl := len_of hr
      rw [hn] at hrl
      have h7 : (l.flatMap enc)[i * n + r]? = some v := by
        have gen : ∀ (l : List α) (i : Nat), l[i]? = some s → (l.flatMap enc)[i * n + r]? = some v := by
          intro l
          induction l with
          | nil => intro i h; simp at h
          | cons y l ih =>
            intro i h
            rw [List.flatMap_cons, List.getElem?_append, hn y]
            match i, h with
            | 0, h => cases h; rw [if_pos (by omega), Nat.zero_mul, Nat.zero_add]; exact hr
            | i + 1, h =>
              rw [if_neg (by rw [Nat.add_mul]; omega), show (i + 1) * n + r - n = i * n + r by rw [Nat.add_mul]; omega]
              exact ih i h
        exact gen l i hi
      rw [← h6, List.getElem?_take] at h7
      split at h7
      · rw [Int.toNat_natCast, Nat.zero_add, ← Array.getElem?_toList]; exact h7
      · cases h7
    have := cellsAt_of (c := cur) (enc s) (0 + ((i : Nat) : Int).toNat * n) key
    rwa [hn] at this
theorem pc_mono : ∀ (k : Nat) {a b : Nat}, k ≤ 64 → a < 2 ^ k → b < 2 ^ k → (∀ i, a.testBit i = true → b.testBit i = true) → pc a ≤ pc b
  | 0, a, b, _, ha, hb, _ => by
    rw [Nat.pow_zero] at ha hb
    rw [show a = 0 by omega, show b = 0 by omega]; exact Nat.le_refl _
  | k + 1, a, b, hk, ha, hb, h => by
    have h64 : 2 ^ (k + 1) ≤ 2 ^ 64 := Nat.pow_le_pow_right (by omega) hk
    rw [Nat.pow_succ] at ha hb h64
    have ih := pc_mono k (a := a / 2) (b := b / 2) (by omega) (by omega) (by omega) fun i hi => by
      rw [Nat.testBit_div_two] at hi ⊢
      exact h (i + 1) hi
    rw [pc_step (n := a) (by omega), pc_step (n := b) (by omega)]
    have h0 := h 0
    simp only [Nat.testBit_zero, decide_eq_true_eq] at h0
    omega
theorem com_mono {t : TermD} (ht : TermOk t) {price : Int} (hp : 0 ≤ price) {m n : Nat} (h : m ≤ n) : comV t price m ≤ comV t price n := by
  have key : perN t m ≤ perN t n := by
    induction n with
    | zero => rw [show m = 0 by omega]; exact Int.le_refl _
    | succ n ih =>
      by_cases e : m = n + 1
      · rw [e]; exact Int.le_refl _
      · have h1 := ih (by omega)
        have h2 := perN_step (t := t) (many := ((n + 1 : Nat) : Int)) (by omega) ht.u0
        rw [show ((n + 1 : Nat) : Int) - 1 = (n : Int) by omega] at h2
        have := ht.f0; have := ht.b0
        split at h2 <;> omega
  unfold comV
  exact Int.ediv_le_ediv (by omega) (Int.mul_le_mul_of_nonneg_right key hp)
theorem sum_le {α : Type} {f g : α → Int} : ∀ {l : List α}, (∀ x ∈ l, f x ≤ g x) → sumI (l.map f) ≤ sumI (l.map g)
  | [], _ => by simp
  | x :: l, h => by
    have h1 := h x (.head _)
    have h2 := sum_le (l := l) fun y hy => h y (.tail _ hy)
    rw [List.map_cons, List.map_cons, sumI_cons, sumI_cons]; omega
def addR (d : RoyD) (n : RepD) : RoyD := ⟨d.terms, d.prices, d.shares, d.reps ++ [n], d.paid⟩
/-- Part of another report. -/
structure PartOf (d : RoyD) (r n : RepD) : Prop where
  mem : r ∈ d.reps
  kd : n.kd = r.kd
  fi : n.fi = r.fi
  la : n.la ≤ r.la
  ok : RepOk d n
theorem add_ok {d : RoyD} (hO : RoyOk d) (hl : d.reps.length < 20) {n : RepD} (hn : RepOk d n) : RoyOk (addR d n) := by
  refine ⟨hO.nt, hO.np, hO.ns, by show (d.reps ++ [n]).length ≤ 20; rw [List.length_append]; show d.reps.length + 1 ≤ 20; omega, hO.npd, hO.t, hO.pd, hO.p, hO.s, fun x hx => ?_⟩
  have key : ∀ {x : RepD}, RepOk d x → RepOk (addR d n) x := fun h => ⟨h.a0, h.a1, h.k0, h.k1, h.f0, h.f1, h.l1⟩
  rcases List.mem_append.1 (show x ∈ d.reps ++ [n] from hx) with hx | hx
  · exact key (hO.r x hx)
  · rw [List.mem_singleton.1 hx]; exact key hn
def inR (n : RepD) (k : Int) (g c : Nat) : Bool := (decide (n.kd = k) && decide (n.ag = (g : Int))) && (decide (n.fi ≤ c) && decide ((c : Int) ≤ n.la))
theorem clm_add (d : RoyD) (n : RepD) (k : Int) (g c : Nat) : clmB (addR d n) k g c = (clmB d k g c || inR n k g c) := by
  unfold clmB
  show (d.reps ++ [n]).any _ = _
  rw [List.any_append, List.any_cons, List.any_nil, Bool.or_false]; rfl
section
variable {d : RoyD} {r n : RepD}
theorem part_old (hP : PartOf d r n) (hO : RoyOk d) {k : Int} {g c : Nat} (h : inR n k g c = true) : clmB d k r.ag.toNat c = true := by
  unfold inR at h
  simp only [Bool.and_eq_true, decide_eq_true_eq] at h
  unfold clmB
  rw [List.any_eq_true]
  have h1 := (hO.r r hP.mem).a0
  have h2 := hP.kd; have h3 := hP.fi; have h4 := hP.la
  refine ⟨r, hP.mem, ?_⟩
  simp only [Bool.and_eq_true, decide_eq_true_eq]
  omega
theorem in_ag {k : Int} {g c : Nat} (h : inR n k g c = true) : n.ag = g := by
  unfold inR at h
  simp only [Bool.and_eq_true, decide_eq_true_eq] at h
  exact h.1.2
theorem clm_same (hP : PartOf d r n) (hO : RoyOk d) (he : n.ag = r.ag) (k : Int) (g c : Nat) : clmB (addR d n) k g c = clmB d k g c := by
  rw [clm_add]
  cases h : inR n k g c
  · rw [Bool.or_false]
  · have h1 := part_old hP hO h
    have h2 := in_ag h
    rw [show r.ag.toNat = g by omega] at h1
    rw [h1]; rfl
theorem clm_other {k : Int} {g : Nat} (hg : ¬ n.ag = (g : Int)) (c : Nat) : clmB (addR d n) k g c = clmB d k g c := by
  rw [clm_add]
  cases h : inR n k g c
  · rw [Bool.or_false]
  · exact absurd (in_ag h) hg
theorem sur_add (hP : PartOf d r n) (hO : RoyOk d) {k : Int} {g c : Nat} (h : surB (addR d n) k g c = true) : surB d k g c = true := by
  unfold surB at h ⊢
  rw [Bool.and_eq_true, decide_eq_true_eq] at h ⊢
  obtain ⟨h1, h2⟩ := h
  have hg : g < d.terms.length := by
    rw [clm_add, Bool.or_eq_true] at h1
    rcases h1 with h1 | h1
    · exact clm_lt hO h1
    · have := in_ag h1; have := hP.ok.a1; omega
  rw [one_of (claL_nodup _ _ _ _) ((claL_mem (d := addR d n)).2 ⟨hg, h1⟩)] at h2
  have hsub : ∀ j, clmB d k j c = true → j = g := fun j hj => h2 j ((claL_mem (d := addR d n)).2 ⟨clm_lt hO hj, by rw [clm_add, hj]; rfl⟩)
  have h3 : clmB d k g c = true := by
    rw [clm_add, Bool.or_eq_true] at h1
    rcases h1 with h1 | h1
    · exact h1
    · have h4 := part_old hP hO h1
      rw [hsub _ h4] at h4; exact h4
  refine ⟨h3, (one_of (claL_nodup _ _ _ _) (claL_mem.2 ⟨hg, h3⟩)).2 fun j hj => hsub j (claL_mem.1 hj).2⟩
theorem sur_own (hO : RoyOk d) {k : Int} {g c : Nat} (hg : n.ag = (g : Int)) (h : surB d k g c = true) : surB (addR d n) k g c = true := by
  unfold surB at h ⊢
  rw [Bool.and_eq_true, decide_eq_true_eq] at h ⊢
  obtain ⟨h1, h2⟩ := h
  have hgl := clm_lt hO h1
  rw [one_of (claL_nodup _ _ _ _) (claL_mem.2 ⟨hgl, h1⟩)] at h2
  have h3 : clmB (addR d n) k g c = true := by rw [clm_add, h1]; rfl
  refine ⟨h3, (one_of (claL_nodup _ _ _ _) ((claL_mem (d := addR d n)).2 ⟨hgl, h3⟩)).2 fun j hj => ?_⟩
  have h4 := ((claL_mem (d := addR d n)).1 hj).2
  rw [clm_add, Bool.or_eq_true] at h4
  rcases h4 with h4 | h4
  · exact h2 j (claL_mem.2 ⟨clm_lt hO h4, h4⟩)
  · have := in_ag h4; omega
theorem owe_ok (hO : RoyOk d) {g : Nat} (hg : g < d.terms.length) : oweE d g = 0 ∧ oweV d g = (sumI (lowL d g d.prices.length), sumI (higL d g d.prices.length)) := by
  have h1 : isAg d g = true := by unfold isAg inI; simp only [Bool.and_eq_true, decide_eq_true_eq]; omega
  have h3 : oweE d g = 0 := openE_z.2 ⟨royB_iff.2 hO, h1⟩
  exact ⟨h3, by unfold oweV; rw [if_pos h3]; rfl⟩
theorem com_le (hO : RoyOk d) {g k : Nat} (hg : g < d.terms.length) (hk : k < d.prices.length) {a b : Nat} (h : a ≤ b) : comV (termN d g) (d.prices.getD k 0) (a : Nat) ≤ comV (termN d g) (d.prices.getD k 0) (b : Nat) := by
  obtain ⟨t, ht⟩ := ex_of hg
  obtain ⟨x, hx⟩ := ex_of hk
  rw [term_at ht, getD_at hx]
  exact com_mono (hO.t t (List.mem_of_getElem? ht)) (hO.p x (List.mem_of_getElem? hx)).1 h
/-- What each agent is owed, with the report more. -/
theorem owe_more (hP : PartOf d r n) (hO : RoyOk d) (hl : d.reps.length < 20) {g : Nat} (hg : g < d.terms.length) :
    (oweV (addR d n) g).1 ≤ (oweV d g).1 ∧ (oweV d g).2 ≤ (oweV (addR d n) g).2 ∧ (¬ n.ag = (g : Int) → (oweV (addR d n) g).2 = (oweV d g).2) ∧ (n.ag = (g : Int) → (oweV (addR d n) g).1 = (oweV d g).1) ∧ (n.ag = r.ag → oweV (addR d n) g = oweV d g) := by
  have hO' := add_ok hO hl hP.ok
  rw [(owe_ok hO hg).2, (owe_ok hO' (show g < (addR d n).terms.length from hg)).2]
  have hsl : ∀ k : Int, pc (surN (addR d n) k g) ≤ pc (surN d k g) := fun k => pc_mono 12 (by omega) (sur_lt hO' k g) (sur_lt hO k g) fun i hi => by
    rw [sur_bit hO'] at hi; rw [sur_bit hO]; exact sur_add hP hO hi
  have hcl : ∀ k : Int, pc (clm d k g) ≤ pc (clm (addR d n) k g) := fun k => pc_mono 12 (by omega) (clm_lt12 hO k g) (clm_lt12 hO' k g) fun i hi => by
    rw [clm_bit hO] at hi; rw [clm_bit hO', clm_add, hi]; rfl
  have hce : ¬ n.ag = (g : Int) → ∀ k : Int, clm (addR d n) k g = clm d k g := fun h k => Nat.eq_of_testBit_eq fun i => by rw [clm_bit hO, clm_bit hO', clm_other h]
  have hse : n.ag = (g : Int) → ∀ k : Int, surN (addR d n) k g = surN d k g := fun h k => Nat.eq_of_testBit_eq fun i => by
    rw [sur_bit hO, sur_bit hO', Bool.eq_iff_iff]
    exact ⟨sur_add hP hO, sur_own hO h⟩
  have lowE : ∀ d' : RoyD, d'.terms = d.terms → d'.prices = d.prices → d'.paid = d.paid → lowL d' g d'.prices.length = -(d.paid.getD g 0) :: (List.range d.prices.length).map fun k => comV (termN d g) (d.prices.getD k 0) (pc (surN d' k g) : Nat) := fun d' h1 h2 h3 => by unfold lowL termN; rw [h1, h2, h3]
  have higE : ∀ d' : RoyD, d'.terms = d.terms → d'.prices = d.prices → d'.paid = d.paid → higL d' g d'.prices.length = -(d.paid.getD g 0) :: (List.range d.prices.length).map fun k => comV (termN d g) (d.prices.getD k 0) (pc (clm d' k g) : Nat) := fun d' h1 h2 h3 => by unfold higL termN; rw [h1, h2, h3]
  rw [lowE d rfl rfl rfl, lowE (addR d n) rfl rfl rfl, higE d rfl rfl rfl, higE (addR d n) rfl rfl rfl]
  refine ⟨?_, ?_, fun h => ?_, fun h => ?_, fun h => ?_⟩
  · show sumI _ ≤ sumI _
    rw [sumI_cons, sumI_cons]
    have := sum_le (l := List.range d.prices.length) (f := fun k => comV (termN d g) (d.prices.getD k 0) (pc (surN (addR d n) k g) : Nat)) (g := fun k => comV (termN d g) (d.prices.getD k 0) (pc (surN d k g) : Nat)) fun k hk => com_le hO hg (List.mem_range.1 hk) (hsl k)
    omega
  · show sumI _ ≤ sumI _
    rw [sumI_cons, sumI_cons]
    have := sum_le (l := List.range d.prices.length) (f := fun k => comV (termN d g) (d.prices.getD k 0) (pc (clm d k g) : Nat)) (g := fun k => comV (termN d g) (d.prices.getD k 0) (pc (clm (addR d n) k g) : Nat)) fun k hk => com_le hO hg (List.mem_range.1 hk) (hcl k)
    omega
  · show sumI _ = sumI _
    have e : (fun k : Nat => comV (termN d g) (d.prices.getD k 0) (pc (clm (addR d n) k g) : Nat)) = fun k : Nat => comV (termN d g) (d.prices.getD k 0) (pc (clm d k g) : Nat) := funext fun k => by rw [hce h]
    rw [e]
  · show sumI _ = sumI _
    have e : (fun k : Nat => comV (termN d g) (d.prices.getD k 0) (pc (surN (addR d n) k g) : Nat)) = fun k : Nat => comV (termN d g) (d.prices.getD k 0) (pc (surN d k g) : Nat) := funext fun k => by rw [hse h]
    rw [e]
  · have hc : ∀ (k : Int) (j c : Nat), clmB (addR d n) k j c = clmB d k j c := clm_same hP hO h
    have e1 : ∀ k : Int, clm (addR d n) k g = clm d k g := fun k => Nat.eq_of_testBit_eq fun i => by rw [clm_bit hO, clm_bit hO', hc]
    have e2 : ∀ k : Int, surN (addR d n) k g = surN d k g := fun k => Nat.eq_of_testBit_eq fun i => by
      rw [sur_bit hO, sur_bit hO']
      unfold surB
      rw [claL_eq, claL_eq, hc]
      have e3 : (fun j => clmB (addR d n) k j i) = fun j => clmB d k j i := funext fun j => hc k j i
      rw [e3]; rfl
    have e4 : (fun k : Nat => comV (termN d g) (d.prices.getD k 0) (pc (clm (addR d n) k g) : Nat)) = fun k : Nat => comV (termN d g) (d.prices.getD k 0) (pc (clm d k g) : Nat) := funext fun k => by rw [e1]
    have e5 : (fun k : Nat => comV (termN d g) (d.prices.getD k 0) (pc (surN (addR d n) k g) : Nat)) = fun k : Nat => comV (termN d g) (d.prices.getD k 0) (pc (surN d k g) : Nat) := funext fun k => by rw [e2]
    rw [e4, e5]
end
theorem ws_map (d : RoyD) (k : Int) : ∀ n, (soldT d k n).map Prod.snd = (csT d k n).map (whoN d k)
  | 0 => rfl
  | n + 1 => by
    have ih := ws_map d k n
    unfold csT at ih ⊢
    rw [soldT, List.map_append, List.map_append, List.map_append, ih]
    split <;> rfl
theorem tru_mono {m : Nat} {f f' : Nat → Nat} : ∀ {cs : List Nat}, (∀ c ∈ cs, ∀ g, g ∈ clrL m (f c) → g ∈ clrL m (f' c)) → ∀ t, t ∈ truA m (cs.map f) → t ∈ truA m (cs.map f')
  | [], _, t, h => h
  | c :: cs, hs, t, h => by
    rw [List.map_cons, truA] at h ⊢
    obtain ⟨g, hg, h⟩ := List.mem_flatMap.1 h
    obtain ⟨s, h1, rfl⟩ := List.mem_map.1 h
    exact List.mem_flatMap.2 ⟨g, hs c (.head _) g hg, List.mem_map.2 ⟨s, tru_mono (fun c hc => hs c (.tail _ hc)) s h1, rfl⟩⟩
theorem tot_congr {d d' : RoyD} (h : d'.terms = d.terms) (x : Int) (n : Cts) : totV d' x n = totV d x n := by
  unfold totV
  rw [h]
  have : ∀ g, totF d' x n g = totF d x n g := fun g => by
    induction g with
    | zero => rfl
    | succ g ih => rw [totF, totF, ih, h]
  exact this _
theorem lo_sub {l m : List Int} (hn : l ≠ []) (h : ∀ x ∈ l, x ∈ m) : loL m ≤ loL l ∧ hiL l ≤ hiL m := by
  have hm : m ≠ [] := fun e => by
    obtain ⟨x, hx⟩ := List.exists_mem_of_ne_nil l hn
    have := h x hx; rw [e] at this; cases this
  exact ⟨(loL_spec hm).2 _ (h _ (loL_spec hn).1), (hiL_spec hm).2 _ (h _ (hiL_spec hn).1)⟩
theorem cs_add {d : RoyD} {r n : RepD} (hP : PartOf d r n) (hO : RoyOk d) (hO' : RoyOk (addR d n)) (k : Int) : ∀ m, csT (addR d n) k m = csT d k m
  | 0 => rfl
  | m + 1 => by
    have ih := cs_add hP hO hO' k m
    have hiff : whoN (addR d n) k m = 0 ↔ whoN d k m = 0 := by
      rw [sold_iff hO', sold_iff hO]
      constructor
      · intro h
        have h1 := List.eq_nil_of_length_eq_zero h
        cases h2 : claL d k m d.terms.length with
        | nil => rfl
        | cons j l =>
          have hj : j ∈ claL d k m d.terms.length := by rw [h2]; exact .head _
          obtain ⟨h3, h4⟩ := claL_mem.1 hj
          have : j ∈ claL (addR d n) k m (addR d n).terms.length := (claL_mem (d := addR d n)).2 ⟨h3, by rw [clm_add, h4]; rfl⟩
          rw [h1] at this; cases this
      · intro h
        have h1 := List.eq_nil_of_length_eq_zero h
        cases h2 : claL (addR d n) k m (addR d n).terms.length with
        | nil => rfl
        | cons j l =>
          have hj : j ∈ claL (addR d n) k m (addR d n).terms.length := by rw [h2]; exact .head _
          obtain ⟨h3, h4⟩ := (claL_mem (d := addR d n)).1 hj
          rw [clm_add, Bool.or_eq_true] at h4
          rcases h4 with h4 | h4
          · have : j ∈ claL d k m d.terms.length := claL_mem.2 ⟨h3, h4⟩
            rw [h1] at this; cases this
          · have h5 := part_old hP hO h4
            have : r.ag.toNat ∈ claL d k m d.terms.length := claL_mem.2 ⟨clm_lt hO h5, h5⟩
            rw [h1] at this; cases this
    by_cases hz : whoN d k m = 0
    · rw [csT_no hz, csT_no (hiff.2 hz), ih]
    · rw [csT_put hz, csT_put (fun h => hz (hiff.1 h)), ih]
/-- What all have together, with the report more. -/
theorem all_more {d : RoyD} {r n : RepD} (hP : PartOf d r n) (hO : RoyOk d) (hl : d.reps.length < 20) {k : Nat} (hk : k < d.prices.length) : (allV (addR d n) k).1 ≤ (allV d k).1 ∧ (allV d k).2 ≤ (allV (addR d n) k).2 := by
  have hO' := add_ok hO hl hP.ok
  have v1 := allV_ok (allE_ok hO hk)
  have v2 := allV_ok (allE_ok hO' (show k < (addR d n).prices.length from hk))
  rw [reach_map] at v1 v2
  have hne : (truL d k).map (fun t => totV d (priceN d k) (cnt (0, 0, 0, 0) t)) ≠ [] := by simpa using truL_ne hO k
  have hsub := lo_sub hne (m := (truL (addR d n) k).map fun t => totV (addR d n) (priceN (addR d n) k) (cnt (0, 0, 0, 0) t)) fun x hx => by
    obtain ⟨t, ht, rfl⟩ := List.mem_map.1 hx
    refine List.mem_map.2 ⟨t, ?_, tot_congr (d := d) (d' := addR d n) rfl (priceN d k) (cnt (0, 0, 0, 0) t)⟩
    have e1 : truL d k = truA d.terms.length ((csT d k 12).map (whoN d k)) := by unfold truL wsL soldL; rw [ws_map]
    have e2 : truL (addR d n) k = truA d.terms.length ((csT d k 12).map (whoN (addR d n) k)) := by unfold truL wsL soldL; rw [ws_map, cs_add hP hO hO']; rfl
    rw [e1] at ht
    rw [e2]
    refine tru_mono (fun c _ g hg => ?_) t ht
    rw [who_clr hO, List.mem_filter] at hg
    have h9 := who_clr hO' k c
    have h8 : clrL d.terms.length (whoN (addR d n) k c) = (List.range d.terms.length).filter fun g => clmB (addR d n) k g c := h9
    rw [h8, List.mem_filter]
    exact ⟨hg.1, by rw [clm_add, hg.2]; rfl⟩
  rw [v1, v2]
  dsimp only
  exact hsub
end Go.RoyM
namespace Go.RoyM
open Go Go.Sy
theorem or_half (x c : Nat) : (x ||| 2 ^ (c + 1)) / 2 = x / 2 ||| 2 ^ c := by
  apply Nat.eq_of_testBit_eq
  intro i
  rw [Nat.testBit_div_two, Nat.testBit_or, Nat.testBit_or, Nat.testBit_div_two, Nat.testBit_two_pow, Nat.testBit_two_pow]
  congr 1
  exact decide_eq_decide.2 (by omega)
theorem or_half0 (x : Nat) : (x ||| 1) / 2 = x / 2 := by
  apply Nat.eq_of_testBit_eq
  intro i
  rw [Nat.testBit_div_two, Nat.testBit_or, Nat.testBit_div_two]
  have : (1 : Nat).testBit (i + 1) = false := by
    have := Nat.testBit_two_pow (n := 0) (m := i + 1)
    rw [Nat.pow_zero] at this
    rw [this]; exact decide_eq_false (by omega)
  rw [this, Bool.or_false]
theorem mod2_bit (x : Nat) : x % 2 = if x.testBit 0 = true then 1 else 0 := by
  rw [Nat.testBit_zero]
  by_cases h : x % 2 = 1
  · rw [h]; rfl
  · rw [if_neg (by simpa using h)]; omega
theorem pc_put : ∀ (c x : Nat), c < 60 → x < 2 ^ 60 → x.testBit c = false → pc (x ||| 2 ^ c) = pc x + 1
  | 0, x, _, hx, h => by
    have h1 : x ||| 2 ^ 0 < 2 ^ 64 := Nat.or_lt_two_pow (by omega) (by decide)
    rw [pc_step h1, pc_step (n := x) (by omega), Nat.pow_zero, or_half0, mod2_bit (x ||| 1), mod2_bit x, h, Nat.testBit_or]
    simp; omega
  | c + 1, x, hc, hx, h => by
    have hp : 2 ^ (c + 1) < 2 ^ 64 := Nat.pow_lt_pow_right (by omega) (by omega)
    have h1 : x ||| 2 ^ (c + 1) < 2 ^ 64 := Nat.or_lt_two_pow (by omega) hp
    rw [pc_step h1, pc_step (n := x) (by omega), or_half, pc_put c (x / 2) (by omega) (by omega) (by rw [Nat.testBit_div_two]; exact h), mod2_bit (x ||| 2 ^ (c + 1)), mod2_bit x, Nat.testBit_or, Nat.testBit_two_pow]
    simp; omega
/-- The cards that an agent sold in a truth, by bits. -/
def ownC (cs t : List Nat) (g : Nat) : Nat → Nat
  | 0 => 0
  | i + 1 => if t[i]? = some g then ownC cs t g i ||| 2 ^ (cs.getD i 0) else ownC cs t g i
theorem ownC_bit (cs t : List Nat) (g c : Nat) : ∀ i, (ownC cs t g i).testBit c = true ↔ ∃ j, j < i ∧ t[j]? = some g ∧ cs.getD j 0 = c
  | 0 => by simp [ownC]
  | i + 1 => by
    have ih := ownC_bit cs t g c i
    rw [ownC]
    by_cases h : t[i]? = some g
    · rw [if_pos h, Nat.testBit_or, Bool.or_eq_true, ih, Nat.testBit_two_pow, decide_eq_true_eq]
      constructor
      · rintro (⟨j, h1, h2, h3⟩ | h1)
        · exact ⟨j, by omega, h2, h3⟩
        · exact ⟨i, by omega, h, h1⟩
      · rintro ⟨j, h1, h2, h3⟩
        rcases (show j < i ∨ j = i by omega) with h4 | h4
        · exact .inl ⟨j, h4, h2, h3⟩
        · subst h4; exact .inr h3
    · rw [if_neg h, ih]
      constructor
      · rintro ⟨j, h1, h2, h3⟩; exact ⟨j, by omega, h2, h3⟩
      · rintro ⟨j, h1, h2, h3⟩
        rcases (show j < i ∨ j = i by omega) with h4 | h4
        · exact ⟨j, h4, h2, h3⟩
        · subst h4; exact absurd h2 h
theorem csT_sorted (d : RoyD) (k : Int) : ∀ n, (csT d k n).Pairwise (fun a b : Nat => a < b) ∧ ∀ c ∈ csT d k n, c < n
  | 0 => ⟨.nil, fun c h => by cases h⟩
  | n + 1 => by
    obtain ⟨h1, h2⟩ := csT_sorted d k n
    by_cases hz : whoN d k n = 0
    · rw [csT_no hz]; exact ⟨h1, fun c h => Nat.lt_succ_of_lt (h2 c h)⟩
    · rw [csT_put hz]
      refine ⟨List.pairwise_append.2 ⟨h1, List.pairwise_singleton _ _, fun a ha b hb => ?_⟩, fun c hc => ?_⟩
      · rw [List.mem_singleton.1 hb]; exact h2 a ha
      · rcases List.mem_append.1 hc with hc | hc
        · exact Nat.lt_succ_of_lt (h2 c hc)
        · rw [List.mem_singleton.1 hc]; exact Nat.lt_succ_self n
theorem csL_T (d : RoyD) (k : Int) : csL d k = csT d k 12 := by unfold csL soldL csT; rfl
theorem sorted_inj {l : List Nat} (hs : l.Pairwise (fun a b : Nat => a < b)) {i j : Nat} (hi : i < l.length) (hj : j < l.length) (h : l.getD i 0 = l.getD j 0) : i = j := by
  have e1 : l.getD i 0 = l[i] := by simp [List.getD, hi]
  have e2 : l.getD j 0 = l[j] := by simp [List.getD, hj]
  rw [e1, e2] at h
  rcases (show i < j ∨ i = j ∨ j < i by omega) with h1 | h1 | h1
  · have h9 : l[i] < l[j] := List.pairwise_iff_getElem.1 hs i j hi hj h1
    omega
  · exact h1
  · have h9 : l[j] < l[i] := List.pairwise_iff_getElem.1 hs j i hj hi h1
    omega
theorem cs_inj {d : RoyD} {k : Int} {i j : Nat} (hi : i < (csL d k).length) (hj : j < (csL d k).length) (h : (csL d k).getD i 0 = (csL d k).getD j 0) : i = j := by
  have hs := (csT_sorted d k 12).1
  rw [← csL_T] at hs
  exact sorted_inj hs hi hj h
theorem cs_lt {d : RoyD} {k : Int} {i c : Nat} (h : (csL d k)[i]? = some c) : c < 12 := by
  rw [csL_T] at h
  exact (csT_sorted d k 12).2 c (List.mem_of_getElem? h)
theorem ownC_lt {d : RoyD} {k : Int} {t : List Nat} (g : Nat) (i : Nat) : ownC (csL d k) t g i < 4096 := by
  induction i with
  | zero => simp [ownC]
  | succ i ih =>
    rw [ownC]
    split
    · refine or_lt ih ?_
      have : (csL d k).getD i 0 < 12 := by
        cases h : (csL d k)[i]? with
        | none => simp [List.getD, h]
        | some c => rw [getD_at h]; exact cs_lt h
      exact Nat.lt_of_lt_of_le (Nat.pow_lt_pow_right (by omega) this) (by decide)
    · exact ih
theorem ownC_pc {d : RoyD} {k : Int} {t : List Nat} (ht : t.length = (csL d k).length) (g : Nat) : ∀ i, i ≤ t.length → pc (ownC (csL d k) t g i) = (t.take i).count g
  | 0, _ => by rw [ownC, pc_zero]; simp
  | i + 1, hi => by
    have ih := ownC_pc ht g i (by omega)
    obtain ⟨x, hx⟩ := ex_of (l := t) (i := i) (by omega)
    rw [count_take hx, ownC, hx]
    by_cases h : x = g
    · subst h
      rw [if_pos rfl, if_pos rfl]
      obtain ⟨c, hc⟩ := ex_of (l := csL d k) (i := i) (by omega)
      rw [getD_at hc, pc_put c _ (by have := cs_lt hc; omega) (Nat.lt_of_lt_of_le (ownC_lt x i) (by decide)), ih]
      rw [Bool.eq_false_iff]
      intro hb
      obtain ⟨j, h1, h2, h3⟩ := (ownC_bit _ _ _ _ _).1 hb
      have := cs_inj (d := d) (k := k) (i := j) (j := i) (by omega) (by omega) (by rw [h3, getD_at hc])
      omega
    · rw [if_neg (by simpa using h), if_neg h, ih]; omega
section
variable {d : RoyD} (hO : RoyOk d) {k : Int} {t : List Nat} (ht : t ∈ truL d k)
include hO ht
theorem own_len : t.length = (csL d k).length := by rw [(tru_facts hO ht).2.2, cs_len]
/-- An agent sold just cards that he claims. -/
theorem own_can {g c : Nat} (h : (ownC (csL d k) t g t.length).testBit c = true) : (clm d k g).testBit c = true := by
  obtain ⟨j, h1, h2, h3⟩ := (ownC_bit _ _ _ _ _).1 h
  have hl := own_len hO ht
  obtain ⟨c', hc⟩ := ex_of (l := csL d k) (i := j) (by omega)
  rw [getD_at hc] at h3
  subst h3
  obtain ⟨w, hw⟩ := ex_of (l := wsL d k) (i := j) (by rw [← cs_len]; omega)
  have h5 := tru_at ht h2 hw
  rw [← claW hO hc hw] at h5
  rw [clm_bit hO]
  exact (claL_mem.1 h5).2
/-- An agent sold all cards that are surely his. -/
theorem own_sur {g c : Nat} (h : (surN d k g).testBit c = true) : (ownC (csL d k) t g t.length).testBit c = true := by
  rw [sur_bit hO] at h
  unfold surB at h
  rw [Bool.and_eq_true, decide_eq_true_eq] at h
  obtain ⟨h1, h2⟩ := h
  rw [one_of (claL_nodup _ _ _ _) (claL_mem.2 ⟨clm_lt hO h1, h1⟩)] at h2
  have hc12 : c < 12 := by
    unfold clmB at h1
    obtain ⟨x, hx, h3⟩ := List.any_eq_true.1 h1
    simp only [Bool.and_eq_true, decide_eq_true_eq] at h3
    have := (hO.r x hx).l1; omega
  have hw : whoN d k c ≠ 0 := fun e => by
    have := (sold_iff hO k c).1 e
    have h5 := List.eq_nil_of_length_eq_zero this
    have h6 : g ∈ claL d k c d.terms.length := claL_mem.2 ⟨clm_lt hO h1, h1⟩
    rw [h5] at h6; cases h6
  have hm : (c, whoN d k c) ∈ soldL d k := soldT_mem.2 ⟨hc12, rfl, hw⟩
  obtain ⟨j, hj⟩ := List.mem_iff_getElem?.1 hm
  have hcj : (csL d k)[j]? = some c := by unfold csL; rw [List.getElem?_map, hj]; rfl
  have hwj : (wsL d k)[j]? = some (whoN d k c) := by unfold wsL; rw [List.getElem?_map, hj]; rfl
  have hl := own_len hO ht
  obtain ⟨g', hg'⟩ := ex_of (l := t) (i := j) (by have := len_of hcj; omega)
  have h5 := tru_at ht hg' hwj
  rw [← claW hO hcj hwj] at h5
  have h6 := h2 g' h5
  subst h6
  exact (ownC_bit _ _ _ _ _).2 ⟨j, len_of hg', hg', getD_at hcj⟩
theorem own_cnt (g : Nat) : pc (surN d k g) ≤ t.count g ∧ t.count g ≤ pc (clm d k g) ∧ t.count g ≤ 12 := by
  have h1 := ownC_pc (own_len hO ht) g t.length (Nat.le_refl _)
  rw [List.take_length] at h1
  rw [← h1]
  refine ⟨pc_mono 12 (by omega) (sur_lt hO k g) (ownC_lt g _) fun i hi => own_sur hO ht hi, pc_mono 12 (by omega) (ownC_lt g _) (clm_lt12 hO k g) fun i hi => own_can hO ht hi, pc_12 (ownC_lt g _)⟩
theorem own_no1 (g : Nat) : surN d k g ^^^ (surN d k g &&& ownC (csL d k) t g t.length) = 0 := by
  apply Nat.eq_of_testBit_eq
  intro c
  rw [Nat.testBit_xor, Nat.testBit_and, Nat.zero_testBit]
  cases h : (surN d k g).testBit c
  · rfl
  · rw [own_sur hO ht h]; rfl
theorem own_no2 (g : Nat) : ownC (csL d k) t g t.length ^^^ (ownC (csL d k) t g t.length &&& clm d k g) = 0 := by
  apply Nat.eq_of_testBit_eq
  intro c
  rw [Nat.testBit_xor, Nat.testBit_and, Nat.zero_testBit]
  cases h : (ownC (csL d k) t g t.length).testBit c
  · rfl
  · rw [own_can hO ht h]; rfl
end
/-- What an agent is owed, if these sold the cards of the first kinds. -/
def owdV (d : RoyD) (Ts : List (List Nat)) (g i : Nat) : Int := sumI (-(d.paid.getD g 0) :: (List.range i).map fun j => comV (termN d g) (d.prices.getD j 0) ((Ts.getD j []).count g : Nat))
theorem owd_zero (d : RoyD) (Ts : List (List Nat)) (g : Nat) : owdV d Ts g 0 = -(d.paid.getD g 0) := by
  unfold owdV
  rw [sumI_cons]; simp [sumI]
theorem owd_next {d : RoyD} {Ts : List (List Nat)} {t : List Nat} {g : Nat} {x : Int} (hx : d.prices[Ts.length]? = some x) : owdV d (Ts ++ [t]) g (Ts.length + 1) = owdV d Ts g Ts.length + comV (termN d g) x (t.count g : Nat) := by
  unfold owdV
  rw [List.range_succ, List.map_append, ← List.cons_append, sumI_app]
  have e1 : (List.range Ts.length).map (fun j => comV (termN d g) (d.prices.getD j 0) (((Ts ++ [t]).getD j []).count g : Nat)) = (List.range Ts.length).map fun j => comV (termN d g) (d.prices.getD j 0) ((Ts.getD j []).count g : Nat) := by
    refine List.map_congr_left fun j hj => ?_
    have hj := List.mem_range.1 hj
    have : (Ts ++ [t]).getD j [] = Ts.getD j [] := by
      simp only [List.getD]
      rw [List.getElem?_append, if_pos hj]
    rw [this]
  have e2 : ((Ts ++ [t]).getD Ts.length []) = t := by
    simp only [List.getD]
    rw [List.getElem?_append, if_neg (by omega), Nat.sub_self]; rfl
  rw [e1]
  show _ + (0 + comV _ (d.prices.getD Ts.length 0) _) = _
  rw [e2, getD_at hx, Int.zero_add]
/-- Truths of the first kinds. -/
def TruS (d : RoyD) (Ts : List (List Nat)) : Prop := ∀ (j : Nat) (t : List Nat), Ts[j]? = some t → t ∈ truL d j
theorem TruS.put {d : RoyD} {Ts : List (List Nat)} (h : TruS d Ts) {t : List Nat} (ht : t ∈ truL d (Ts.length : Nat)) : TruS d (Ts ++ [t]) := fun j s hj => by
  rw [List.getElem?_append] at hj
  split at hj
  · exact h j s hj
  · rename_i hl
    have h1 := len_of hj
    have h2 : j = Ts.length := by simp at h1; omega
    subst h2
    rw [Nat.sub_self] at hj
    cases hj; exact ht
theorem owd_bd {d : RoyD} (hO : RoyOk d) {Ts : List (List Nat)} (hT : TruS d Ts) {g : Nat} (hg : g < d.terms.length) (hl : Ts.length ≤ d.prices.length) : -5497558138880 ≤ owdV d Ts g Ts.length ∧ owdV d Ts g Ts.length ≤ 5497558138880 := by
  have h := owe_bd hO hg (fun j => if j < Ts.length then (Ts.getD j []).count g else 0) (fun j => by
    split
    · rename_i hj
      obtain ⟨t, ht⟩ := ex_of hj
      rw [getD_at ht]
      exact (own_cnt hO (hT j t ht) g).2.2
    · omega) hl
  have e : (List.range Ts.length).map (fun k => comV (termN d g) (d.prices.getD k 0) ((if k < Ts.length then (Ts.getD k []).count g else 0 : Nat) : Int)) = (List.range Ts.length).map fun j => comV (termN d g) (d.prices.getD j 0) ((Ts.getD j []).count g : Nat) :=
    List.map_congr_left fun j hj => by rw [if_pos (List.mem_range.1 hj)]
  unfold owdV
  rw [e] at h
  exact h
theorem owd_span {d : RoyD} (hO : RoyOk d) {Ts : List (List Nat)} (hT : TruS d Ts) {g : Nat} (hg : g < d.terms.length) (hl : Ts.length = d.prices.length) : (oweV d g).1 ≤ owdV d Ts g Ts.length ∧ owdV d Ts g Ts.length ≤ (oweV d g).2 := by
  rw [(owe_ok hO hg).2]
  unfold owdV lowL higL
  rw [hl]
  show sumI _ ≤ sumI _ ∧ sumI _ ≤ sumI _
  rw [sumI_cons, sumI_cons, sumI_cons]
  have key : ∀ j, j ∈ List.range d.prices.length → pc (surN d j g) ≤ (Ts.getD j []).count g ∧ (Ts.getD j []).count g ≤ pc (clm d j g) := fun j hj => by
    obtain ⟨t, ht⟩ := ex_of (l := Ts) (i := j) (by rw [hl]; exact List.mem_range.1 hj)
    rw [getD_at ht]
    have := own_cnt hO (hT j t ht) g
    exact ⟨this.1, this.2.1⟩
  have h1 := sum_le (l := List.range d.prices.length) (f := fun k => comV (termN d g) (d.prices.getD k 0) (pc (surN d k g) : Nat)) (g := fun j => comV (termN d g) (d.prices.getD j 0) ((Ts.getD j []).count g : Nat)) fun j hj => com_le hO hg (List.mem_range.1 hj) (key j hj).1
  have h2 := sum_le (l := List.range d.prices.length) (f := fun j => comV (termN d g) (d.prices.getD j 0) ((Ts.getD j []).count g : Nat)) (g := fun k => comV (termN d g) (d.prices.getD k 0) (pc (clm d k g) : Nat)) fun j hj => com_le hO hg (List.mem_range.1 hj) (key j hj).2
  omega
/-- What a part gets in a truth lies within its span. -/
theorem get_span {d : RoyD} (hO : RoyOk d) {k part : Nat} {t : List Nat} (ht : t ∈ truL d k) (hk : k < d.prices.length) (hp : part < (sharesN d k).length) : getE d k part = 0 ∧ (getV d k part).1 ≤ getF d k part (cnt (0, 0, 0, 0) t) ∧ getF d k part (cnt (0, 0, 0, 0) t) ≤ (getV d k part).2 := by
  have h1 : isKd d k = true := by unfold isKd inI; simp only [Bool.and_eq_true, decide_eq_true_eq]; omega
  have h2 : inI (part : Nat) 0 (((sharesN d k).length : Int) - 1) = true := by unfold inI; simp only [Bool.and_eq_true, decide_eq_true_eq]; omega
  have h3 : getE d k part = 0 := openE_z.2 ⟨royB_iff.2 hO, by rw [h1, h2]; rfl⟩
  refine ⟨h3, ?_⟩
  have hm : getF d k part (cnt (0, 0, 0, 0) t) ∈ (truL d k).map (fun t => getF d k part (cnt (0, 0, 0, 0) t)) := List.mem_map.2 ⟨t, ht, rfl⟩
  have ev : getV d k part = (loL ((truL d k).map fun t => getF d k part (cnt (0, 0, 0, 0) t)), hiL ((truL d k).map fun t => getF d k part (cnt (0, 0, 0, 0) t))) := by
    unfold getV
    rw [if_pos h3, reach_map]
  obtain ⟨L, hL⟩ : ∃ L, L = (truL d k).map fun t => getF d k part (cnt (0, 0, 0, 0) t) := ⟨_, rfl⟩
  rw [← hL] at hm ev
  rw [ev]
  exact ⟨(loL_spec (List.ne_nil_of_mem hm)).2 _ hm, (hiL_spec (List.ne_nil_of_mem hm)).2 _ hm⟩
end Go.RoyM
namespace Go.RoyM
open Go Go.Sy
def mvR (σ : Nat → Nat) (x : RepD) : RepD := ⟨((σ x.ag.toNat : Nat) : Int), x.kd, x.fi, x.la⟩
theorem clmB_iff {d : RoyD} {k : Int} {g c : Nat} : clmB d k g c = true ↔ ∃ x ∈ d.reps, x.kd = k ∧ x.ag = (g : Int) ∧ x.fi ≤ c ∧ (c : Int) ≤ x.la := by
  unfold clmB
  rw [List.any_eq_true]
  simp only [Bool.and_eq_true, decide_eq_true_eq, and_assoc]
structure TurnD (d d' : RoyD) (σ τ : Nat → Nat) : Prop where
  len : d'.terms.length = d.terms.length
  lenp : d'.paid.length = d.paid.length
  s1 : ∀ a, a < d.terms.length → σ a < d.terms.length ∧ τ (σ a) = a
  t1 : ∀ b, b < d.terms.length → τ b < d.terms.length ∧ σ (τ b) = b
  tm : ∀ a, a < d.terms.length → termN d' (σ a) = termN d a
  pd : ∀ a, a < d.terms.length → d'.paid.getD (σ a) 0 = d.paid.getD a 0
  pr : d'.prices = d.prices
  sh : d'.shares = d.shares
  rp : d'.reps = d.reps.reverse.map (mvR σ)
section
variable {d d' : RoyD} {σ τ : Nat → Nat} (hT : TurnD d d' σ τ) (hO : RoyOk d)
include hT hO
theorem turn_ok : RoyOk d' := by
  have hpl := hO.npd
  refine ⟨by rw [hT.len]; exact hO.nt, by rw [hT.pr]; exact hO.np, by rw [hT.sh, hT.pr]; exact hO.ns, by rw [hT.rp]; simp; exact hO.nr, by rw [hT.len, hT.lenp]; exact hO.npd, fun t ht => ?_, fun n hn => ?_, by rw [hT.pr]; exact hO.p, by rw [hT.sh]; exact hO.s, fun x hx => ?_⟩
  · obtain ⟨b, hb⟩ := List.mem_iff_getElem?.1 ht
    have hl := len_of hb
    rw [hT.len] at hl
    obtain ⟨h1, h2⟩ := hT.t1 b hl
    have h3 := hT.tm (τ b) h1
    rw [h2, term_at hb] at h3
    obtain ⟨s, hs⟩ := ex_of h1
    rw [term_at hs] at h3
    rw [h3]; exact hO.t s (List.mem_of_getElem? hs)
  · obtain ⟨b, hb⟩ := List.mem_iff_getElem?.1 hn
    have hl := len_of hb
    rw [hT.lenp, hpl] at hl
    obtain ⟨h1, h2⟩ := hT.t1 b hl
    have h3 := hT.pd (τ b) h1
    rw [h2, getD_at hb] at h3
    obtain ⟨s, hs⟩ := ex_of (l := d.paid) (i := τ b) (by omega)
    rw [getD_at hs] at h3
    rw [h3]; exact hO.pd s (List.mem_of_getElem? hs)
  · rw [hT.rp] at hx
    obtain ⟨y, hy, rfl⟩ := List.mem_map.1 hx
    have hyo := hO.r y (List.mem_reverse.1 hy)
    have h1 := hyo.a0; have h2 := hyo.a1
    have h3 := hT.s1 y.ag.toNat (by omega)
    exact ⟨by show (0 : Int) ≤ (σ y.ag.toNat : Nat); omega, by rw [hT.len]; show ((σ y.ag.toNat : Nat) : Int) < _; omega, hyo.k0, by rw [hT.pr]; exact hyo.k1, hyo.f0, hyo.f1, hyo.l1⟩
theorem turn_clm (k : Int) {a : Nat} (ha : a < d.terms.length) (c : Nat) : clmB d' k (σ a) c = clmB d k a c := by
  rw [Bool.eq_iff_iff, clmB_iff, clmB_iff, hT.rp]
  constructor
  · rintro ⟨x, hx, h0, h1, h2⟩
    obtain ⟨y, hy, rfl⟩ := List.mem_map.1 hx
    have hy := List.mem_reverse.1 hy
    have hyo := hO.r y hy
    have h3 := hyo.a0; have h4 := hyo.a1
    refine ⟨y, hy, h0, ?_, h2⟩
    replace h1 : ((σ y.ag.toNat : Nat) : Int) = (σ a : Nat) := h1
    have h5 : σ y.ag.toNat = σ a := by omega
    have h6 := (hT.s1 y.ag.toNat (by omega)).2
    rw [h5, (hT.s1 a ha).2] at h6
    omega
  · rintro ⟨y, hy, h0, h1, h2⟩
    refine ⟨mvR σ y, List.mem_map.2 ⟨y, List.mem_reverse.2 hy, rfl⟩, h0, ?_, h2⟩
    show ((σ y.ag.toNat : Nat) : Int) = (σ a : Nat)
    rw [h1, Int.toNat_natCast]
theorem turn_clm2 (k : Int) {b : Nat} (hb : b < d.terms.length) (c : Nat) : clmB d' k b c = clmB d k (τ b) c := by
  obtain ⟨h1, h2⟩ := hT.t1 b hb
  have := turn_clm hT hO k h1 c
  rwa [h2] at this
theorem turn_sur (k : Int) {a : Nat} (ha : a < d.terms.length) (c : Nat) : surB d' k (σ a) c = surB d k a c := by
  have hO' := turn_ok hT hO
  unfold surB
  rw [turn_clm hT hO k ha]
  cases hc : clmB d k a c
  · rfl
  · rw [Bool.true_and, Bool.true_and]
    have h1 : σ a ∈ claL d' k c d'.terms.length := claL_mem.2 ⟨by rw [hT.len]; exact (hT.s1 a ha).1, by rw [turn_clm hT hO k ha, hc]⟩
    have h2 : a ∈ claL d k c d.terms.length := claL_mem.2 ⟨ha, hc⟩
    rw [decide_eq_decide, one_of (claL_nodup _ _ _ _) h1, one_of (claL_nodup _ _ _ _) h2]
    constructor
    · intro h j hj
      obtain ⟨h3, h4⟩ := claL_mem.1 hj
      have h5 := h (σ j) (claL_mem.2 ⟨by rw [hT.len]; exact (hT.s1 j h3).1, by rw [turn_clm hT hO k h3, h4]⟩)
      have h6 := (hT.s1 j h3).2
      rw [h5, (hT.s1 a ha).2] at h6
      exact h6.symm
    · intro h j hj
      obtain ⟨h3, h4⟩ := claL_mem.1 hj
      rw [hT.len] at h3
      obtain ⟨h5, h6⟩ := hT.t1 j h3
      rw [turn_clm2 hT hO k h3] at h4
      rw [← h6, h (τ j) (claL_mem.2 ⟨h5, h4⟩)]
theorem turn_owe {a : Nat} (ha : a < d.terms.length) : oweV d' (σ a) = oweV d a ∧ oweE d' (σ a) = 0 := by
  have hO' := turn_ok hT hO
  have hs : σ a < d'.terms.length := by rw [hT.len]; exact (hT.s1 a ha).1
  refine ⟨?_, (owe_ok hO' hs).1⟩
  rw [(owe_ok hO ha).2, (owe_ok hO' hs).2]
  have e1 : ∀ k : Int, surN d' k (σ a) = surN d k a := fun k => Nat.eq_of_testBit_eq fun i => by rw [sur_bit hO, sur_bit hO', turn_sur hT hO k ha]
  have e2 : ∀ k : Int, clm d' k (σ a) = clm d k a := fun k => Nat.eq_of_testBit_eq fun i => by rw [clm_bit hO, clm_bit hO', turn_clm hT hO k ha]
  unfold lowL higL
  rw [hT.pr, hT.pd a ha, hT.tm a ha]
  have e3 : (fun k : Nat => comV (termN d a) (d.prices.getD k 0) (pc (surN d' k (σ a)) : Nat)) = fun k : Nat => comV (termN d a) (d.prices.getD k 0) (pc (surN d k a) : Nat) := funext fun k => by rw [e1]
  have e4 : (fun k : Nat => comV (termN d a) (d.prices.getD k 0) (pc (clm d' k (σ a)) : Nat)) = fun k : Nat => comV (termN d a) (d.prices.getD k 0) (pc (clm d k a) : Nat) := funext fun k => by rw [e2]
  rw [e3, e4]
theorem turn_cs (k : Int) : ∀ m, csT d' k m = csT d k m
  | 0 => rfl
  | m + 1 => by
    have ih := turn_cs k m
    have hO' := turn_ok hT hO
    have hiff : whoN d' k m = 0 ↔ whoN d k m = 0 := by
      rw [sold_iff hO', sold_iff hO]
      constructor
      · intro h
        have h1 := List.eq_nil_of_length_eq_zero h
        cases h2 : claL d k m d.terms.length with
        | nil => rfl
        | cons j l =>
          have hj : j ∈ claL d k m d.terms.length := by rw [h2]; exact .head _
          obtain ⟨h3, h4⟩ := claL_mem.1 hj
          have : σ j ∈ claL d' k m d'.terms.length := claL_mem.2 ⟨by rw [hT.len]; exact (hT.s1 j h3).1, by rw [turn_clm hT hO k h3, h4]⟩
          rw [h1] at this; cases this
      · intro h
        have h1 := List.eq_nil_of_length_eq_zero h
        cases h2 : claL d' k m d'.terms.length with
        | nil => rfl
        | cons j l =>
          have hj : j ∈ claL d' k m d'.terms.length := by rw [h2]; exact .head _
          obtain ⟨h3, h4⟩ := claL_mem.1 hj
          rw [hT.len] at h3
          rw [turn_clm2 hT hO k h3] at h4
          have : τ j ∈ claL d k m d.terms.length := claL_mem.2 ⟨(hT.t1 j h3).1, h4⟩
          rw [h1] at this; cases this
    by_cases hz : whoN d k m = 0
    · rw [csT_no hz, csT_no (hiff.2 hz), ih]
    · rw [csT_put hz, csT_put (fun h => hz (hiff.1 h)), ih]
omit hT in
theorem tru_who (k : Int) (t : List Nat) : (t ∈ truL d k ↔ t.length = (csT d k 12).length ∧ ∀ (i g c : Nat), t[i]? = some g → (csT d k 12)[i]? = some c → g < d.terms.length ∧ clmB d k g c = true) := by
  have hw : wsL d k = (csT d k 12).map (whoN d k) := by unfold wsL soldL; rw [ws_map]
  unfold truL
  rw [hw]
  constructor
  · intro h
    refine ⟨by rw [(tru_mem h).1, List.length_map], fun i g c hg hc => ?_⟩
    have := tru_at h hg (w := whoN d k c) (by rw [List.getElem?_map, hc]; rfl)
    rw [who_clr hO, List.mem_filter, List.mem_range] at this
    exact this
  · rintro ⟨h1, h2⟩
    refine tru_of (by rw [h1, List.length_map]) fun i g w hg hw => ?_
    rw [List.getElem?_map] at hw
    cases hc : (csT d k 12)[i]? with
    | none => rw [hc] at hw; cases hw
    | some c =>
      rw [hc] at hw; cases hw
      rw [who_clr hO, List.mem_filter, List.mem_range]
      exact h2 i g c hg hc
end
theorem count_inj {σ τ : Nat → Nat} {n : Nat} (hs : ∀ a, a < n → τ (σ a) = a) : ∀ {t : List Nat}, (∀ x ∈ t, x < n) → ∀ {a : Nat}, a < n → (t.map σ).count (σ a) = t.count a
  | [], _, a, _ => rfl
  | x :: t, h, a, ha => by
    have ih := count_inj hs (t := t) (fun y hy => h y (.tail _ hy)) ha
    rw [List.map_cons, List.count_cons, List.count_cons, ih]
    congr 1
    by_cases e : x = a
    · subst e; simp
    · have hne : ¬ σ x = σ a := fun e2 => e (by rw [← hs x (h x (.head _)), e2, hs a ha])
      have e1 : (σ x == σ a) = false := by simpa using hne
      have e2 : (x == a) = false := by simpa using e
      rw [e1, e2]
theorem perm_turn {σ τ : Nat → Nat} {n : Nat} (hs : ∀ a, a < n → σ a < n ∧ τ (σ a) = a) (ht : ∀ b, b < n → τ b < n ∧ σ (τ b) = b) : ((List.range n).map σ).Perm (List.range n) := by
  rw [List.perm_ext_iff_of_nodup ?_ List.nodup_range]
  · intro x
    rw [List.mem_map, List.mem_range]
    constructor
    · rintro ⟨a, ha, rfl⟩; exact (hs a (List.mem_range.1 ha)).1
    · intro hx; exact ⟨τ x, List.mem_range.2 (ht x hx).1, (ht x hx).2⟩
  · rw [List.Nodup, List.pairwise_map]
    refine List.Pairwise.imp_of_mem (fun {a b} ha hb hab e => hab ?_) List.nodup_range
    rw [← (hs a (List.mem_range.1 ha)).2, e, (hs b (List.mem_range.1 hb)).2]
section
variable {d d' : RoyD} {σ τ : Nat → Nat} (hT : TurnD d d' σ τ) (hO : RoyOk d)
include hT hO
theorem turn_tot (x : Int) {t : List Nat} (ht : ∀ y ∈ t, y < d.terms.length) : totV d' x (cnt (0, 0, 0, 0) (t.map σ)) = totV d x (cnt (0, 0, 0, 0) t) := by
  have hn := hO.nt
  unfold totV
  rw [hT.len, tot_cnt x (fun y hy => by
    obtain ⟨z, hz, rfl⟩ := List.mem_map.1 hy
    have := (hT.s1 z (ht z hz)).1; omega) _ hn, tot_cnt x (fun y hy => by have := ht y hy; omega) _ hn]
  have hp := perm_turn hT.s1 hT.t1
  have h1 : sumI ((List.range d.terms.length).map fun j => comV (termN d' j) x ((t.map σ).count j : Nat)) = sumI (((List.range d.terms.length).map σ).map fun j => comV (termN d' j) x ((t.map σ).count j : Nat)) := sum_perm (hp.symm.map _)
  rw [h1, List.map_map]
  congr 1
  refine List.map_congr_left fun a ha => ?_
  have ha := List.mem_range.1 ha
  show comV (termN d' (σ a)) x ((t.map σ).count (σ a) : Nat) = _
  rw [hT.tm a ha, count_inj (fun a ha => (hT.s1 a ha).2) ht ha]
theorem turn_tru (k : Int) (F F' : List Nat → Int) (hF : ∀ t, t ∈ truL d k → F' (t.map σ) = F t) : ∀ x, x ∈ (truL d' k).map F' ↔ x ∈ (truL d k).map F := by
  have hO' := turn_ok hT hO
  have hcs := turn_cs hT hO k 12
  intro x
  rw [List.mem_map, List.mem_map]
  have fwd : ∀ t, t ∈ truL d k → t.map σ ∈ truL d' k := fun t h => by
    rw [tru_who hO] at h
    have key : (t.map σ).length = (csT d' k 12).length ∧ ∀ (i g c : Nat), (t.map σ)[i]? = some g → (csT d' k 12)[i]? = some c → g < d'.terms.length ∧ clmB d' k g c = true := by
      rw [hcs]
      refine ⟨by rw [List.length_map]; exact h.1, fun i g c hg hc => ?_⟩
      rw [List.getElem?_map] at hg
      cases e : t[i]? with
      | none => rw [e] at hg; cases hg
      | some y =>
        rw [e] at hg; cases hg
        obtain ⟨h1, h2⟩ := h.2 i y c e hc
        exact ⟨by rw [hT.len]; exact (hT.s1 y h1).1, by rw [turn_clm hT hO k h1, h2]⟩
    have hw : wsL d' k = (csT d' k 12).map (whoN d' k) := by unfold wsL soldL; rw [ws_map]
    unfold truL
    rw [hw]
    refine tru_of (by rw [key.1, List.length_map]) fun i g w hg hw => ?_
    rw [List.getElem?_map] at hw
    cases hc : (csT d' k 12)[i]? with
    | none => rw [hc] at hw; cases hw
    | some c =>
      rw [hc] at hw; cases hw
      rw [who_clr hO', List.mem_filter, List.mem_range]
      exact key.2 i g c hg hc
  constructor
  · rintro ⟨t, ht, rfl⟩
    have h1 := tru_mem ht
    have hw : wsL d' k = (csT d' k 12).map (whoN d' k) := by unfold wsL soldL; rw [ws_map]
    have h2 : ∀ (i g c : Nat), t[i]? = some g → (csT d' k 12)[i]? = some c → g < d'.terms.length ∧ clmB d' k g c = true := fun i g c hg hc => by
      have := tru_at ht hg (w := whoN d' k c) (by rw [hw, List.getElem?_map, hc]; rfl)
      rw [who_clr hO', List.mem_filter, List.mem_range] at this
      exact this
    have hlt : ∀ y ∈ t, y < d.terms.length := fun y hy => by have := h1.2 y hy; rwa [hT.len] at this
    have hback : t.map τ ∈ truL d k := by
      rw [tru_who hO]
      refine ⟨?_, fun i g c hg hc => ?_⟩
      · rw [List.length_map, h1.1, hw, List.length_map, hcs]
      · rw [List.getElem?_map] at hg
        cases e : t[i]? with
        | none => rw [e] at hg; cases hg
        | some y =>
          rw [e] at hg; cases hg
          have hy := hlt y (List.mem_of_getElem? e)
          have h3 := (h2 i y c e (by rw [hcs]; exact hc)).2
          rw [turn_clm2 hT hO k hy] at h3
          exact ⟨(hT.t1 y hy).1, h3⟩
    have hrt : (t.map τ).map σ = t := by
      rw [List.map_map]
      conv => rhs; rw [← List.map_id t]
      refine List.map_congr_left fun y hy => (hT.t1 y (hlt y hy)).2
    refine ⟨t.map τ, hback, ?_⟩
    rw [← hF _ hback, hrt]
  · rintro ⟨t, ht, rfl⟩
    exact ⟨t.map σ, fwd t ht, hF t ht⟩
theorem turn_all {k : Nat} (hk : k < d.prices.length) : allV d' k = allV d k ∧ allE d' k = 0 := by
  have hO' := turn_ok hT hO
  have hk' : k < d'.prices.length := by rw [hT.pr]; exact hk
  refine ⟨?_, allE_ok hO' hk'⟩
  have v1 := allV_ok (allE_ok hO hk)
  have v2 := allV_ok (allE_ok hO' hk')
  rw [reach_map] at v1 v2
  have ep : priceN d' k = priceN d k := by unfold priceN; rw [hT.pr]
  have h := turn_tru hT hO k (fun t => totV d (priceN d k) (cnt (0, 0, 0, 0) t)) (fun t => totV d' (priceN d' k) (cnt (0, 0, 0, 0) t)) fun t ht => by
    rw [ep]; exact turn_tot hT hO _ (tru_mem ht).2
  have hne : (truL d' k).map (fun t => totV d' (priceN d' k) (cnt (0, 0, 0, 0) t)) ≠ [] := by simpa using truL_ne hO' k
  obtain ⟨e1, e2⟩ := lo_same h hne
  rw [v1, v2, e1, e2]
theorem turn_get {k part : Nat} (hk : k < d.prices.length) (hp : part < (sharesN d k).length) : getV d' k part = getV d k part ∧ getE d' k part = 0 ∧ getE d k part = 0 := by
  have hO' := turn_ok hT hO
  have hk' : k < d'.prices.length := by rw [hT.pr]; exact hk
  have es : sharesN d' k = sharesN d k := by unfold sharesN; rw [hT.sh]
  have ep : priceN d' k = priceN d k := by unfold priceN; rw [hT.pr]
  have g0 : ∀ {d : RoyD}, RoyOk d → k < d.prices.length → part < (sharesN d k).length → getE d k part = 0 := fun {d} hO hk hp => by
    have h1 : isKd d k = true := by unfold isKd inI; simp only [Bool.and_eq_true, decide_eq_true_eq]; omega
    have h2 : inI (part : Nat) 0 (((sharesN d k).length : Int) - 1) = true := by unfold inI; simp only [Bool.and_eq_true, decide_eq_true_eq]; omega
    exact openE_z.2 ⟨royB_iff.2 hO, by rw [h1, h2]; rfl⟩
  have h3 := g0 hO hk hp
  have h4 := g0 hO' hk' (by rw [es]; exact hp)
  refine ⟨?_, h4, h3⟩
  have v1 : getV d k part = (loL ((truL d k).map fun t => getF d k part (cnt (0, 0, 0, 0) t)), hiL ((truL d k).map fun t => getF d k part (cnt (0, 0, 0, 0) t))) := by unfold getV; rw [if_pos h3, reach_map]
  have v2 : getV d' k part = (loL ((truL d' k).map fun t => getF d' k part (cnt (0, 0, 0, 0) t)), hiL ((truL d' k).map fun t => getF d' k part (cnt (0, 0, 0, 0) t))) := by unfold getV; rw [if_pos h4, reach_map]
  have h := turn_tru hT hO k (fun t => getF d k part (cnt (0, 0, 0, 0) t)) (fun t => getF d' k part (cnt (0, 0, 0, 0) t)) fun t ht => by
    unfold getF poolV
    rw [es, ep, turn_tot hT hO _ (tru_mem ht).2, cards_N, cards_N, cards_cnt, cards_cnt, List.length_map]
  have hne : (truL d' k).map (fun t => getF d' k part (cnt (0, 0, 0, 0) t)) ≠ [] := by simpa using truL_ne hO' k
  obtain ⟨e1, e2⟩ := lo_same h hne
  rw [v1, v2, e1, e2]
end
/-- Agents turned by so many. -/
def rot (n s a : Nat) : Nat := (a + s) % n
def rotB (n s b : Nat) : Nat := (b + (n - s % n)) % n
theorem rot_ok {n s a : Nat} (ha : a < n) : rot n s a < n ∧ rotB n s (rot n s a) = a := by
  have hn : 0 < n := by omega
  unfold rot rotB
  refine ⟨Nat.mod_lt _ hn, ?_⟩
  have h1 := Nat.mod_lt s hn
  have e : (a + s) % n = if a + s % n < n then a + s % n else a + s % n - n := by
    rw [← Nat.add_mod_mod]
    split
    · exact Nat.mod_eq_of_lt (by assumption)
    · rw [Nat.mod_eq_sub_mod (by omega), Nat.mod_eq_of_lt (by omega)]
  rw [e]
  split
  · rw [show a + s % n + (n - s % n) = a + n by omega, Nat.add_mod_right, Nat.mod_eq_of_lt ha]
  · rw [show a + s % n - n + (n - s % n) = a by omega, Nat.mod_eq_of_lt ha]
theorem rotB_ok {n s b : Nat} (hb : b < n) : rotB n s b < n ∧ rot n s (rotB n s b) = b := by
  have hn : 0 < n := by omega
  unfold rot rotB
  refine ⟨Nat.mod_lt _ hn, ?_⟩
  have h1 := Nat.mod_lt s hn
  rw [← Nat.add_mod_mod]
  have e : (b + (n - s % n)) % n = if b + (n - s % n) < n then b + (n - s % n) else b + (n - s % n) - n := by
    split
    · exact Nat.mod_eq_of_lt (by assumption)
    · rw [Nat.mod_eq_sub_mod (by omega), Nat.mod_eq_of_lt (by omega)]
  rw [e]
  split
  · rw [show b + (n - s % n) + s % n = b + n by omega, Nat.add_mod_right, Nat.mod_eq_of_lt hb]
  · rw [show b + (n - s % n) - n + s % n = b by omega, Nat.mod_eq_of_lt hb]
end Go.RoyM
namespace Go.Proofs.Ytccpgpnekoncoaa
open Go Go.Sy Go.RoyM
set_option maxRecDepth 100000 in
set_option maxHeartbeats 4000000 in
theorem s29 (pp wn : Int) (sw sd : Option Addr) (cw cd : Nat) (dl : List DlD) (t : Int) (sa : Option Addr) (ca : Nat) (u : World) (hA : PrAt u pp wn sw sd dl) (hI : IAt u sa [1]) (ht : 1 ≤ t ∧ t ≤ 1048576) : Calls Try.prog 29 #[.agg (prC pp sw cw sd dl.length cd), .agg #[.slice sa 1 ca, .int .i64 t]] u (Ret fun v w' => ∃ so co, v = .tuple #[.slice so 1 co, .int .i64 0] ∧ TAt 2 spN w' so [(t, t)] ∧ Ext [] u w') := by
  refine calls_ofM Try.func29 rfl rfl (fun a hf => ?_)
  have hh := Hp.init u []
  refine sy_sq ?_
  refine o_box hf hh ?_; clear hf hh a; intro B2 a w hf hh
  refine o_box hf hh ?_; clear hf hh a; intro B3 a w hf hh
  refine o_v hf hh (yv_assign rfl) ?_; clear hf a; intro a hf
  refine o_alloc hf hh Try.ze_42 ?_; clear hf hh a; intro B5 a w hf hh
  refine o_end ?_
  refine sy_sq ?_
  refine o_defer hf ?_; clear hf a; intro a hf
  refine o_end ?_
  refine sy_sq ?_
  refine o_v hf hh (y_lds Try.ag_38 rfl) ?_; clear hf a; intro a hf
  refine o_call hf Try.en_32 rfl rfl rfl (s32 pp wn sw sd cw cd dl _ (hA.ext hh.ext)) ?_; clear hf a; intro v a w hR hf
  obtain ⟨Bv, rfl, hx⟩ := hR; replace hh := hh.join hx; clear hx
  refine o_v hf hh (yv_assign rfl) ?_; clear hf a; intro a hf
  refine o_end ?_
  refine sy_sq ?_
  refine o_v hf hh (y_lds Try.ag_38 rfl) ?_; clear hf a; intro a hf
  refine o_v hf hh (y_lds Try.ag_30 rfl) ?_; clear hf a; intro a hf
  refine o_call hf Try.en_86 rfl rfl rfl (s86 pp sw sd cw dl.length cd t sa ca _ (hI.ext hh.ext) ht) ?_; clear hf a; intro v a w hR hf
  obtain ⟨rfl, hx⟩ := hR; replace hh := hh.more hx; clear hx
  refine o_call hf Try.en_33 rfl rfl rfl (s33t 2 _) ?_; clear hf a; intro v a w hR hf
  replace hh := hh.more hR; clear hR
  refine o_end ?_
  refine sy_sq ?_
  refine o_v hf hh (yv_fieldAddr Try.fo_38_5 rfl) ?_; clear hf a; intro a hf
  refine o_v hf hh (y_ld Try.sc_25 rfl) ?_; clear hf a; intro a hf
  refine o_v hf hh (yv_len Try.se_25 rfl) ?_; clear hf a; intro a hf
  refine ops_make0 (q := 1) hf hh Try.eb_39 rfl rfl (by omega) (by simp only [maxLen]; omega) (.inl rfl) rfl ?_; clear hf hh a; intro v18 X a w hO18 hf hh
  replace hh : Hp u [] ([(Bv, .cells (prC pp sw cw sd dl.length cd) 97), (B5, .cells #[.int .i64 0] 42), (B3, .cells #[.slice sa 1 ca, .int .i64 t] 30), (B2, .cells (prC pp sw cw sd dl.length cd) 38)] ++ X) w := hh.perm List.perm_append_comm
  refine o_v hf hh (yv_assign rfl) ?_; clear hf a; intro a hf
  refine o_end ?_
  refine sy_seq ?_
  refine sy_sq ?_
  refine o_v hf hh (yv_fieldAddr Try.fo_38_5 rfl) ?_; clear hf a; intro a hf
  refine o_v hf hh (y_ld Try.sc_25 rfl) ?_; clear hf a; intro a hf
  refine o_v hf hh (yv_len Try.se_25 rfl) ?_; clear hf a; intro a hf
  refine o_v hf hh (yv_move rfl) ?_; clear hf a; intro a hf
  refine o_end ?_
  refine sy_block ?_
  refine sy_loopH (σ := Nat × Value × List (Nat × Obj)) [7, 8, 22, 23, 24, 25, 26, 27, 28, 29, 30, 31, 32] (fun q => [(22, .int .i64 (q.1 : Nat)), (7, q.2.1)]) (fun q => fun w' => q.1 ≤ 1 ∧ OwnSl 36 2 q.2.1 q.1 ((List.replicate q.1 ((t, t) : Int × Int)).flatMap spN) q.2.2 ∧ Hp u [] ([(Bv, .cells (prC pp sw cw sd dl.length cd) 97), (B5, .cells #[.int .i64 0] 42), (B3, .cells #[.slice sa 1 ca, .int .i64 t] 30), (B2, .cells (prC pp sw cw sd dl.length cd) 38)] ++ q.2.2) w') (fun q => 1 - q.1) ((0, v18, X)) hf ?_ ?_ ?_
  · repeat' (first | exact True.intro | refine And.intro rfl ?_)
  · exact ⟨Nat.zero_le _, hO18, hh⟩
  ·rintro q a w ⟨hi, hOw, hh⟩ hf
   obtain ⟨i, v4, X⟩ := q; simp only at hi hOw hh hf ⊢
   refine sy_sq ?_
   refine o_v hf hh (yv_bin rfl rfl rfl) ?_; clear hf a; intro a hf
   refine o_end ?_
   refine sy_seq ?_
   refine sy_cond hf rfl (fun hg6 => ?_) (fun hg6 => ?_)
   ·have hG6 := hg6; try simp only [gS] at hG6
    refine sy_skip ?_
    refine then_n ?_
    refine sy_seq ?_
    refine sy_block ?_
    refine sy_sq ?_
    refine o_v hf hh (yv_move rfl) ?_; clear hf a; intro a hf
    refine o_v hf hh (yv_assign rfl) ?_; clear hf a; intro a hf
    refine o_end ?_
    obtain rfl : i = 0 := by omega
    refine sy_ops ?_
    refine o_v hf hh (yv_move rfl) ?_; clear hf a; intro a hf
    refine o_v hf hh (yv_move rfl) ?_; clear hf a; intro a hf
    refine o_v hf hh (y_lds Try.ag_30 rfl) ?_; clear hf a; intro a hf
    refine o_v hf hh (yv_move rfl) ?_; clear hf a; intro a hf
    refine o_call hf Try.en_87 rfl rfl rfl (s87 pp sw sd cw dl.length cd Bv t sa ca _ (hh.at (i := 0) rfl) (hI.ext hh.ext) ht) ?_; clear hf a; intro v a w hR hf
    obtain ⟨rfl, hx⟩ := hR; replace hh := hh.more hx; clear hx
    refine ops_buildSl hf hh Try.bl_39_1 rfl rfl (.inl rfl) rfl ?_; clear hf hh; clear a; intro B30 a w hf hh
    refine ops_append (e := 36) (size := 2) (xs := ((List.replicate 0 ((t, t) : Int × Int)).flatMap spN)) (X := X) (Z := [(Bv, Obj.cells (prC pp sw cw sd dl.length cd) 97), (B5, Obj.cells #[.int .i64 0] 42), (B3, Obj.cells #[.slice sa 1 ca, .int .i64 t] 30), (B2, Obj.cells (prC pp sw cw sd dl.length cd) 38)]) (m := 0) (q := 1) hf (hh.perm (.cons _ (List.perm_append_comm (l₁ := [(Bv, Obj.cells (prC pp sw cw sd dl.length cd) 97), (B5, Obj.cells #[.int .i64 0] 42), (B3, Obj.cells #[.slice sa 1 ca, .int .i64 t] 30), (B2, Obj.cells (prC pp sw cw sd dl.length cd) 38)]) (l₂ := X)))) Try.eb_39 rfl rfl hOw rfl rfl rfl (by simp only [maxLen]; omega) (by omega) (.inl rfl) rfl ?_; clear hf hh a; intro v7 X7 a w hO7 hf hh
    replace hh : Hp u [] ([(Bv, Obj.cells (prC pp sw cw sd dl.length cd) 97), (B5, Obj.cells #[.int .i64 0] 42), (B3, Obj.cells #[.slice sa 1 ca, .int .i64 t] 30), (B2, Obj.cells (prC pp sw cw sd dl.length cd) 38)] ++ X7) w := hh.perm List.perm_append_comm
    refine o_v hf hh (yv_assign rfl) ?_; clear hf a; intro a hf
    refine ops_end ?_
    refine blk_n ?_
    refine then_n ?_
    refine sy_ops ?_
    refine o_v hf hh (y_add rfl rfl) ?_; clear hf a; intro a hf
    refine o_v hf hh (yv_move rfl) ?_; clear hf a; intro a hf
    refine ops_end ?_
    refine then_n ?_
    exact ⟨(1, _, X7), ⟨⟨by simp only; omega, hO7, hh⟩, (hf.head (by repeat' (first | exact True.intro | refine And.intro rfl ?_)) (Keep.cons rfl (Keep.cons rfl (Keep.cons rfl (Keep.cons rfl (Keep.cons rfl (Keep.cons rfl (Keep.cons rfl (Keep.cons rfl (Keep.cons rfl (Keep.cons rfl (Keep.cons rfl (Keep.cons rfl (Keep.cons rfl (Keep.app rfl (Keep.rm rfl Keep.base))))))))))))))))⟩, by simp only; omega⟩
   ·have hG6 := hg6; try simp only [gS] at hG6
    refine sy_exit ?_
    refine then_e ?_
    refine then_e ?_
    refine blk_e ?_
    refine then_n ?_
    refine sy_sq ?_
    refine o_v hf hh (yv_move rfl) ?_; clear hf a; intro a hf
    refine o_v hf hh (yv_assign rfl) ?_; clear hf a; intro a hf
    refine o_store hf hh Try.sz_42 fun w hh => ?_
    refine o_end ?_
    refine sy_ret ?_
    obtain rfl : i = 1 := by omega
    obtain ⟨oa6, cp6, rfl⟩ := own_val hOw
    exact ret_da (Ds := []) hf hh Try.en_31 (fun w' => d31r B5 w') fun w' hh => ⟨[.slice oa6 1 cp6, .int .i64 0], ⟨rfl, ⟨B5, 0, _, _, _, rfl, hh.at (i := 1) rfl, .inl ⟨Try.sc_42, rfl⟩⟩, True.intro⟩, oa6, cp6, rfl, own_tat (enc := spN) (n := 2) (e := 36) (l := [(t, t)]) (fun _ => rfl) hOw rfl (fun q hq => hh.get q (by simp [hq])), hh.ext⟩
theorem s10 (lo hi : Int) (w : World) : Calls Try.prog 10 #[.int .i64 lo, .int .i64 hi] w (Ret fun v w' => v = .agg #[.int .i64 lo, .int .i64 hi] ∧ Ext [] w w') := by
  refine calls_of Try.func10 rfl rfl (fun a hf => ?_)
  have hh := Hp.init w []
  refine sy_sq ?_
  refine o_alloc hf hh Try.ze_36 ?_; clear hf hh a; intro B4 a w hf hh
  refine o_end ?_
  refine sy_sq ?_
  refine o_v hf hh (yv_move rfl) ?_; clear hf a; intro a hf
  refine o_v hf hh (yv_move rfl) ?_; clear hf a; intro a hf
  refine o_v hf hh (yv_buildS Try.bs_36 rfl rfl) ?_; clear hf a; intro a hf
  refine o_store hf hh Try.sz_36 fun w hh => ?_
  refine o_end ?_
  refine sy_ret ?_
  refine ret_c (vs := [.agg #[.int .i64 lo, .int .i64 hi]]) hf ?_ ?_
  · exact ⟨⟨B4, 0, _, _, _, rfl, hh.at (i := 0) rfl, .inr ⟨2, _, Try.ag_36, rfl, rfl⟩⟩, True.intro⟩
  · exact ⟨rfl, hh.ext⟩
theorem s8 (n pr : Int) (Bp : Nat) (u : World) (hp : u.heap[Bp]? = some (.cells #[.int .i64 pr] 3 (0, 0))) (hb : 0 ≤ pr * n ∧ pr * n ≤ 1099511627776) : Calls Try.prog 8 #[.int .i64 n, ptr Bp 0] u (Ret fun v w' => v = .agg #[.int .i64 2, .slice none 0 0, .int .i64 0, .int .i64 0, .int .i64 n, .int .i64 (pr * n)] ∧ Ext [] u w') := by
  refine calls_of Try.func8 rfl rfl (fun a hf => ?_)
  have hh := Hp.init u []
  refine sy_sq ?_
  refine o_alloc hf hh Try.ze_32 ?_; clear hf hh a; intro B3 a w hf hh
  refine o_end ?_
  refine sy_sq ?_
  refine o_v hf hh (yv_move rfl) ?_; clear hf a; intro a hf
  refine o_v hf hh (y_ld Try.sc_3 rfl) ?_; clear hf a; intro a hf
  refine o_v hf hh (yv_move rfl) ?_; clear hf a; intro a hf
  refine o_v hf hh (y_mul rfl rfl) ?_; clear hf a; intro a hf
  refine o_v hf hh (yv_buildS Try.bs_32 rfl rfl) ?_; clear hf a; intro a hf
  refine o_store hf hh Try.sz_32 fun w hh => ?_
  refine o_end ?_
  refine sy_ret ?_
  refine ret_c (vs := [.agg #[.int .i64 2, .slice none 0 0, .int .i64 0, .int .i64 0, .int .i64 n, .int .i64 (pr * n)]]) hf ?_ ?_
  · exact ⟨⟨B3, 0, _, _, _, rfl, hh.at (i := 0) rfl, .inr ⟨6, _, Try.ag_32, rfl, rfl⟩⟩, True.intro⟩
  · exact ⟨rfl, hh.ext⟩
theorem s28 (n l h : Int) (w : World) : Calls Try.prog 28 #[.int .i64 n, .int .i64 l, .int .i64 h] w (Ret fun v w' => v = .bool (inI n l h) ∧ Ext [] w w') := by
  refine calls_of Try.func28 rfl rfl (fun a hf => ?_)
  have hh := Hp.init w []
  refine sy_sq ?_
  refine o_v hf hh (yv_assign rfl) ?_; clear hf a; intro a hf
  refine o_end ?_
  refine sy_sq ?_
  refine o_v hf hh (yv_move rfl) ?_; clear hf a; intro a hf
  refine o_v hf hh (yv_move rfl) ?_; clear hf a; intro a hf
  refine o_v hf hh (yv_bin rfl rfl rfl) ?_; clear hf a; intro a hf
  refine o_v hf hh (yv_move rfl) ?_; clear hf a; intro a hf
  refine guard_split hf (t := 10) rfl (fun hg2 => ?_) (fun hg2 => ?_)
  ·have hG2 := hg2; try simp only [gS] at hG2
   refine o_v hf hh (yv_move rfl) ?_; clear hf a; intro a hf
   refine o_v hf hh (yv_move rfl) ?_; clear hf a; intro a hf
   refine o_v hf hh (yv_bin rfl rfl rfl) ?_; clear hf a; intro a hf
   refine o_v hf hh (y_pt rfl rfl) ?_; clear hf a; intro a hf
   refine o_v hf hh (yv_assign rfl) ?_; clear hf a; intro a hf
   refine o_end ?_
   refine sy_ret ?_
   refine ret_r hf rfl rfl ?_
   unfold inI
   first
     | (rw [decide_eq_true (show l ≤ n by omega), Bool.true_and]; exact ⟨rfl, hh.ext⟩)
     | (rw [decide_eq_false (show ¬ l ≤ n by omega), Bool.false_and]; exact ⟨rfl, hh.ext⟩)
  ·have hG2 := hg2; try simp only [gS] at hG2
   refine o_off hf ?_; clear hf a; intro a hf
   refine o_off hf ?_; clear hf a; intro a hf
   refine o_off hf ?_; clear hf a; intro a hf
   refine o_v hf hh (y_pf rfl rfl) ?_; clear hf a; intro a hf
   refine o_v hf hh (yv_assign rfl) ?_; clear hf a; intro a hf
   refine o_end ?_
   refine sy_ret ?_
   refine ret_r hf rfl rfl ?_
   unfold inI
   first
     | (rw [decide_eq_true (show l ≤ n by omega), Bool.true_and]; exact ⟨rfl, hh.ext⟩)
     | (rw [decide_eq_false (show ¬ l ≤ n by omega), Bool.false_and]; exact ⟨rfl, hh.ext⟩)
end Go.Proofs.Ytccpgpnekoncoaa
namespace Go.Proofs.Ytccpgpnekoncoaa
set_option maxRecDepth 100000
open Go Go.Sy Go.RoyM
theorem fl43 : flatB Try.prog 36 = some 2 := by kernel_rfl
theorem p19 (la lb : List Int) (sa sb : Option Addr) (ca cb : Nat) (u : World) (hA : IAt u sa la) (hB : IAt u sb lb) (hl : la.length ≤ 1000000) : Calls Try.prog 30 #[.slice sa la.length ca, .slice sb lb.length cb] u (Ret fun v w' => v = .bool (decide (la = lb)) ∧ Ext [] u w') := by
  refine calls_of Try.func30 rfl rfl (fun a hf => ?_)
  have hh := Hp.init u []
  refine sy_sq ?_
  refine o_v hf hh (yv_assign rfl) ?_; clear hf a; intro a hf
  refine o_end ?_
  refine sy_seq ?_
  refine sy_sq ?_
  refine o_v hf hh (yv_move rfl) ?_; clear hf a; intro a hf
  refine o_v hf hh (yv_len Try.se_25 rfl) ?_; clear hf a; intro a hf
  refine o_v hf hh (yv_move rfl) ?_; clear hf a; intro a hf
  refine o_v hf hh (yv_len Try.se_25 rfl) ?_; clear hf a; intro a hf
  refine o_v hf hh (yv_bin rfl rfl rfl) ?_; clear hf a; intro a hf
  refine o_end ?_
  refine sy_cond hf rfl (fun hg2 => ?_) (fun hg2 => ?_)
  ·have hG2 := hg2; try simp only [gS] at hG2
   refine sy_sq ?_
   refine o_v hf hh (yv_assign rfl) ?_; clear hf a; intro a hf
   refine o_end ?_
   refine sy_ret ?_
   refine then_r ?_
   refine ret_r hf rfl rfl ?_
   exact ⟨congrArg Value.bool (decide_eq_false fun h => by subst h; simp_all).symm, hh.ext⟩
  ·have hG2 := hg2; try simp only [gS] at hG2
   refine sy_skip ?_
   refine then_n ?_
   refine sy_seq ?_
   refine sy_sq ?_
   refine o_v hf hh (yv_assign rfl) ?_; clear hf a; intro a hf
   refine o_end ?_
   refine sy_block ?_
   refine sy_loopF (σ := Nat) [4, 5, 11, 12, 13, 14, 15, 16, 17, 18, 19, 20, 21, 22, 23, 24, 25] (fun i => [(5, .int .i64 (i : Nat))]) (fun i => i ≤ la.length ∧ la.take i = lb.take i) (fun i => la.length - i) (0) hf hh ?_ ?_ ?_
   · repeat' (first | exact True.intro | refine And.intro rfl ?_)
   · exact ⟨Nat.zero_le _, rfl⟩
   ·rintro i a w ⟨hi, hT⟩ hf hh
    refine sy_seq ?_
    refine sy_sq ?_
    refine o_v hf hh (yv_move rfl) ?_; clear hf a; intro a hf
    refine o_v hf hh (yv_move rfl) ?_; clear hf a; intro a hf
    refine o_v hf hh (yv_len Try.se_25 rfl) ?_; clear hf a; intro a hf
    refine o_v hf hh (yv_bin rfl rfl rfl) ?_; clear hf a; intro a hf
    refine o_end ?_
    refine sy_cond hf rfl (fun hg4 => ?_) (fun hg4 => ?_)
    ·have hG4 := hg4; try simp only [gS] at hG4
     refine sy_skip ?_
     refine then_n ?_
     refine sy_seq ?_
     refine sy_block ?_
     refine sy_seq ?_
     obtain ⟨x, hx⟩ := ex_of (l := la) (i := i) (by omega)
     obtain ⟨y, hy⟩ := ex_of (l := lb) (i := i) (by omega)
     obtain ⟨blk, off, cc, T, fr, e, hb, hc⟩ := hA i x hx; subst e
     obtain ⟨blk2, off2, cc2, T2, fr2, e2, hb2, hc2⟩ := hB i y hy; subst e2
     refine sy_quiet (C := Hp _ _ _) Try.follows (by kernel_rfl) (hh.drawn _) ?_
     refine oq_v hf (yv_move rfl) ?_; clear hf a; intro a hf
     refine oq_v hf (yv_move rfl) ?_; clear hf a; intro a hf
     refine oq_v hf (y_ix Try.se_25 rfl rfl) ?_; clear hf a; intro a hf
     refine oq_v hf (y_ld Try.sc_3 rfl) ?_; clear hf a; intro a hf
     refine oq_v hf (yv_move rfl) ?_; clear hf a; intro a hf
     refine oq_v hf (yv_move rfl) ?_; clear hf a; intro a hf
     refine oq_v hf (y_ix Try.se_25 rfl rfl) ?_; clear hf a; intro a hf
     refine oq_v hf (y_ld Try.sc_3 rfl) ?_; clear hf a; intro a hf
     refine oq_v hf (yv_bin rfl rfl rfl) ?_; clear hf a; intro a hf
     refine q_end fun w hh => ?_
     refine then_n ?_
     refine sy_cond hf rfl (fun hg6 => ?_) (fun hg6 => ?_)
     ·have hG6 := hg6; try simp only [gS] at hG6
      refine sy_sq ?_
      refine o_v hf hh (yv_assign rfl) ?_; clear hf a; intro a hf
      refine o_end ?_
      refine sy_ret ?_
      refine blk_r ?_
      refine then_r ?_
      refine then_r ?_
      refine blk_r ?_
      refine then_r ?_
      refine ret_r hf rfl rfl ?_
      exact ⟨congrArg Value.bool (decide_eq_false (ne_at hx hy (by simp_all))).symm, hh.ext⟩
     ·have hG6 := hg6; try simp only [gS] at hG6
      refine sy_skip ?_
      refine blk_n ?_
      refine then_n ?_
      refine sy_ops ?_
      refine o_v hf hh (yv_move rfl) ?_; clear hf a; intro a hf
      refine o_v hf hh (y_add rfl rfl) ?_; clear hf a; intro a hf
      refine o_v hf hh (yv_assign rfl) ?_; clear hf a; intro a hf
      refine ops_end ?_
      refine then_n ?_
      exact ⟨i + 1, ⟨⟨by omega, eq_take hT hx hy (by simp_all)⟩, (hf.head (by repeat' (first | exact True.intro | refine And.intro rfl ?_)) (Keep.cons rfl (Keep.cons rfl (Keep.cons rfl (Keep.cons rfl (Keep.cons rfl (Keep.cons rfl (Keep.cons rfl (Keep.cons rfl (Keep.cons rfl (Keep.cons rfl (Keep.cons rfl (Keep.cons rfl (Keep.cons rfl (Keep.cons rfl (Keep.cons rfl (Keep.cons rfl (Keep.app rfl (Keep.rm rfl Keep.base))))))))))))))))))), hh⟩, by omega⟩
    ·have hG4 := hg4; try simp only [gS] at hG4
     refine sy_exit ?_
     refine then_e ?_
     refine then_e ?_
     refine blk_e ?_
     refine then_n ?_
     refine sy_sq ?_
     refine o_v hf hh (yv_assign rfl) ?_; clear hf a; intro a hf
     refine o_end ?_
     refine sy_ret ?_
     refine ret_r hf rfl rfl ?_
     obtain rfl : i = la.length := by omega
     refine ⟨congrArg Value.bool (decide_eq_true ?_).symm, hh.ext⟩
     rw [List.take_length, List.take_of_length_le (by omega)] at hT
     exact hT
end Go.Proofs.Ytccpgpnekoncoaa
namespace Go.Proofs.Ytccpgpnekoncoaa
set_option maxRecDepth 100000
open Go Go.Sy Go.RoyM
theorem p51 (n l h : Int) (w : World) : Calls Try.prog 28 #[.int .i64 n, .int .i64 l, .int .i64 h] w (Ret fun v w' => v = .bool (inI n l h) ∧ Ext [] w w') := by
  refine calls_of Try.func28 rfl rfl (fun a hf => ?_)
  have hh := Hp.init w []
  refine sy_sq ?_
  refine o_v hf hh (yv_assign rfl) ?_; clear hf a; intro a hf
  refine o_end ?_
  refine sy_sq ?_
  refine o_v hf hh (yv_move rfl) ?_; clear hf a; intro a hf
  refine o_v hf hh (yv_move rfl) ?_; clear hf a; intro a hf
  refine o_v hf hh (yv_bin rfl rfl rfl) ?_; clear hf a; intro a hf
  refine o_v hf hh (yv_move rfl) ?_; clear hf a; intro a hf
  refine guard_split hf (t := 10) rfl (fun hg2 => ?_) (fun hg2 => ?_)
  ·have hG2 := hg2; try simp only [gS] at hG2
   refine o_v hf hh (yv_move rfl) ?_; clear hf a; intro a hf
   refine o_v hf hh (yv_move rfl) ?_; clear hf a; intro a hf
   refine o_v hf hh (yv_bin rfl rfl rfl) ?_; clear hf a; intro a hf
   refine o_v hf hh (y_pt rfl rfl) ?_; clear hf a; intro a hf
   refine o_v hf hh (yv_assign rfl) ?_; clear hf a; intro a hf
   refine o_end ?_
   refine sy_ret ?_
   refine ret_r hf rfl rfl ?_
   unfold inI
   first
     | (rw [decide_eq_true (show l ≤ n by omega), Bool.true_and]; exact ⟨rfl, hh.ext⟩)
     | (rw [decide_eq_false (show ¬ l ≤ n by omega), Bool.false_and]; exact ⟨rfl, hh.ext⟩)
  ·have hG2 := hg2; try simp only [gS] at hG2
   refine o_off hf ?_; clear hf a; intro a hf
   refine o_off hf ?_; clear hf a; intro a hf
   refine o_off hf ?_; clear hf a; intro a hf
   refine o_v hf hh (y_pf rfl rfl) ?_; clear hf a; intro a hf
   refine o_v hf hh (yv_assign rfl) ?_; clear hf a; intro a hf
   refine o_end ?_
   refine sy_ret ?_
   refine ret_r hf rfl rfl ?_
   unfold inI
   first
     | (rw [decide_eq_true (show l ≤ n by omega), Bool.true_and]; exact ⟨rfl, hh.ext⟩)
     | (rw [decide_eq_false (show ¬ l ≤ n by omega), Bool.false_and]; exact ⟨rfl, hh.ext⟩)
theorem p39 (t : TermD) (w : World) : Calls Try.prog 6 #[tmV t] w (Ret fun v w' => v = .bool (termB t) ∧ Ext [] w w') := by
  refine calls_of Try.func6 rfl rfl (fun a hf => ?_)
  have hh := Hp.init w []
  rw [termB_in]
  refine sy_sq ?_
  refine o_box hf hh ?_; clear hf hh a; intro B1 a w hf hh
  refine o_v hf hh (yv_assign rfl) ?_; clear hf a; intro a hf
  refine o_end ?_
  refine sy_sq ?_
  refine o_v hf hh (yv_fieldAddr Try.fo_23_0 rfl) ?_; clear hf a; intro a hf
  refine o_v hf hh (y_ld Try.sc_3 rfl) ?_; clear hf a; intro a hf
  refine o_call hf Try.en_28 rfl rfl rfl (p51 _ _ _ _) ?_; clear hf a; intro v a w hR hf
  obtain ⟨rfl, hx⟩ := hR; replace hh := hh.more hx; clear hx
  refine o_v hf hh (yv_move rfl) ?_; clear hf a; intro a hf
  refine guard_split hf (t := 6) rfl (fun hg2 => ?_) (fun hg2 => ?_)
  ·have hG2 := hg2; try simp only [gS] at hG2
   refine o_v hf hh (yv_fieldAddr Try.fo_23_2 rfl) ?_; clear hf a; intro a hf
   refine o_v hf hh (y_ld Try.sc_3 rfl) ?_; clear hf a; intro a hf
   refine o_call hf Try.en_28 rfl rfl rfl (p51 _ _ _ _) ?_; clear hf a; intro v a w hR hf
   obtain ⟨rfl, hx⟩ := hR; replace hh := hh.more hx; clear hx
   refine o_v hf hh (y_pt rfl rfl) ?_; clear hf a; intro a hf
   refine o_v hf hh (yv_move rfl) ?_; clear hf a; intro a hf
   refine guard_split hf (t := 11) rfl (fun hg4 => ?_) (fun hg4 => ?_)
   ·have hG4 := hg4; try simp only [gS] at hG4
    refine o_v hf hh (yv_fieldAddr Try.fo_23_1 rfl) ?_; clear hf a; intro a hf
    refine o_v hf hh (y_ld Try.sc_3 rfl) ?_; clear hf a; intro a hf
    refine o_call hf Try.en_28 rfl rfl rfl (p51 _ _ _ _) ?_; clear hf a; intro v a w hR hf
    obtain ⟨rfl, hx⟩ := hR; replace hh := hh.more hx; clear hx
    refine o_v hf hh (y_pt rfl rfl) ?_; clear hf a; intro a hf
    refine o_v hf hh (yv_assign rfl) ?_; clear hf a; intro a hf
    refine o_end ?_
    refine sy_ret ?_
    refine ret_r hf rfl rfl ?_
    refine ⟨congrArg Value.bool ?_, hh.ext⟩
    clear hf hh
    first
      | (simp_all; done)
      | (simp only [*, Bool.false_and, Bool.and_false, Bool.true_and, Bool.and_true, Bool.not_true, Bool.not_false]; done)
      | (rw [Bool.eq_iff_iff]; simp_all <;> omega)
   ·have hG4 := hg4; try simp only [gS] at hG4
    refine o_off hf ?_; clear hf a; intro a hf
    refine o_off hf ?_; clear hf a; intro a hf
    refine o_off hf ?_; clear hf a; intro a hf
    refine o_v hf hh (y_pf rfl rfl) ?_; clear hf a; intro a hf
    refine o_v hf hh (yv_assign rfl) ?_; clear hf a; intro a hf
    refine o_end ?_
    refine sy_ret ?_
    refine ret_r hf rfl rfl ?_
    refine ⟨congrArg Value.bool ?_, hh.ext⟩
    clear hf hh
    first
      | (simp_all; done)
      | (simp only [*, Bool.false_and, Bool.and_false, Bool.true_and, Bool.and_true, Bool.not_true, Bool.not_false]; done)
      | (rw [Bool.eq_iff_iff]; simp_all <;> omega)
  ·have hG2 := hg2; try simp only [gS] at hG2
   refine o_off hf ?_; clear hf a; intro a hf
   refine o_off hf ?_; clear hf a; intro a hf
   refine o_off hf ?_; clear hf a; intro a hf
   refine o_v hf hh (y_pf rfl rfl) ?_; clear hf a; intro a hf
   refine o_v hf hh (yv_move rfl) ?_; clear hf a; intro a hf
   refine o_off hf ?_; clear hf a; intro a hf
   refine o_off hf ?_; clear hf a; intro a hf
   refine o_off hf ?_; clear hf a; intro a hf
   refine o_v hf hh (y_pf rfl rfl) ?_; clear hf a; intro a hf
   refine o_v hf hh (yv_assign rfl) ?_; clear hf a; intro a hf
   refine o_end ?_
   refine sy_ret ?_
   refine ret_r hf rfl rfl ?_
   refine ⟨congrArg Value.bool ?_, hh.ext⟩
   clear hf hh
   first
     | (simp_all; done)
     | (simp only [*, Bool.false_and, Bool.and_false, Bool.true_and, Bool.and_true, Bool.not_true, Bool.not_false]; done)
     | (rw [Bool.eq_iff_iff]; simp_all <;> omega)
theorem all_take {l : List Int} {i : Nat} {x : Int} {f : Int → Bool} (h : (l.take i).all f = true) (hx : l[i]? = some x) (hf : f x = true) : (l.take (i + 1)).all f = true := by
  rw [List.take_add_one, hx, List.all_append, h]
  simp [hf]
theorem all_no {l : List Int} {i : Nat} {x : Int} {f : Int → Bool} (hx : l[i]? = some x) (hf : f x = false) : l.all f = false := by
  rw [List.all_eq_false]
  exact ⟨x, List.mem_of_getElem? hx, by rw [hf]; decide⟩
theorem p37 (l : List Int) (sa : Option Addr) (c0 : Nat) (u : World) (hA : IAt u sa l) (hl : l.length ≤ 1000) : Calls Try.prog 5 #[.slice sa l.length c0] u (Ret fun v w' => v = .bool (shB l) ∧ Ext [] u w') := by
  refine calls_of Try.func5 rfl rfl (fun a hf => ?_)
  have hh := Hp.init u []
  refine sy_sq ?_
  refine o_v hf hh (yv_assign rfl) ?_; clear hf a; intro a hf
  refine o_end ?_
  refine sy_sq ?_
  refine o_v hf hh (yv_assign rfl) ?_; clear hf a; intro a hf
  refine o_end ?_
  refine sy_seq ?_
  refine sy_sq ?_
  refine o_v hf hh (yv_assign rfl) ?_; clear hf a; intro a hf
  refine o_end ?_
  refine sy_block ?_
  refine sy_loopF (σ := Nat) [2, 3, 4, 5, 6, 7, 8, 9, 10, 11, 12, 13, 14, 15, 16, 17, 18, 19, 20, 21, 22] (fun i => [(3, .int .i64 (sumI (l.take i))), (4, .int .i64 (i : Nat))]) (fun i => i ≤ l.length ∧ (l.take i).all (fun s => inI s 0 1000) = true) (fun i => l.length - i) (0) hf hh ?_ ?_ ?_
  · repeat' (first | exact True.intro | refine And.intro rfl ?_)
  · exact ⟨Nat.zero_le _, rfl⟩
  ·rintro i a w ⟨hi, hT⟩ hf hh
   refine sy_seq ?_
   refine sy_sq ?_
   refine o_v hf hh (yv_move rfl) ?_; clear hf a; intro a hf
   refine o_v hf hh (yv_move rfl) ?_; clear hf a; intro a hf
   refine o_v hf hh (yv_len Try.se_25 rfl) ?_; clear hf a; intro a hf
   refine o_v hf hh (yv_bin rfl rfl rfl) ?_; clear hf a; intro a hf
   refine o_end ?_
   refine sy_cond hf rfl (fun hg2 => ?_) (fun hg2 => ?_)
   ·have hG2 := hg2; try simp only [gS] at hG2
    refine sy_skip ?_
    refine then_n ?_
    refine sy_seq ?_
    refine sy_block ?_
    refine sy_seq ?_
    refine sy_seq ?_
    obtain ⟨x, hx⟩ := ex_of (l := l) (i := i) (by omega)
    obtain ⟨blk, off, cc, T, fr, e, hb, hc⟩ := hA i x hx; subst e
    refine sy_ops ?_
    refine o_v hf hh (yv_move rfl) ?_; clear hf a; intro a hf
    refine o_v hf hh (yv_move rfl) ?_; clear hf a; intro a hf
    refine o_v hf hh (y_ix Try.se_25 rfl rfl) ?_; clear hf a; intro a hf
    refine o_v hf hh (y_ld Try.sc_3 rfl) ?_; clear hf a; intro a hf
    refine o_call hf Try.en_28 rfl rfl rfl (p51 _ _ _ _) ?_; clear hf a; intro v a w hR hf
    obtain ⟨rfl, hx⟩ := hR; replace hh := hh.more hx; clear hx
    refine o_v hf hh (yv_not rfl) ?_; clear hf a; intro a hf
    refine o_end ?_
    refine sy_cond hf rfl (fun hg4 => ?_) (fun hg4 => ?_)
    ·have hG4 := hg4; try simp only [gS] at hG4
     refine sy_sq ?_
     refine o_v hf hh (yv_assign rfl) ?_; clear hf a; intro a hf
     refine o_end ?_
     refine sy_ret ?_
     refine then_r ?_
     refine blk_r ?_
     refine then_r ?_
     refine then_r ?_
     refine blk_r ?_
     refine then_r ?_
     refine ret_r hf rfl rfl ?_
     refine ⟨congrArg Value.bool ?_, hh.ext⟩
     unfold shB
     rw [all_no (f := fun s => inI s 0 1000) hx (by simp_all), Bool.false_and, Bool.and_false]
    ·have hG4 := hg4; try simp only [gS] at hG4
     refine sy_skip ?_
     refine then_n ?_
     have hin : inI x 0 1000 = true := by simp_all
     have hxb := inI_bd hin
     have hs1 := take_bd (b := 1000) (l := l.take i) (fun y hy => by have := inI_bd (List.all_eq_true.1 hT y hy); omega) (by omega) i (by rw [List.length_take]; omega)
     rw [List.take_take, Nat.min_self] at hs1
     refine sy_ops ?_
     refine o_v hf hh (yv_move rfl) ?_; clear hf a; intro a hf
     refine o_v hf hh (yv_move rfl) ?_; clear hf a; intro a hf
     refine o_v hf hh (yv_move rfl) ?_; clear hf a; intro a hf
     refine o_v hf hh (y_ix Try.se_25 rfl rfl) ?_; clear hf a; intro a hf
     refine o_v hf hh (y_ld Try.sc_3 rfl) ?_; clear hf a; intro a hf
     refine o_v hf hh (y_add rfl rfl) ?_; clear hf a; intro a hf
     refine o_v hf hh (yv_assign rfl) ?_; clear hf a; intro a hf
     refine ops_end ?_
     refine blk_n ?_
     refine then_n ?_
     refine sy_ops ?_
     refine o_v hf hh (yv_move rfl) ?_; clear hf a; intro a hf
     refine o_v hf hh (y_add rfl rfl) ?_; clear hf a; intro a hf
     refine o_v hf hh (yv_assign rfl) ?_; clear hf a; intro a hf
     refine ops_end ?_
     refine then_n ?_
     exact ⟨i + 1, ⟨⟨by omega, all_take hT hx (by simp_all)⟩, hf.head ⟨congrArg some (intv (sumI_take hx).symm), rfl, True.intro⟩ (Keep.cons rfl (Keep.cons rfl (Keep.cons rfl (Keep.cons rfl (Keep.cons rfl (Keep.cons rfl (Keep.cons rfl (Keep.cons rfl (Keep.cons rfl (Keep.cons rfl (Keep.cons rfl (Keep.cons rfl (Keep.cons rfl (Keep.cons rfl (Keep.cons rfl (Keep.cons rfl (Keep.cons rfl (Keep.cons rfl (Keep.cons rfl (Keep.cons rfl (Keep.app rfl (Keep.rm rfl Keep.base)))))))))))))))))))))), hh⟩, by omega⟩
   ·have hG2 := hg2; try simp only [gS] at hG2
    refine sy_exit ?_
    refine then_e ?_
    refine then_e ?_
    refine blk_e ?_
    refine then_n ?_
    refine sy_seq ?_
    obtain rfl : i = l.length := by omega
    rw [List.take_length] at hT hf
    refine sy_ops ?_
    refine o_v hf hh (yv_move rfl) ?_; clear hf a; intro a hf
    refine o_v hf hh (yv_len Try.se_25 rfl) ?_; clear hf a; intro a hf
    refine o_call hf Try.en_28 rfl rfl rfl (p51 _ _ _ _) ?_; clear hf a; intro v a w hR hf
    obtain ⟨rfl, hx⟩ := hR; replace hh := hh.more hx; clear hx
    refine o_v hf hh (yv_move rfl) ?_; clear hf a; intro a hf
    refine guard_split hf (t := 26) rfl (fun hg6 => ?_) (fun hg6 => ?_)
    ·have hG6 := hg6; try simp only [gS] at hG6
     refine o_v hf hh (yv_move rfl) ?_; clear hf a; intro a hf
     refine o_v hf hh (yv_bin rfl rfl rfl) ?_; clear hf a; intro a hf
     refine o_v hf hh (y_pt rfl rfl) ?_; clear hf a; intro a hf
     refine o_v hf hh (yv_assign rfl) ?_; clear hf a; intro a hf
     refine o_end ?_
     refine sy_ret ?_
     refine ret_r hf rfl rfl ?_
     refine ⟨congrArg Value.bool ?_, hh.ext⟩
     unfold shB
     rw [hT, Bool.true_and]
     clear hf hh
     simp_all
    ·have hG6 := hg6; try simp only [gS] at hG6
     refine o_off hf ?_; clear hf a; intro a hf
     refine o_off hf ?_; clear hf a; intro a hf
     refine o_v hf hh (y_pf rfl rfl) ?_; clear hf a; intro a hf
     refine o_v hf hh (yv_assign rfl) ?_; clear hf a; intro a hf
     refine o_end ?_
     refine sy_ret ?_
     refine ret_r hf rfl rfl ?_
     refine ⟨congrArg Value.bool ?_, hh.ext⟩
     unfold shB
     rw [hT, Bool.true_and]
     clear hf hh
     simp_all
end Go.Proofs.Ytccpgpnekoncoaa
namespace Go.Proofs.Ytccpgpnekoncoaa
open Go Go.Sy Go.RoyM
set_option maxRecDepth 100000 in
set_option maxHeartbeats 4000000 in
theorem s7 (u : World) : Calls Try.prog 7 #[] u (Ret fun v w' => v = .bool true ∧ Ext [] u w') := by
  refine calls_of Try.func7 rfl rfl (fun a hf => ?_)
  have hh := Hp.init u []
  refine sy_sq ?_
  refine o_v hf hh (yv_assign rfl) ?_; clear hf a; intro a hf
  refine o_end ?_
  refine sy_sq ?_
  refine ops_buildSl hf hh Try.bl_25_3 rfl rfl (.inl rfl) rfl ?_; clear hf hh; clear a; intro B6 a w hf hh
  refine o_call hf Try.en_14 rfl rfl rfl (p15 604 [334, 333, 333] _ 3 _ (iat_lit (hh.at (i := 0) rfl) rfl) (by decide)) ?_; clear hf a; intro v a w hR hf
  rw [sx_sV, sx_sE] at hR
  obtain ⟨oa1, cap1, X1, rfl, hO1, hx⟩ := hR
  replace hh := (hh.join hx).perm List.perm_append_comm; clear hx
  refine o_v hf hh (yv_move rfl) ?_; clear hf a; intro a hf
  refine o_v hf hh (yv_extract rfl rfl) ?_; clear hf a; intro a hf
  refine o_v hf hh (yv_extract rfl rfl) ?_; clear hf a; intro a hf
  refine o_v hf hh (yv_assign rfl) ?_; clear hf a; intro a hf
  refine o_v hf hh (yv_assign rfl) ?_; clear hf a; intro a hf
  refine o_end ?_
  refine sy_sq ?_
  refine ops_buildSl hf hh Try.bl_25_1 rfl rfl (.inl rfl) rfl ?_; clear hf hh; clear a; intro B11 a w hf hh
  refine o_v hf hh (yv_buildS Try.bs_38 rfl rfl) ?_; clear hf a; intro a hf
  refine ops_buildSl hf hh Try.bl_25_1 rfl rfl (.inl rfl) rfl ?_; clear hf hh; clear a; intro B13 a w hf hh
  refine o_v hf hh (yv_buildS Try.bs_30 rfl rfl) ?_; clear hf a; intro a hf
  have hPr : PrAt w 0 2 (some ⟨B11, 0, none⟩) none [] := ⟨iat_lit (hh.at (i := 1) rfl) rfl, (fun i s hi => by simp at hi), (fun d hd => by simp at hd), by decide, by decide, by decide, by decide, by decide⟩
  refine o_call hf Try.en_29 rfl rfl rfl (s29 0 2 (some ⟨B11, 0, none⟩) none 1 0 [] 5 (some ⟨B13, 0, none⟩) 1 w hPr (iat_lit (hh.at (i := 0) rfl) rfl) (by decide)) ?_; clear hf a; intro v a w hR hf
  obtain ⟨so, co, rfl, hT, hx⟩ := hR; replace hh := hh.more hx; clear hx hPr
  refine o_v hf hh (yv_move rfl) ?_; clear hf a; intro a hf
  refine o_v hf hh (yv_extract rfl rfl) ?_; clear hf a; intro a hf
  refine o_v hf hh (yv_extract rfl rfl) ?_; clear hf a; intro a hf
  refine o_v hf hh (yv_assign rfl) ?_; clear hf a; intro a hf
  refine o_v hf hh (yv_assign rfl) ?_; clear hf a; intro a hf
  refine o_end ?_
  refine sy_seq ?_
  obtain ⟨sb, so9, cS, TS, frS, eso, hsb, hcS⟩ := hT 0 _ rfl
  subst eso
  have hc2 : cellsAt cS (so9 + (0 : Int).toNat * 2) 2 = some [.int .i64 5, .int .i64 5] := hcS
  have hI1 : IAt w oa1 [202, 201, 201] := hO1.iat fun q hq => hh.get q (by simp [hq])
  have e3 := hh.ext
  obtain ⟨u3, rfl⟩ : ∃ z, z = w := ⟨_, rfl⟩
  replace hh := Hp.init u3 []
  refine sy_treeC (.p 0 (.e1 1 (.e1 2 (.p 3 (.p 4 (.p 5 (.p 6 (.p 7 (.p 8 (.p 9 (.p 10 (.p 11 (.p 12 (.p 13 (.p 14 (.q 0 15 (.e1 16 (.p 17 (.p 18 (.p 19 (.p 20 (.p 21 (.p 22 (.p 23 (.fin))))))))))))))))))))))))) [[]] [(AtE u3 [] [], [])] Try.follows (by kernel_rfl) rfl hh (fun w hh => ?_)
  refine mc_p rfl   hf (yv_move rfl) (.inl rfl) rfl rfl ?_; clear hf a; intro a hf
  refine mc_e rfl fun Q1 => ?_
  refine ops_buildSl hf hh Try.bl_25_3 rfl rfl (.inl rfl) rfl ?_; clear hf hh; clear a; intro B19 a w hf hh
  refine ops_end ?_
  refine then_n ⟨⟨fun _ _ => (AtE.of hh (by intro p hp; cases hp)), trivial⟩, ?_⟩
  refine mc_e rfl fun Q1 => ?_
  refine o_call hf Try.en_30 rfl rfl rfl (p19 [202, 201, 201] [202, 201, 201] oa1 _ cap1 _ _ (hI1.ext hh.ext) (iat_lit (hh.at (i := 0) rfl) rfl) (by decide)) ?_; clear hf a; intro v a w hR hf
  obtain ⟨rfl, hx⟩ := hR; replace hh := hh.more hx; clear hx
  refine ops_end ?_
  refine then_n ⟨⟨fun _ _ => (AtE.of hh (by intro p hp; cases hp)), trivial⟩, ?_⟩
  refine mc_p rfl   hf (yv_move rfl) (.inl rfl) rfl rfl ?_; clear hf a; intro a hf
  refine mc_p rfl   hf (yv_move rfl) (gon rfl rfl rfl (by first | assumption | rfl | (simp; done) | (simp; omega))) rfl rfl ?_; clear hf a; intro a hf
  refine mc_p rfl   hf (yv_bin rfl rfl rfl) (gon rfl rfl rfl (by first | assumption | rfl | (simp; done) | (simp; omega))) rfl rfl ?_; clear hf a; intro a hf
  refine mc_p rfl   hf (y_pt rfl rfl) (.inl rfl) rfl rfl ?_; clear hf a; intro a hf
  refine mc_p rfl   hf (yv_move rfl) (.inl rfl) rfl rfl ?_; clear hf a; intro a hf
  refine mc_p rfl   hf (yv_move rfl) (gon rfl rfl rfl (by first | assumption | rfl | (simp; done) | (simp; omega))) rfl rfl ?_; clear hf a; intro a hf
  refine mc_p rfl   hf (yv_len Try.se_39 rfl) (gon rfl rfl rfl (by first | assumption | rfl | (simp; done) | (simp; omega))) rfl rfl ?_; clear hf a; intro a hf
  refine mc_p rfl   hf (yv_bin rfl rfl rfl) (gon rfl rfl rfl (by first | assumption | rfl | (simp; done) | (simp; omega))) rfl rfl ?_; clear hf a; intro a hf
  refine mc_p rfl   hf (y_pt rfl rfl) (.inl rfl) rfl rfl ?_; clear hf a; intro a hf
  refine mc_p rfl   hf (yv_move rfl) (.inl rfl) rfl rfl ?_; clear hf a; intro a hf
  refine mc_p rfl   hf (yv_move rfl) (gon rfl rfl rfl (by first | assumption | rfl | (simp; done) | (simp; omega))) rfl rfl ?_; clear hf a; intro a hf
  refine mc_p rfl   hf (y_ix Try.se_39 rfl rfl) (gon rfl rfl rfl (by first | assumption | rfl | (simp; done) | (simp; omega))) rfl rfl ?_; clear hf a; intro a hf
  refine mc_q rfl rfl (AtE.of hh (by intro p hp; cases hp)) hf (y_lds Try.ag_36 rfl) (gon rfl rfl rfl (by first | assumption | rfl | (simp; done) | (simp; omega))) rfl rfl ?_; clear hf a; intro a hf
  refine mc_e rfl fun Q1 => ?_
  refine o_call hf Try.en_10 rfl rfl rfl (s10 _ _ _) ?_; clear hf a; intro v a w hR hf
  obtain ⟨rfl, hx⟩ := hR; replace hh := hh.more hx; clear hx
  refine ops_end ?_
  refine then_n ⟨⟨fun _ _ => (AtE.of hh (by intro p hp; cases hp)), trivial⟩, ?_⟩
  refine mc_p rfl   hf (yv_eqF [5, 5] [5, 5] fl43 rfl rfl) (gon rfl rfl rfl (by first | assumption | rfl | (simp; done) | (simp; omega))) rfl rfl ?_; clear hf a; intro a hf
  refine mc_p rfl   hf (y_pt rfl rfl) (.inl rfl) rfl rfl ?_; clear hf a; intro a hf
  refine mc_p rfl   hf (yv_move rfl) (.inl rfl) rfl rfl ?_; clear hf a; intro a hf
  refine mc_p rfl   hf (yv_move rfl) (gon rfl rfl rfl (by first | assumption | rfl | (simp; done) | (simp; omega))) rfl rfl ?_; clear hf a; intro a hf
  refine mc_p rfl   hf (yv_bin rfl rfl rfl) (gon rfl rfl rfl (by first | assumption | rfl | (simp; done) | (simp; omega))) rfl rfl ?_; clear hf a; intro a hf
  refine mc_p rfl   hf (y_pt rfl rfl) (.inl rfl) rfl rfl ?_; clear hf a; intro a hf
  refine mc_p rfl   hf (yv_assign rfl) (.inl rfl) rfl rfl ?_; clear hf a; intro a hf
  refine mc_end ?_
  refine then_n ?_
  refine sy_ret ?_
  refine ret_r hf rfl rfl ?_
  exact ⟨rfl, e3.trans hh.ext⟩
end Go.Proofs.Ytccpgpnekoncoaa
namespace Go.RoyM
open Go Go.Sy
def tillD (t0 t1 : TermD) (price : Int) (many : Nat) (sh : List Int) (first last : Int) : RoyD := ⟨[t0, t1], [price], [sh], [⟨0, 0, 0, (many : Int) - 1⟩, ⟨1, 0, first, last⟩], [0, 0]⟩
section
variable {t0 t1 : TermD} {price : Int} {many : Nat} {sh : List Int} {first last : Int} (h0 : TermOk t0) (h1 : TermOk t1) (hp : 0 ≤ price ∧ price ≤ 1048576) (hm : 1 ≤ many ∧ many ≤ 12) (hs : ShOk sh) (hf : 0 ≤ first ∧ first ≤ last ∧ last < many)
include h0 h1 hp hm hs hf
theorem till_ok : RoyOk (tillD t0 t1 price many sh first last) := by
  refine ⟨by show 2 ≤ 4; omega, by show 1 ≤ 4; omega, rfl, by show 2 ≤ 20; omega, rfl, fun t ht => ?_, fun n hn => ?_, fun n hn => ?_, fun l hl => ?_, fun x hx => ?_⟩
  · simp only [tillD, List.mem_cons, List.not_mem_nil, or_false] at ht
    rcases ht with rfl | rfl
    · exact h0
    · exact h1
  · simp only [tillD, List.mem_cons, List.not_mem_nil, or_false, or_self] at hn
    subst hn; exact ⟨by omega, by omega⟩
  · simp only [tillD, List.mem_cons, List.not_mem_nil, or_false] at hn
    subst hn; exact hp
  · simp only [tillD, List.mem_cons, List.not_mem_nil, or_false] at hl
    subst hl; exact hs
  · simp only [tillD, List.mem_cons, List.not_mem_nil, or_false] at hx
    rcases hx with rfl | rfl
    · exact ⟨by show (0 : Int) ≤ 0; omega, by show (0 : Int) < 2; omega, by show (0 : Int) ≤ 0; omega, by show (0 : Int) < 1; omega, by show (0 : Int) ≤ 0; omega, by show (0 : Int) ≤ (many : Int) - 1; omega, by show (many : Int) - 1 < 12; omega⟩
    · exact ⟨by show (0 : Int) ≤ 1; omega, by show (1 : Int) < 2; omega, by show (0 : Int) ≤ 0; omega, by show (0 : Int) < 1; omega, hf.1, hf.2.1, by show last < 12; omega⟩
theorem till_sold (c : Nat) : whoN (tillD t0 t1 price many sh first last) 0 c = 0 ↔ many ≤ c := by
  have hO := till_ok h0 h1 hp hm hs hf
  rw [sold_iff hO, List.length_eq_zero_iff]
  constructor
  · intro h
    refine Decidable.byContradiction fun hn => ?_
    have : 0 ∈ claL (tillD t0 t1 price many sh first last) 0 c (tillD t0 t1 price many sh first last).terms.length := claL_mem.2 ⟨by show 0 < 2; omega, clmB_iff.2 ⟨_, .head _, rfl, rfl, by show (0 : Int) ≤ c; omega, by show (c : Int) ≤ (many : Int) - 1; omega⟩⟩
    rw [h] at this; cases this
  · intro h
    refine List.eq_nil_iff_forall_not_mem.2 fun g hg => ?_
    obtain ⟨_, h2⟩ := claL_mem.1 hg
    obtain ⟨x, hx, _, _, h3, h4⟩ := clmB_iff.1 h2
    simp only [tillD, List.mem_cons, List.not_mem_nil, or_false] at hx
    rcases hx with rfl | rfl
    · replace h4 : (c : Int) ≤ (many : Int) - 1 := h4
      omega
    · replace h4 : (c : Int) ≤ last := h4
      omega
theorem till_cs : ∀ n, (csT (tillD t0 t1 price many sh first last) 0 n).length = min n many
  | 0 => by simp [csT, soldT]
  | n + 1 => by
    have ih := till_cs n
    by_cases hz : whoN (tillD t0 t1 price many sh first last) 0 n = 0
    · have := (till_sold h0 h1 hp hm hs hf n).1 hz
      rw [csT_no hz, ih]; omega
    · have : ¬ many ≤ n := fun h => hz ((till_sold h0 h1 hp hm hs hf n).2 h)
      rw [csT_put hz, List.length_append, ih]
      show min n many + 1 = _
      omega
/-- What is told of the truth in which agents have least. -/
theorem till_least : allE (tillD t0 t1 price many sh first last) 0 = 0 ∧ (leaV (tillD t0 t1 price many sh first last) 0).length = many ∧ leaV (tillD t0 t1 price many sh first last) 0 ∈ truL (tillD t0 t1 price many sh first last) 0 ∧
    (allV (tillD t0 t1 price many sh first last) 0).1 = comV t0 price ((leaV (tillD t0 t1 price many sh first last) 0).count 0 : Nat) + comV t1 price ((leaV (tillD t0 t1 price many sh first last) 0).count 1 : Nat) := by
  have hO := till_ok h0 h1 hp hm hs hf
  have hcs := till_cs h0 h1 hp hm hs hf 12
  obtain ⟨d, hd⟩ : ∃ d, d = tillD t0 t1 price many sh first last := ⟨_, rfl⟩
  rw [← hd] at hO hcs ⊢
  have hpr : priceN d ((0 : Nat) : Int) = price := by rw [hd]; rfl
  have e := allE_ok hO (k := 0) (by rw [hd]; show 0 < 1; omega)
  have hm1 := lea_mem hO ((0 : Nat) : Int)
  have hlo := lea_lo hO ((0 : Nat) : Int)
  rw [← leaV_ok e] at hm1 hlo
  obtain ⟨g1, g2, g3⟩ := tru_facts hO hm1
  refine ⟨e, ?_, hm1, ?_⟩
  · have h := lea_cs hO e
    rw [csL_T] at h
    show (leaV d ((0 : Nat) : Int)).length = many
    rw [h]
    show (csT d 0 12).length = many
    rw [hcs]; omega
  · have h := allV_ok e
    show (allV d ((0 : Nat) : Int)).1 = _
    rw [h, ← hlo, hpr]
    unfold totF2 totV
    rw [show d.terms.length = 2 by rw [hd]; rfl, totF, totF, totF, cnt_zero g2 (by omega), cnt_zero g2 (by omega), Int.zero_add]
    rw [hd]; rfl
/-- The pool, shared, lies within what each part is told to get; all together is what the cards cost. -/
theorem till_pool : let l := leaV (tillD t0 t1 price many sh first last) 0
    let P := price * many - (allV (tillD t0 t1 price many sh first last) 0).1
    0 ≤ P ∧ P ≤ 12582912 ∧ (0 ≤ (allV (tillD t0 t1 price many sh first last) 0).1 ∧ (allV (tillD t0 t1 price many sh first last) 0).1 ≤ 12582912) ∧ (∀ a, l.count a ≤ 12) ∧
    ∀ part, part < sh.length → getE (tillD t0 t1 price many sh first last) 0 part = 0 ∧ (getV (tillD t0 t1 price many sh first last) 0 part).1 ≤ (splitL P sh).getD part 0 ∧ (splitL P sh).getD part 0 ≤ (getV (tillD t0 t1 price many sh first last) 0 part).2 := by
  have hO := till_ok h0 h1 hp hm hs hf
  obtain ⟨e, hl, hm1, ha⟩ := till_least h0 h1 hp hm hs hf
  obtain ⟨d, hd⟩ : ∃ d, d = tillD t0 t1 price many sh first last := ⟨_, rfl⟩
  rw [← hd] at hO e hl hm1 ha ⊢
  intro l P
  obtain ⟨g1, g2, g3⟩ := tru_facts hO hm1
  have hpr : priceN d ((0 : Nat) : Int) = price := by rw [hd]; rfl
  have hsh : sharesN d ((0 : Nat) : Int) = sh := by rw [hd]; rfl
  have hc : cardsN (cnt (0, 0, 0, 0) l) = many := by rw [cards_cnt, hl]; exact Nat.zero_add _
  have hlo := lea_lo hO ((0 : Nat) : Int)
  have e' : allE d ((0 : Nat) : Int) = 0 := e
  rw [← leaV_ok e', hpr] at hlo
  have hav : (allV d 0).1 = totV d price (cnt (0, 0, 0, 0) l) := by
    have h := allV_ok e'
    show (allV d ((0 : Nat) : Int)).1 = _
    rw [h, hpr, ← hlo]; rfl
  obtain ⟨f1, f2, f3, f4⟩ := pool_bd hO hp.1 hp.2 (n := cnt (0, 0, 0, 0) l) (by omega)
  rw [hc] at f1 f2 f4
  rw [Int.mul_comm] at f1 f2 f4
  have hPd : P = price * many - totV d price (cnt (0, 0, 0, 0) l) := by show price * many - (allV d 0).1 = _; rw [hav]
  have hPv : poolV d ((0 : Nat) : Int) (cnt (0, 0, 0, 0) l) = P := by
    unfold poolV; rw [hpr, cards_N, hc, hPd, Int.mul_comm]
  refine ⟨by omega, by omega, by rw [hav]; exact ⟨f3, by omega⟩, fun a => Nat.le_trans List.count_le_length (by omega), fun part hpt => ?_⟩
  have h := get_span hO (k := 0) (part := part) hm1 (by rw [hd]; show 0 < 1; omega) (by rw [hsh]; exact hpt)
  obtain ⟨q1, q2, q3⟩ := h
  have hg : getF d ((0 : Nat) : Int) part (cnt (0, 0, 0, 0) l) = (splitL P sh).getD part 0 := by unfold getF; rw [hPv, hsh, Int.toNat_natCast]
  exact ⟨q1, by rw [← hg]; exact q2, by rw [← hg]; exact q3⟩
end
end Go.RoyM
namespace Go.RoyM
open Go Go.Sy
theorem till_on1 {m : Int} {sa : Option Addr} {ca : Nat} : aftD ⟨m, 0, 0, 0⟩ [.pr m sa ca] = some ⟨0, 0, m, m⟩ := by
  unfold aftD
  rw [stD_pr ⟨Int.le_refl _, Int.le_refl _⟩]
  show some (⟨m - m, 0, 0 + m, 0 + m⟩ : ShD) = _
  rw [Int.sub_self, Int.zero_add]
theorem till_st1 {m : Int} {sa : Option Addr} {ca : Nat} : stD ⟨m, 0, 0, 0⟩ (.pr m sa ca) = some ⟨0, 0, m, m⟩ := by
  rw [stD_pr ⟨Int.le_refl _, Int.le_refl _⟩]
  show some (⟨m - m, 0, 0 + m, 0 + m⟩ : ShD) = _
  rw [Int.sub_self, Int.zero_add]
theorem till_st2 {m x : Int} : stD ⟨0, 0, m, m⟩ (.se m x) = some ⟨0, x, 0, 0⟩ := by
  rw [stD_se (Int.le_refl _)]
  show some (⟨0, 0 + x, m - m, m - m⟩ : ShD) = _
  rw [Int.sub_self, Int.zero_add]
theorem till_on2 {m x : Int} {sa : Option Addr} {ca : Nat} : aftD ⟨m, 0, 0, 0⟩ [.pr m sa ca, .se m x] = some ⟨0, x, 0, 0⟩ := by
  simp only [aftD, till_st1, till_st2]
theorem till_on3 {m x y : Int} {sa : Option Addr} {ca : Nat} : aftD ⟨m, 0, 0, 0⟩ [.pr m sa ca, .se m x, .se 1 y] = none := by
  simp only [aftD, till_st1, till_st2]
  rw [stD_sen (show ¬ (1 : Int) ≤ 0 by decide)]
def tA (t0 t1 : TermD) (a : Nat) : TermD := if a = 0 then t0 else t1
theorem tms_at (t0 t1 : TermD) (a : Nat) (ha : a < 2) : Value.agg ((#[.int .i64 t0.f, .int .i64 t0.u, .int .i64 t0.b, .int .i64 t1.f, .int .i64 t1.u, .int .i64 t1.b] : Array Value).extract (((a : Nat) : Int).toNat * 3) (((a : Nat) : Int).toNat * 3 + 3)) = tmV (tA t0 t1 a) := by
  rcases (show a = 0 ∨ a = 1 by omega) with rfl | rfl <;> rfl
theorem tA_ok {t0 t1 : TermD} (h0 : TermOk t0) (h1 : TermOk t1) (a : Nat) : TermOk (tA t0 t1 a) := by
  unfold tA
  split
  · exact h0
  · exact h1
theorem com_okB {t : TermD} {price : Int} {c : Nat} (h : TermOk t) (hp : 0 ≤ price ∧ price ≤ 1048576) (hc : c ≤ 12) : comB t price (c : Nat) = true := by
  unfold comB
  rw [termB_iff.2 h, decide_eq_true hp.1, decide_eq_true hp.2, decide_eq_true (show (0 : Int) ≤ (c : Nat) by omega), decide_eq_true (show ((c : Nat) : Int) ≤ 12 by omega)]; rfl
theorem comW_ok {t : TermD} {price : Int} {c : Nat} (h : TermOk t) (hp : 0 ≤ price ∧ price ≤ 1048576) (hc : c ≤ 12) : comW t price (c : Nat) = comV t price (c : Nat) ∧ comE t price (c : Nat) = 0 := by
  unfold comW comE
  rw [if_pos (com_okB h hp hc), if_pos (com_okB h hp hc)]; exact ⟨rfl, rfl⟩
def cS (t0 t1 : TermD) (price : Int) (ll : List Nat) : Nat → Int
  | 0 => 0
  | a + 1 => cS t0 t1 price ll a + comV (tA t0 t1 a) price (ll.count a : Nat)
theorem cS_two (t0 t1 : TermD) (price : Int) (ll : List Nat) : cS t0 t1 price ll 2 = comV t0 price (ll.count 0 : Nat) + comV t1 price (ll.count 1 : Nat) := by
  show 0 + comV t0 price (ll.count 0 : Nat) + comV t1 price (ll.count 1 : Nat) = _
  rw [Int.zero_add]
theorem com_le12 {t : TermD} {price : Int} {c : Nat} (h : TermOk t) (hp : 0 ≤ price ∧ price ≤ 1048576) (hc : c ≤ 12) : 0 ≤ comV t price (c : Nat) ∧ comV t price (c : Nat) ≤ 12582912 := by
  obtain ⟨h1, h2⟩ := comV_bd (price := price) (many := (c : Nat)) h (by omega) hp.1
  have h3 : ((c : Nat) : Int) * price ≤ 12 * 1048576 := Int.mul_le_mul (by omega) hp.2 hp.1 (by omega)
  omega
theorem cS_bd {t0 t1 : TermD} {price : Int} {ll : List Nat} (h0 : TermOk t0) (h1 : TermOk t1) (hp : 0 ≤ price ∧ price ≤ 1048576) (hl : ll.length ≤ 12) : ∀ a, a ≤ 2 → 0 ≤ cS t0 t1 price ll a ∧ cS t0 t1 price ll a ≤ (a : Int) * 12582912
  | 0, _ => ⟨Int.le_refl _, by show (0 : Int) ≤ 0 * _; omega⟩
  | a + 1, ha => by
    have ih := cS_bd h0 h1 hp hl a (by omega)
    have := com_le12 (tA_ok h0 h1 a) hp (c := ll.count a) (Nat.le_trans List.count_le_length hl)
    rw [cS]
    push_cast
    omega
theorem cnt_le {ll : List Nat} {g i : Nat} (hl : ll.length ≤ 12) : (ll.take i).count g ≤ 12 := Nat.le_trans List.count_le_length (by rw [List.length_take]; omega)
end Go.RoyM
