/- Lemmas, in order: What an iterator knows that writes one block of its own. The views of an order, one after the other. Worlds in which the cells of another one are as they were.. -/
import Derived.Test.YtccpgpnekoncoaaGreatQ17
namespace Go.WalM
open Go Go.Sy
structure OwnW (u0 : World) (B : Nat) (T : TypeId) (H : List (Nat × Obj)) (R : Int × Int → Prop) (N : List Nat) (w : World) : Prop where
  e : Ext [] u0 w
  n : ∀ x ∈ N, u0.heap.size ≤ x
  s : u0.heap.size ≤ B
  b : B ∉ N
  m : ∃ m : Int × Int, R m ∧ w.heap[B]? = some (.cells #[.int .i64 m.1, .int .i64 m.2] T (0, 0))
  h : Held N w H
  o : B ∉ H.map Prod.fst
section
variable {u0 v w : World} {B : Nat} {T : TypeId} {H : List (Nat × Obj)} {R R' : Int × Int → Prop} {N N' O : List Nat}
theorem OwnW.mono (h : OwnW u0 B T H R N w) (hr : ∀ m, R m → R' m) : OwnW u0 B T H R' N w :=
  ⟨h.e, h.n, h.s, h.b, let ⟨m, h1, h2⟩ := h.m; ⟨m, hr m h1, h2⟩, h.h, h.o⟩
theorem OwnW.yield (h : OwnW u0 B T H R N v) (e : Ext N v w) (g : Grows N N' v) : OwnW u0 B T H R N' w := by
  have hs := h.e.size
  obtain ⟨m, h1, h2⟩ := h.m
  have hb := (Array.getElem?_eq_some_iff.1 h2).1
  refine ⟨h.e.chain e fun x hx => .inr (h.n x hx), fun x hx => ?_, h.s, fun hx => ?_, ⟨m, h1, e.getM h2 h.b⟩, h.h.step e g, h.o⟩
  · rcases g x hx with h3 | h3
    · exact h.n x h3
    · omega
  · rcases g B hx with h3 | h3
    · exact h.b h3
    · omega
theorem OwnW.turn (h : OwnW u0 B T H R N v) (e : Ext O v w) (hO : ∀ x ∈ O, u0.heap.size ≤ x ∧ x ∉ N ∧ x ∉ H.map Prod.fst) {m : Int × Int} (hm : R' m) (hw : w.heap[B]? = some (.cells #[.int .i64 m.1, .int .i64 m.2] T (0, 0))) : OwnW u0 B T H R' N w :=
  ⟨h.e.chain e fun x hx => .inr (hO x hx).1, h.n, h.s, h.b, ⟨m, hm, hw⟩, h.h.extM e fun x hx => (hO x hx).2.2, h.o⟩
theorem OwnW.old (h : OwnW u0 B T H R N w) {b : Nat} {o : Obj} (hb : u0.heap[b]? = some o) : w.heap[b]? = some o ∧ b ∉ [B] := by
  refine ⟨h.e.get hb, fun hx => ?_⟩
  have := (Array.getElem?_eq_some_iff.1 hb).1
  have := h.s
  rw [List.mem_singleton] at hx
  omega
theorem OwnW.add (h : OwnW u0 B T H R N w) {b : Nat} {o : Obj} (hb : u0.heap[b]? = some o) : OwnW u0 B T ((b, o) :: H) R N w := by
  have hl := (Array.getElem?_eq_some_iff.1 hb).1
  have hs := h.s
  refine ⟨h.e, h.n, h.s, h.b, h.m, fun q hq => ?_, fun hx => ?_⟩
  · rcases List.mem_cons.1 hq with rfl | hq
    · exact ⟨h.e.get hb, fun hx => by have := h.n _ hx; dsimp only at this; omega⟩
    · exact h.h q hq
  · rw [List.map_cons, List.mem_cons] at hx
    rcases hx with hx | hx
    · dsimp only at hx; omega
    · exact h.o hx
theorem OwnW.one (h : OwnW u0 B T H R N w) {b : Nat} (e : Ext [b] w v) (hb : b ∈ N) : OwnW u0 B T H R N v := by
  refine h.yield (e.mono (by simpa using hb)) (Grows.refl _ _)
end
theorem Hp.init2 {w : World} {b c : Nat} {o q : Obj} (h : w.heap[b]? = some o) (h' : w.heap[c]? = some q) (hn : b ≠ c) : Hp w [b, c] [(b, o), (c, q)] w :=
  ⟨.refl _ _, fun p hp => by
    rcases List.mem_cons.1 hp with rfl | hp
    · exact h
    · rw [List.mem_singleton.1 hp]; exact h', by simpa using hn, fun p hp => by
    rcases List.mem_cons.1 hp with rfl | hp
    · exact .inr (.head _)
    · rw [List.mem_singleton.1 hp]; exact .inr (.tail _ (.head _))⟩
/-- What a walk hands out. -/
abbrev stA (x : Nat × (Int × Int)) : Array Value := #[.int .i64 ((x.1 : Nat) : Int), swV x.2]
theorem drop_at {l : List Nat} {i v : Nat} (h : l[i]? = some v) : l.drop i = v :: l.drop (i + 1) := by
  rw [List.drop_eq_getElem_cons (len_ofW h), (List.getElem?_eq_some_iff.1 h).2]
theorem beg_at {α β : Type} {xs : List α} {done rest : List α} {x : α} {i : Nat} (f : α → β) (h : xs = done ++ x :: rest) (hd : done.length = i) : (xs.map f)[i]? = some (f x) := by
  subst h hd
  simp
theorem beg_mo {t : TourD} (hO : TourOk t) {fr : Int} (hf : IsFr t fr) {v : Nat} (h : v < t.fr.length) {m : Int × Int} {b : Int} (h0 : 0 ≤ m.1 ∧ m.1 ≤ b) (h1 : 0 ≤ m.2 ∧ m.2 ≤ b) (hb : 0 ≤ b) :
    (0 ≤ (begV t fr v m).1 ∧ (begV t fr v m).1 ≤ b + 1440) ∧ (0 ≤ (begV t fr v m).2 ∧ (begV t fr v m).2 ≤ b + 1440) ∧ (0 ≤ (aftV t v (begV t fr v m)).1 ∧ (aftV t v (begV t fr v m)).1 ≤ b + 2880) ∧ (0 ≤ (aftV t v (begV t fr v m)).2 ∧ (aftV t v (begV t fr v m)).2 ≤ b + 2880) := by
  obtain ⟨w0, w1, w2⟩ := way_ok hO hf h
  obtain ⟨l0, l1, l2⟩ := sp_ok (l := t.light) (v := v) (by rw [hO.ll]; exact h) hO.l
  obtain ⟨s0, s1, s2⟩ := sp_ok (l := t.stay) (v := v) (by rw [hO.sl]; exact h) hO.s
  unfold begV aftV
  dsimp only
  omega
end Go.WalM

namespace Go.Proofs.YtccpgpnekoncoaaGreat
open Go Go.Sy Go.WalM
theorem k98 (B : Nat) (m : Int × Int) (u : World) (hB : u.heap[B]? = some (.cells #[.int .i64 m.1, .int .i64 m.2] 131 (0, 0))) : Calls Tryz.prog 98 #[ptr B 0] u (Ret fun z w' => z = swV m ∧ Ext [] u w') := by
  refine calls_of Tryz.func98 rfl rfl (fun a hf => ?_)
  have hh := Hp.init u []
  refine sy_sq ?_
  refine o_alloc hf hh Tryz.ze_131 ?_; clear hf hh a; intro B1 a w hf hh
  refine o_end ?_
  refine sy_sq ?_
  refine o_v hf hh (y_lds Tryz.ag_131 rfl) ?_; clear hf a; intro a hf
  refine o_store hf hh Tryz.sz_131 fun w hh => ?_
  refine o_end ?_
  refine sy_ret ?_
  refine ret_c (vs := [swV m]) hf ?_ ?_
  · exact ⟨⟨B1, 0, _, _, _, rfl, hh.at (i := 0) rfl, .inr ⟨2, _, Tryz.ag_131, rfl, rfl⟩⟩, True.intro⟩
  · exact ⟨rfl, hh.ext⟩
set_option maxRecDepth 100000 in
theorem it97 (t : TourD) (p : TPl) (Bt : Nat) (u0 : World) (hA : TouAt u0 t p) (hO : TourOk t) (l : List Nat) (so : Option Addr) (co : Nat) (hL : VwAt u0 so (ints l)) (hor : ∀ v ∈ l, v < t.fr.length) (hll : l.length ≤ 6) (B2 B6 B3 : Nat) :
    IterE Tryz.prog 97 #[] #[ptr B2 0, ptr B6 0, ptr B3 0] ((begL t l).map stA) [B6] (OwnW u0 B6 131 [(Bt, .cells (tpC t p) 136), (B2, .cells #[ptr Bt 0] 75), (B3, .cells #[.slice so l.length co] 28)] (fun _ => True)) (OwnW u0 B6 131 [(Bt, .cells (tpC t p) 136), (B2, .cells #[ptr Bt 0] 75), (B3, .cells #[.slice so l.length co] 28)] (fun m' => m' = ovrV t (-1) (t.dawn, t.dawn) l)) := by
  intro ly J K u N0 hJl hKl hJe hKe hy hJ0 hO0
  show Calls Tryz.prog 97 #[.func (.yield ly) #[] #[], ptr B2 0, ptr B6 0, ptr B3 0] u _
  have hd0 := hO.d0; have hd1 := hO.d1
  have hn6 : t.fr.length ≤ 6 := hO.n6
  obtain ⟨m0, -, hb0⟩ := hO0.m
  obtain ⟨dm1, dm2⟩ := m0
  obtain ⟨sf, sw, ss, sl, cf, cw, cs, cl, rows⟩ := p
  have g1 := hO0.h.at 1 rfl; have g2 := hO0.h.at 2 rfl
  have eB := hO0.h.at 0 rfl
  have hno := hO0.o
  simp only [List.map_cons, List.map_nil, List.mem_cons, List.not_mem_nil, or_false, not_or] at hno
  have f1 : B2 ∉ [B6] := fun h => hno.2.1 (List.mem_singleton.1 h).symm
  have f2 : B3 ∉ [B6] := fun h => hno.2.2 (List.mem_singleton.1 h).symm
  have fB : Bt ∉ [B6] := fun h => hno.1 (List.mem_singleton.1 h).symm
  refine calls_of Tryz.func97 rfl rfl (fun a hf => ?_)
  have hh := Hp.init1 hb0
  refine sy_seq ?_
  refine sy_treeC (.q 0 0 (.p 1 (.p 2 (.p 3 (.q 0 4 (.q 0 5 (.p 6 (.p 7 (.p 8 (.q 0 9 (.e1 10 (.p 11 (.e1 12 (.p 13 (.e1 14 (.fin)))))))))))))))) [[]] [(AtE u [B6] [], [])] Tryz.follows (by kernel_rfl) rfl hh (fun w hh => ?_)
  refine mc_q rfl rfl (AtE.of hh (by simp)) hf (y_ld Tryz.sc_75 rfl) (.inl rfl) rfl rfl ?_; clear hf a; intro a hf
  refine mc_p rfl   hf (yv_nilCheck rfl) (.inl rfl) rfl rfl ?_; clear hf a; intro a hf
  refine mc_p rfl   hf (yv_fieldAddr Tryz.fo_136_0 rfl) (.inl rfl) rfl rfl ?_; clear hf a; intro a hf
  refine mc_p rfl   hf (yv_fieldAddr Tryz.fo_25_0 rfl) (.inl rfl) rfl rfl ?_; clear hf a; intro a hf
  refine mc_q rfl rfl (AtE.of hh (by simp)) hf (y_ld Tryz.sc_3 rfl) (.inl rfl) rfl rfl ?_; clear hf a; intro a hf
  refine mc_q rfl rfl (AtE.of hh (by simp)) hf (y_ld Tryz.sc_75 rfl) (.inl rfl) rfl rfl ?_; clear hf a; intro a hf
  refine mc_p rfl   hf (yv_nilCheck rfl) (.inl rfl) rfl rfl ?_; clear hf a; intro a hf
  refine mc_p rfl   hf (yv_fieldAddr Tryz.fo_136_0 rfl) (.inl rfl) rfl rfl ?_; clear hf a; intro a hf
  refine mc_p rfl   hf (yv_fieldAddr Tryz.fo_25_0 rfl) (.inl rfl) rfl rfl ?_; clear hf a; intro a hf
  refine mc_q rfl rfl (AtE.of hh (by simp)) hf (y_ld Tryz.sc_3 rfl) (.inl rfl) rfl rfl ?_; clear hf a; intro a hf
  refine mc_e rfl fun Q1 => ?_
  refine o_store hf hh Tryz.sz_131 fun w hh => ?_
  refine ops_end ?_
  refine then_n ⟨⟨fun _ _ => (AtE.of hh (by simp)), trivial⟩, ?_⟩
  refine mc_p rfl   hf (yv_fieldAddr Tryz.fo_131_0 rfl) (.inl rfl) rfl rfl ?_; clear hf a; intro a hf
  refine mc_e rfl fun Q1 => ?_
  refine o_store hf hh Tryz.sz_3 fun w hh => ?_
  refine ops_end ?_
  refine then_n ⟨⟨fun _ _ => (AtE.of hh (by simp)), trivial⟩, ?_⟩
  refine mc_p rfl   hf (yv_fieldAddr Tryz.fo_131_1 rfl) (.inl rfl) rfl rfl ?_; clear hf a; intro a hf
  refine mc_e rfl fun Q1 => ?_
  refine o_store hf hh Tryz.sz_3 fun w hh => ?_
  refine ops_end ?_
  refine then_n ⟨⟨fun _ _ => (AtE.of hh (by simp)), trivial⟩, ?_⟩
  refine mc_end ?_
  refine then_n ?_
  refine sy_sq ?_
  refine o_v hf hh (yv_assign rfl) ?_; clear hf a; intro a hf
  refine o_end ?_
  refine sy_sq ?_
  refine o_v hf hh (y_ld Tryz.sc_28 rfl) ?_; clear hf a; intro a hf
  refine o_v hf hh (yv_len Tryz.se_28 rfl) ?_; clear hf a; intro a hf
  refine o_v hf hh (yv_move rfl) ?_; clear hf a; intro a hf
  refine o_end ?_
  refine sy_block ?_
  refine sy_loopH (σ := Nat × Int × (Int × Int)) [5, 7, 8, 23, 24, 25, 26, 27, 28, 29, 30, 31, 32, 33, 34, 35, 36, 37, 38, 39, 40, 41, 42, 43, 44, 45, 46, 47, 48] (fun s => [(23, .int .i64 (s.1 : Nat)), (5, .int .i64 s.2.1)]) (fun s => fun w' => s.1 ≤ l.length ∧ IsFr t s.2.1 ∧ (0 ≤ s.2.2.1 ∧ s.2.2.1 ≤ 1440 + 2880 * (s.1 : Nat)) ∧ (0 ≤ s.2.2.2 ∧ s.2.2.2 ≤ 1440 + 2880 * (s.1 : Nat)) ∧ (∃ done, done.length = s.1 ∧ begL t l = done ++ stpL t s.2.1 s.2.2 (l.drop s.1)) ∧ ovrV t (-1) (t.dawn, t.dawn) l = ovrV t s.2.1 s.2.2 (l.drop s.1) ∧ u.heap.size ≤ w'.heap.size ∧ ∃ N, J s.1 N w' ∧ OwnW u0 B6 131 [(Bt, .cells (tpC t ⟨sf, sw, ss, sl, cf, cw, cs, cl, rows⟩) 136), (B2, .cells #[ptr Bt 0] 75), (B3, .cells #[.slice so l.length co] 28)] (fun m' => m' = s.2.2) N w') (fun s => l.length - s.1) ((0, -1, (t.dawn, t.dawn))) hf ?_ ?_ ?_
  · repeat' (first | exact True.intro | refine And.intro rfl ?_)
  · refine ⟨Nat.zero_le _, .inl rfl, by dsimp only; omega, by dsimp only; omega, ⟨[], rfl, rfl⟩, rfl, hh.ext.size, N0, hJe _ _ _ _ [B6] hJ0 hh.ext (fun x hx => by rw [List.mem_singleton.1 hx]; exact ⟨hO0.b, .inl (.head _)⟩), ?_⟩
    exact hO0.turn hh.ext (fun x hx => by rw [List.mem_singleton.1 hx]; exact ⟨hO0.s, hO0.b, hO0.o⟩) rfl (hh.at (i := 0) rfl)
  ·rintro s a w ⟨hi, hfr, hm1, hm2, ⟨done, hdl, hdn⟩, hov, hsu, N, hJ, hW⟩ hf
   obtain ⟨i, fr, m⟩ := s; simp only at hi hfr hm1 hm2 hdl hdn hov hsu hJ hW hf ⊢
   obtain ⟨mm, hmm, hb6⟩ := hW.m
   rw [hmm] at hb6; clear hmm mm
   clear hh g1 g2 eB
   have hh := Hp.init1 hb6
   obtain ⟨wz, rfl⟩ : ∃ z, z = w := ⟨_, rfl⟩
   have m1 := hW.h.at 1 rfl; have m2 := hW.h.at 2 rfl
   have eB := hW.h.at 0 rfl
   refine sy_sq ?_
   refine o_v hf hh (yv_bin rfl rfl rfl) ?_; clear hf a; intro a hf
   refine o_end ?_
   refine sy_seq ?_
   refine sy_cond hf rfl (fun hg2 => ?_) (fun hg2 => ?_)
   ·have hG2 := hg2; try simp only [gS] at hG2
    refine sy_skip ?_
    refine then_n ?_
    refine sy_seq ?_
    refine sy_block ?_
    refine sy_seq ?_
    obtain ⟨v, hv0⟩ := ex_ofW (l := l) (i := i) (by omega)
    have hv := hor v (List.mem_of_getElem? hv0)
    have hdr := drop_at hv0
    obtain ⟨blk, off, cc, TT, frr, es, hb, hc⟩ := vw_at hL hv0; subst es
    have mb := hW.old hb
    have eb := mb.1; have fb := mb.2
    obtain ⟨bm1, bm2, bm3, bm4⟩ := beg_mo hO hfr hv hm1 hm2 (by omega)
    rw [hdr] at hdn hov
    replace hdn : begL t l = done ++ (v, begV t fr v m) :: stpL t v (aftV t v (begV t fr v m)) (l.drop (i + 1)) := hdn
    replace hov : ovrV t (-1) (t.dawn, t.dawn) l = ovrV t v (aftV t v (begV t fr v m)) (l.drop (i + 1)) := hov
    refine sy_ops ?_
    refine o_v hf hh (y_ix Tryz.se_28 rfl rfl) ?_; clear hf a; intro a hf
    refine o_v hf hh (y_ld Tryz.sc_3 rfl) ?_; clear hf a; intro a hf
    refine o_v hf hh (yv_assign rfl) ?_; clear hf a; intro a hf
    refine o_end ?_
    refine sy_sq ?_
    refine o_v hf hh (y_ld Tryz.sc_75 rfl) ?_; clear hf a; intro a hf
    refine o_v hf hh (yv_move rfl) ?_; clear hf a; intro a hf
    refine o_v hf hh (yv_move rfl) ?_; clear hf a; intro a hf
    refine o_v hf hh (y_lds Tryz.ag_131 rfl) ?_; clear hf a; intro a hf
    refine o_call hf Tryz.en_73 rfl rfl rfl (k73 t _ Bt _ (hh.oldM eB fB) (hA.ext (hW.e.chain hh.ext (fun x hx => .inr (by rw [List.mem_singleton.1 hx]; exact hW.s)))) hO fr v m hfr hv (by omega) (by omega)) ?_; clear hf a; intro v a w hR hf
    obtain ⟨rfl, hx⟩ := hR; replace hh := hh.more hx; clear hx
    refine o_alloc hf hh Tryz.ze_131 ?_; clear hf hh a; intro B8 a w hf hh
    refine o_store hf hh Tryz.sz_131 fun w hh => ?_
    replace hh : Hp wz [B6] [(B8, .cells #[.int .i64 (begV t fr v m).1, .int .i64 (begV t fr v m).2] 131), (B6, .cells #[.int .i64 m.1, .int .i64 m.2] 131)] w := hh
    refine o_end ?_
    refine sy_seq ?_
    refine sy_sq ?_
    refine o_v hf hh (yv_move rfl) ?_; clear hf a; intro a hf
    refine o_v hf hh (yv_move rfl) ?_; clear hf a; intro a hf
    refine o_v hf hh (y_lds Tryz.ag_131 rfl) ?_; clear hf a; intro a hf
    have hN6 : B6 ∉ N := hW.b
    have hB8 : wz.heap.size ≤ B8 := by
      have hnd := hh.nodup
      simp only [List.map_cons, List.map_nil, List.nodup_cons, List.mem_cons, List.not_mem_nil, or_false] at hnd
      rcases hh.mine _ (.head _) with h | h
      · exact h
      · exact absurd (List.mem_singleton.1 h) hnd.1
    have hB86 : B8 ≠ B6 := fun e => by
      have := (Array.getElem?_eq_some_iff.1 hb6).1
      omega
    have hN8 : B8 ∉ N := fun h => by
      have := hJl _ _ _ hJ B8 h
      omega
    have hJ1 := hJe _ _ _ _ [B6] hJ hh.ext (fun x hx => by rw [List.mem_singleton.1 hx]; exact ⟨hN6, .inl (.head _)⟩)
    have hW1 := hW.turn (R' := fun m' => m' = m) hh.ext (fun x hx => by rw [List.mem_singleton.1 hx]; exact ⟨hW.s, hN6, hW.o⟩) rfl (hh.at (i := 1) rfl)
    have h8w := (Array.getElem?_eq_some_iff.1 (hh.at (i := 0) rfl)).1
    refine ops_yield hf rfl rfl (.inl rfl) rfl (hy _ _ _ _ (beg_at stA hdn hdl) hJ1) ?_; clear hf a
    have h8 := hh.at (i := 0) rfl
    have hsz := hh.ext.size
    have hwz2 : wz.heap.size ≤ w.heap.size := hh.ext.size
    clear hh; intro vv a w2 hR hf
    obtain ⟨N', hgr, hex, hR⟩ := hR
    have hW2 := hW1.yield hex hgr
    have h8' := hex.getM h8 hN8
    have hN8' : B8 ∉ N' := fun h => by
      rcases hgr _ h with h | h
      · exact hN8 h
      · omega
    have hR2 : ∃ o : Bool, vv = .bool o ∧ (o = true → J (i + 1) N' w2) ∧ (o = false → K i N' w2) := by
      rcases hR with ⟨rfl, h⟩ | ⟨rfl, h⟩
      · exact ⟨true, rfl, fun _ => h, fun h => by cases h⟩
      · exact ⟨false, rfl, (fun h => by cases h), fun _ => h⟩
    clear hR
    obtain ⟨o, rfl, ho1, ho2⟩ := hR2
    obtain ⟨mm, hmm, h6'⟩ := hW2.m
    rw [hmm] at h6'; clear hmm mm
    have hs2 := hex.size
    have hh := Hp.init2 h8' h6' hB86
    have e1 := hW2.h.at 1 rfl; have e2 := hW2.h.at 2 rfl; have mB2 := hW2.h.at 0 rfl
    have hs0 := hW2.s
    have hB8u : u0.heap.size ≤ B8 := Nat.le_trans hW.e.size hB8
    have nn : ∀ {b : Nat} {o : Obj}, u0.heap[b]? = some o → b ∉ [B8, B6] := fun {b o} h hx => by
      have := (Array.getElem?_eq_some_iff.1 h).1
      simp only [List.mem_cons, List.not_mem_nil, or_false] at hx
      omega
    have d1 : B2 ∉ [B8, B6] := fun hx => by
      have := (Array.getElem?_eq_some_iff.1 m1).1
      simp only [List.mem_cons, List.not_mem_nil, or_false] at hx
      rcases hx with h | h
      · omega
      · exact f1 (List.mem_singleton.2 h)
    have d2 : B3 ∉ [B8, B6] := fun hx => by
      have := (Array.getElem?_eq_some_iff.1 m2).1
      simp only [List.mem_cons, List.not_mem_nil, or_false] at hx
      rcases hx with h | h
      · omega
      · exact f2 (List.mem_singleton.2 h)
    have nB2 : Bt ∉ [B8, B6] := fun hx => by
      have := (Array.getElem?_eq_some_iff.1 eB).1
      simp only [List.mem_cons, List.not_mem_nil, or_false] at hx
      rcases hx with h | h
      · omega
      · exact fB (List.mem_singleton.2 h)
    clear m1 m2 eB
    have hsl : t.stay.length = t.fr.length := hO.sl
    obtain ⟨blk1, off1, cc1, T1, fr1, es1, hb1, hc1⟩ := hA.s v _ (sp_at (l := t.stay) (v := v) (by omega))
    dsimp only at es1; subst es1
    have mb1 := (hW2.old hb1).1; have nb1 := nn hb1
    obtain ⟨s0, s1, s2⟩ := sp_ok (l := t.stay) (v := v) (by omega) hO.s
    clear eb fb
    obtain ⟨wy, rfl⟩ : ∃ z, z = w2 := ⟨_, rfl⟩
    refine o_v hf hh (yv_not rfl) ?_; clear hf a; intro a hf
    refine o_end ?_
    refine sy_cond hf rfl (fun hg5 => ?_) (fun hg5 => ?_)
    ·have hG5 := hg5; try simp only [gS] at hG5
     refine sy_ret ?_
     refine then_r ?_
     refine blk_r ?_
     refine then_r ?_
     refine then_r ?_
     refine blk_r ?_
     refine ret_r hf rfl rfl ?_
     exact ⟨N', .inr ⟨hW2.mono fun _ _ => trivial, _, ho2 (by simp_all)⟩⟩
    ·have hG5 := hg5; try simp only [gS] at hG5
     refine sy_skip ?_
     refine then_n ?_
     refine sy_tree1 (.q 0 0 (.q 0 1 (.p 2 (.p 3 (.p 4 (.q 0 5 (.p 6 (.p 7 (.q 0 8 (.p 10 (.e1 9 (.e1 11 (.p 12 (.fin)))))))))))))) [11] Tryz.follows (by kernel_rfl) hh (fun w hh => ?_)
     refine mc_q rfl rfl hh hf (y_lds Tryz.ag_131 rfl) (.inl rfl) rfl rfl ?_; clear hf a; intro a hf
     refine mc_q rfl rfl hh hf (y_ld Tryz.sc_75 rfl) (.inl rfl) rfl rfl ?_; clear hf a; intro a hf
     refine mc_p rfl   hf (yv_nilCheck rfl) (.inl rfl) rfl rfl ?_; clear hf a; intro a hf
     refine mc_p rfl   hf (yv_fieldAddr Tryz.fo_136_0 rfl) (.inl rfl) rfl rfl ?_; clear hf a; intro a hf
     refine mc_p rfl   hf (yv_fieldAddr Tryz.fo_25_3 rfl) (.inl rfl) rfl rfl ?_; clear hf a; intro a hf
     refine mc_q rfl rfl hh hf (y_ld Tryz.sc_22 rfl) (.inl rfl) rfl rfl ?_; clear hf a; intro a hf
     refine mc_p rfl   hf (yv_move rfl) (.inl rfl) rfl rfl ?_; clear hf a; intro a hf
     refine mc_p rfl   hf (y_ix Tryz.se_22 rfl rfl) (.inl rfl) rfl rfl ?_; clear hf a; intro a hf
     refine mc_q rfl rfl hh hf (y_lds Tryz.ag_49 rfl) (.inl rfl) rfl rfl ?_; clear hf a; intro a hf
     refine mc_p rfl   hf (yv_move rfl) (.inl rfl) rfl rfl ?_; clear hf a; intro a hf
     refine mc_e rfl fun Q1 => ?_
     refine o_call hf Tryz.en_75 rfl rfl rfl (k75 (begV t fr v m) (sp0 t.stay v) _ (by omega) (by omega) (by omega) (by omega)) ?_; clear hf a; intro v a w hR hf
     obtain ⟨rfl, hx⟩ := hR; replace hh := hh.more hx; clear hx
     refine ops_end ?_
     refine then_n ⟨⟨fun _ _ => hh, trivial⟩, ?_⟩
     refine mc_e rfl fun Q1 => ?_
     refine o_store hf hh Tryz.sz_131 fun w hh => ?_
     refine ops_end ?_
     refine then_n ⟨⟨fun h => Bool.noConfusion (show true = false from h), trivial⟩, ?_⟩
     refine mc_p rfl   hf (yv_assign rfl) (.inl rfl) rfl rfl ?_; clear hf a; intro a hf
     refine mc_end ?_
     refine blk_n ?_
     refine then_n ?_
     replace hh : Hp wy [B8, B6] [(B8, .cells #[.int .i64 (begV t fr v m).1, .int .i64 (begV t fr v m).2] 131), (B6, .cells #[.int .i64 (aftV t v (begV t fr v m)).1, .int .i64 (aftV t v (begV t fr v m)).2] 131)] w := hh
     refine sy_ops ?_
     refine o_v hf hh (y_add rfl rfl) ?_; clear hf a; intro a hf
     refine o_v hf hh (yv_move rfl) ?_; clear hf a; intro a hf
     refine ops_end ?_
     refine then_n ?_
     have hO2 : ∀ x ∈ [B8, B6], u0.heap.size ≤ x ∧ x ∉ N' ∧ x ∉ [Bt, B2, B3] := fun x hx => by
       simp only [List.mem_cons, List.not_mem_nil, or_false] at hx
       rcases hx with rfl | rfl
       · refine ⟨hB8u, hN8', fun h => ?_⟩
         simp only [List.mem_cons, List.not_mem_nil, or_false] at h
         rcases h with h | h | h
         · exact nB2 (by rw [h]; exact .head _)
         · exact d1 (by rw [h]; exact .head _)
         · exact d2 (by rw [h]; exact .head _)
       · exact ⟨hs0, hW2.b, hW2.o⟩
     refine ⟨(i + 1, v, aftV t v (begV t fr v m)), ⟨⟨by simp only; omega, .inr ⟨by simp only; omega, by simp only; show ((v : Nat) : Int) < (t.fr.length : Nat); omega⟩, by simp only; omega, by simp only; omega, ⟨done ++ [(v, (begV t fr v m))], by rw [List.length_append]; simp [hdl], by rw [hdn, List.append_assoc]; rfl⟩, hov, by have := hh.ext.size; omega, N', hJe _ _ _ _ [B8, B6] (ho1 (by simp_all)) hh.ext (fun x hx => ⟨(hO2 x hx).2.1, by
       simp only [List.mem_cons, List.not_mem_nil, or_false] at hx
       rcases hx with rfl | rfl
       · exact .inr (by omega)
       · exact .inl (.head _)⟩), hW2.turn hh.ext hO2 rfl (hh.at (i := 1) rfl)⟩, (hf.head (by repeat' (first | exact True.intro | refine And.intro rfl ?_)) (Keep.cons rfl (Keep.cons rfl (Keep.cons rfl (Keep.cons rfl (Keep.cons rfl (Keep.cons rfl (Keep.cons rfl (Keep.cons rfl (Keep.cons rfl (Keep.cons rfl (Keep.cons rfl (Keep.cons rfl (Keep.cons rfl (Keep.cons rfl (Keep.cons rfl (Keep.cons rfl (Keep.cons rfl (Keep.cons rfl (Keep.cons rfl (Keep.cons rfl (Keep.cons rfl (Keep.cons rfl (Keep.cons rfl (Keep.cons rfl (Keep.cons rfl (Keep.cons rfl (Keep.cons rfl (Keep.cons rfl (Keep.cons rfl (Keep.app rfl (Keep.rm rfl Keep.base))))))))))))))))))))))))))))))))⟩, by simp only; omega⟩
   ·have hG2 := hg2; try simp only [gS] at hG2
    refine sy_exit ?_
    refine then_e ?_
    refine then_e ?_
    refine blk_e ?_
    refine ret_n hf rfl rfl ?_
    obtain rfl : i = l.length := by omega
    rw [List.drop_length] at hdn hov
    have hdn2 : (begL t l).length = l.length := stp_len t l _ _
    rw [List.length_map, hdn2]
    exact ⟨N, .inl ⟨hW.turn hh.ext (fun x hx => by rw [List.mem_singleton.1 hx]; exact ⟨hW.s, hW.b, hW.o⟩) hov.symm (hh.at (i := 0) rfl), hJe _ _ _ _ [B6] hJ hh.ext (fun x hx => by rw [List.mem_singleton.1 hx]; exact ⟨hW.b, .inl (.head _)⟩)⟩⟩
end Go.Proofs.YtccpgpnekoncoaaGreat

namespace Go.WalM
open Go Go.Sy
def CellsLe (u w : World) : Prop := ∀ (b : Nat) (c : Array Value) (T : TypeId) (fr : Nat × Nat), u.heap[b]? = some (.cells c T fr) → w.heap[b]? = some (.cells c T fr)
section
variable {u w v : World}
theorem CellsLe.ext (h : CellsLe u w) (e : Ext [] w v) : CellsLe u v := fun b c T fr hb => e.get (h b c T fr hb)
theorem SpAt.cells {sa : Option Addr} {l : List (Int × Int)} (h : SpAt u sa l) (e : CellsLe u w) : SpAt w sa l := fun i s hi =>
  let ⟨blk, off, c, T, fr, h1, h2, h3⟩ := h i s hi
  ⟨blk, off, c, T, fr, h1, e _ _ _ _ h2, h3⟩
theorem VwAt.cells {sa : Option Addr} {l : List Int} (h : VwAt u sa l) (e : CellsLe u w) : VwAt w sa l := fun i s hi =>
  let ⟨blk, off, c, T, fr, h1, h2, h3⟩ := h i s hi
  ⟨blk, off, c, T, fr, h1, e _ _ _ _ h2, h3⟩
theorem RowsAt.cells {sa : Option Addr} {l : List RowD} (h : RowsAt u sa l) (e : CellsLe u w) : RowsAt w sa l := fun i s hi =>
  let ⟨blk, off, c, T, fr, h1, h2, h3⟩ := h i s hi
  ⟨blk, off, c, T, fr, h1, e _ _ _ _ h2, h3⟩
theorem TouAt.cells {t : TourD} {p : TPl} (h : TouAt u t p) (e : CellsLe u w) : TouAt w t p :=
  ⟨h.f.cells e, h.g.cells e, fun r hr => (h.r r hr).cells e, h.e, h.s.cells e, h.l.cells e, h.nf, h.nw, h.ns, h.nl, h.nr⟩
/-- What is known in a round: cells of the world before all stay. -/
theorem round_cells {H : List (Nat × Obj)} {l D : Nat} {lp : Loop} {ds : Option (List Deferred)} (hv : Hp u [] H v) (hl : v.heap[l]? = some (.loop lp)) (hD : v.heap[D]? = some (.deferred ds)) {M : List Nat} (hM : ∀ x ∈ M, x = l ∨ x = D ∨ x ∈ H.map Prod.fst) (e : Ext M v w) : CellsLe u w := fun b c T fr hb => by
  have h1 := hv.old hb
  refine e.getM h1 fun hx => ?_
  rcases hM b hx with rfl | rfl | h2
  · rw [h1] at hl; cases hl
  · rw [h1] at hD; cases hD
  · have h3 := hv.fresh b h2
    have := (Array.getElem?_eq_some_iff.1 hb).1
    omega
theorem own_walk {H X Z : List (Nat × Obj)} {is js : List Nat} {B : Nat} {T : TypeId} {R : Int × Int → Prop} {m : Int × Int} (h : Hp u [] ((B, .cells #[.int .i64 m.1, .int .i64 m.2] T) :: H) w) (hX : X = is.filterMap fun i => H[i]?) (hZ : Z = js.filterMap fun i => H[i]?) (hj : ∀ j ∈ js, j ∉ is) (hm : R m) : OwnW u B T Z R (X.map Prod.fst) w := by
  have h0 : Hp u [] H w := h.less (.cons _ (.refl _))
  have hnd := (List.nodup_cons.1 h.nodup).1
  have hsub : ∀ {Y : List (Nat × Obj)} {ks : List Nat}, Y = (ks.filterMap fun i => H[i]?) → ∀ x ∈ Y.map Prod.fst, x ∈ H.map Prod.fst := fun {Y ks} hY x hx => by
    obtain ⟨q, hq, rfl⟩ := List.mem_map.1 hx
    rw [hY] at hq
    obtain ⟨i, _, hi⟩ := List.mem_filterMap.1 hq
    exact List.mem_map.2 ⟨q, List.mem_of_getElem? hi, rfl⟩
  refine ⟨h.ext, fun x hx => h0.fresh x (hsub hX x hx), h.fresh B (.head _), fun hx => hnd (hsub hX B hx), ⟨m, hm, h.get _ (.head _)⟩, ?_, fun hx => hnd (hsub hZ B hx)⟩
  subst hZ
  exact h0.held hX js hj
theorem stp_fst (t : TourD) : ∀ (l : List Nat) (fr : Int) (m : Int × Int), (stpL t fr m l).map Prod.fst = l
  | [], _, _ => rfl
  | v :: l, fr, m => by rw [stpL, List.map_cons, stp_fst t l]
theorem beg_mem {t : TourD} {l : List Nat} {q : Nat × (Int × Int)} (h : q ∈ begL t l) : q.1 ∈ l := by
  have := List.mem_map_of_mem (f := Prod.fst) h
  unfold begL at this
  rwa [stp_fst] at this
end
end Go.WalM

