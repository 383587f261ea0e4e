/- Lemmas, in order: Values in memory, one after the other; the rows of the document's examples, and what they give. Fewest. The law's own small functions. Rows that are valid, for the document's answer; too many marks. The document's examples; MatchNames.. -/
import Derived.Test.YtemmhdgaagaglaaDoorQ11
namespace Go.MatM
open Go Go.Sy Go.Proofs
/-- Cells behind a slice. -/
def ValsAt (w : World) (sa : Option Addr) (vs : List Value) : Prop := vs = [] ∨ ∃ blk off c T fr, sa = some ⟨blk, off, none⟩ ∧ w.heap[blk]? = some (.cells c T fr) ∧ ∀ j v, vs[j]? = some v → c[off + j]? = some v
theorem ValsAt.ext {w w' : World} {sa : Option Addr} {vs : List Value} (h : ValsAt w sa vs) (e : Ext [] w w') : ValsAt w' sa vs := by
  rcases h with h | ⟨blk, off, c, T, fr, h1, h2, h3⟩
  · exact .inl h
  · exact .inr ⟨blk, off, c, T, fr, h1, e.get h2, h3⟩
theorem valsAt_own {w : World} {e size m cap : Nat} {oa : Option Addr} {xs : List Value} {X : List (Nat × Obj)} (ho : OwnSl e size (.slice oa m cap) m xs X) (hX : ∀ x ∈ X, w.heap[x.1]? = some x.2) : ValsAt w oa xs := by
  obtain ⟨hl, h⟩ := ho
  rcases h with ⟨_, h0, _⟩ | ⟨B, cp, cur, e1, e2, h3, h4, h5, h6⟩
  · subst h0
    exact .inl (List.eq_nil_of_length_eq_zero (by omega))
  · cases e1
    refine .inr ⟨B, 0, cur, e, (0, 0), rfl, hX (B, .cells cur e (0, 0)) (by rw [e2]; simp), fun j v hj => ?_⟩
    rw [← h6, List.getElem?_take] at hj
    split at hj
    · rw [Nat.zero_add, ← Array.getElem?_toList]; exact hj
    · cases hj
def encP (l : List Pr) : List Value := l.flatMap fun p => [.int .i64 p.1, .int .i64 p.2]
theorem encP_snoc (l : List Pr) (p : Pr) : encP (l ++ [p]) = encP l ++ [.int .i64 p.1, .int .i64 p.2] := by simp [encP]
theorem encP_get : ∀ (l : List Pr) (i : Nat) (p : Pr), l[i]? = some p → (encP l)[i * 2]? = some (.int .i64 p.1) ∧ (encP l)[i * 2 + 1]? = some (.int .i64 p.2)
  | [], i, p, h => by simp at h
  | q :: l, 0, p, h => by simp at h; subst h; exact ⟨rfl, rfl⟩
  | q :: l, i + 1, p, h => by
    have ih := encP_get l i p (by simpa using h)
    have e1 : (i + 1) * 2 = i * 2 + 1 + 1 := by omega
    rw [e1]
    exact ih
theorem encP_len (l : List Pr) : (encP l).length = l.length * 2 := by
  induction l with
  | nil => rfl
  | cons p l ih => unfold encP at *; rw [List.flatMap_cons, List.length_append, ih, List.length_cons]; simp; omega
theorem take_snoc {α : Type} {a b : List α} {i : Nat} {x y : α} (h : a.take i = b.take i) (hx : a[i]? = some x) (hy : b[i]? = some y) (e : x = y) : a.take (i + 1) = b.take (i + 1) := by
  rw [List.take_add_one, List.take_add_one, h, hx, hy, e]
theorem ne_of_at {α : Type} {a b : List α} {i : Nat} {x y : α} (hx : a[i]? = some x) (hy : b[i]? = some y) (e : x ≠ y) : a ≠ b := fun h => by
  rw [h, hy] at hx; cases hx; exact e rfl
def sampleD : RowsD := { l := [⟨100, 102, 10, 12⟩, ⟨200, 202, 50, 55⟩, ⟨300, 301, 10, 13⟩], r := [⟨90, 92, 11, 12⟩, ⟨185, 190, 52, 60⟩, ⟨280, 282, 9, 10⟩, ⟨292, 294, 12, 14⟩], lo := 5, hi := 20, hid := 1 }
theorem smp_op : opE sampleD true = 0 := by kernel_rfl
theorem smp_fitsE : fitsE sampleD 2 0 = 0 := by kernel_rfl
theorem smp_fits : fitsV sampleD 2 0 = false := by kernel_rfl
theorem smp_count : countV sampleD = 2 := by kernel_rfl
theorem smp_countE : countE sampleD = 0 := by kernel_rfl
theorem smp_few : fewL sampleD = [(0, 0), (1, 1), (2, 2)] := by kernel_rfl
theorem smp_hid : fewH sampleD = 1 := by kernel_rfl
theorem smp_can : canL sampleD = [1, 2, 12] := by kernel_rfl
theorem smp_sure : sureL sampleD = [0, 1, -1] := by kernel_rfl
theorem smp_shE : shiftE sampleD 2 = 0 := by kernel_rfl
theorem smp_sh : shiftV sampleD 2 = (6, 20) := by kernel_rfl
theorem smp_ask : askV sampleD = (2, 1) := by kernel_rfl
theorem smp_askE : askE sampleD = 0 := by kernel_rfl
theorem smp_fits0 : fitsV sampleD 0 0 = true := by kernel_rfl
theorem smp_fitsE0 : fitsE sampleD 0 0 = 0 := by kernel_rfl
theorem smp_hideA : hideA sampleD = 0 := by kernel_rfl
theorem smp_hideB : hideB sampleD = 12 := by kernel_rfl
theorem smp_shE0 : shiftE sampleD 0 = 0 := by kernel_rfl
theorem smp_sh0 : shiftV sampleD 0 = (8, 12) := by kernel_rfl
end Go.MatM
namespace Go.Proofs.YtemmhdgaagaglaaDoor
open Go Go.Sy Go.MatM
theorem OwnSl_val {e size m : Nat} {v : Value} {xs : List Value} {X : List (Nat × Obj)} (h : OwnSl e size v m xs X) : ∃ oa cap, v = .slice oa m cap := by
  rcases h.2 with ⟨h1, h2, _⟩ | ⟨B, cap, cur, h1, _⟩
  · exact ⟨none, 0, by rw [h1, h2]⟩
  · exact ⟨_, _, h1⟩
structure FewS where
  (n i k B8 B9 : Nat)
  done : List Pr
  v : Value
  X : List (Nat × Obj)
  Ds : List Nat
theorem grd_at {F : Nat → Nat → Bool} {L R i k n j : Nat} {p : Pr} (hp : (prs F L R i k)[j]? = some p) (h1 : 1 + mos F L R (p.1 + 1) (p.2 + 1) = n + 1) (hno : ∀ j2, j2 < j → ∀ q, (prs F L R i k)[j2]? = some q → ¬ 1 + mos F L R (q.1 + 1) (q.2 + 1) = n + 1) :
    grd F L R (n + 1) i k = p :: grd F L R n (p.1 + 1) (p.2 + 1) := by
  have e : (prs F L R i k).find? (fun p => decide (1 + mos F L R (p.1 + 1) (p.2 + 1) = n + 1)) = some p := by
    rw [List.find?_eq_some_iff_getElem]
    obtain ⟨hj, he⟩ := List.getElem?_eq_some_iff.1 hp
    refine ⟨decide_eq_true h1, j, hj, he, fun j2 hj2 => ?_⟩
    have := hno j2 hj2 _ (List.getElem?_eq_getElem (by omega))
    simp [this]
  simp only [grd, e]
theorem c19 (d : RowsD) (sa sb : Option Addr) (ca cb : Nat) (u : World) (hA : MkAt u sa d.l) (hB : MkAt u sb d.r) : Calls Tryd.prog 19 #[rowsV d sa sb ca cb] u (Ret fun v w' => ∃ sv X, v = .tuple #[sv, .int .i64 (fewH d), .int .i64 (opE d true)] ∧ OwnSl 45 2 sv (fewL d).length (encP (fewL d)) X ∧ Hp u [] X w') := by
  refine calls_ofM Tryd.func19 rfl rfl (fun a hf => ?_)
  have hh := Hp.init u []
  refine sy_sq ?_
  refine o_box hf hh ?_; clear hf hh a; intro B1 a w hf hh
  refine o_alloc hf hh Tryd.ze_34 ?_; clear hf hh a; intro B2 a w hf hh
  refine o_v hf hh (yv_assign rfl) ?_; clear hf a; intro a hf
  refine o_v hf hh (yv_assign rfl) ?_; clear hf a; intro a hf
  refine o_end ?_
  refine sy_sq ?_
  refine o_v hf hh (y_lds Tryd.ag_26 rfl) ?_; clear hf a; intro a hf
  refine o_call hf Tryd.en_49 rfl rfl rfl (c49e d sa sb ca cb _ (hA.ext hh.ext) (hB.ext hh.ext) true) ?_; clear hf a; intro v a w hR hf
  obtain ⟨p, Xp, rfl, hp0, hx⟩ := hR; replace hh := hh.join hx; clear hx
  refine o_v hf hh (yv_move rfl) ?_; clear hf a; intro a hf
  refine o_v hf hh (yv_extract rfl rfl) ?_; clear hf a; intro a hf
  refine o_v hf hh (yv_extract rfl rfl) ?_; clear hf a; intro a hf
  refine o_v hf hh (yv_assign rfl) ?_; clear hf a; intro a hf
  refine o_v hf hh (yv_assign rfl) ?_; clear hf a; intro a hf
  refine o_end ?_
  refine sy_seq ?_
  refine sy_sq ?_
  refine o_v hf hh (yv_move rfl) ?_; clear hf a; intro a hf
  refine o_v hf hh (yv_bin rfl rfl rfl) ?_; clear hf a; intro a hf
  refine o_end ?_
  refine sy_cond hf rfl (fun hg5 => ?_) (fun hg5 => ?_)
  ·have hG5 := hg5; try simp only [gS] at hG5
   refine sy_seq ?_
   replace hh := hh.less (List.sublist_append_right Xp _)
   refine sy_ops ?_
   refine o_v hf hh (yv_move rfl) ?_; clear hf a; intro a hf
   refine o_store hf hh Tryd.sz_34 fun w hh => ?_
   refine o_v hf hh (yv_assign rfl) ?_; clear hf a; intro a hf
   refine o_v hf hh (yv_assign rfl) ?_; clear hf a; intro a hf
   refine o_end ?_
   refine sy_ret ?_
   refine then_r ?_
   have hne : ¬ opE d true = 0 := by simp_all
   have eL : fewL d = [] := by unfold fewL; rw [if_neg hne]
   have eH : fewH d = 0 := by unfold fewH; rw [if_neg hne]
   rw [eL, eH]
   exact ret_m (Ds := []) hf hh fun w' hh => ⟨[.slice none 0 0, .int .i64 0, .int .i64 (opE d true)], ⟨⟨B2, 0, _, _, _, rfl, hh.at (i := 0) rfl, .inl ⟨Tryd.sc_34, rfl⟩⟩, rfl, rfl, True.intro⟩, _, [], rfl, OwnSl.nil _ _, hh.less (List.nil_sublist _)⟩
  ·have hG5 := hg5; try simp only [gS] at hG5
   refine sy_skip ?_
   refine then_n ?_
   refine sy_seq ?_
   have hop : opE d true = 0 := by simp_all
   obtain ⟨Bo, cso, rfl, hRo, rfl⟩ := hp0 hop
   obtain ⟨hok, _, his⟩ := opE_zero.1 hop
   have hV := (okRows_iff d).1 hok
   have hnl := hV.nl; have hnr := hV.nr
   clear hp0
   obtain ⟨cg, hcg⟩ : ∃ cg, cg = gridV 11 11 (mosG (fitD d) d.l.length d.r.length) := ⟨_, rfl⟩
   have hG : Grid 11 11 (mosG (fitD d) d.l.length d.r.length) cg := hcg ▸ gridV_grid 11 11 _
   have hml := mos_le (fitD d) d.l.length d.r.length 0 0
   have hz := hG.size
   refine sy_ops ?_
   refine o_v hf hh (yv_move rfl) ?_; clear hf a; intro a hf
   refine o_call hf Tryd.en_50 rfl rfl rfl (c50 d sa sb ca cb (fitD d) Bo _ ⟨⟨cso, hh.get (Bo, .cells cso 73) (by simp), hRo⟩, hnl, hnr⟩) ?_; clear hf a; intro v a w hR hf
   rw [← hcg] at hR
   obtain ⟨rfl, hx⟩ := hR; replace hh := hh.more hx; clear hx
   refine o_alloc hf hh Tryd.ze_82 ?_; clear hf hh a; intro B6 a w hf hh
   refine o_store hf hh Tryd.sz_82 (hx := rfl) (hi := atI (i := 0) rfl) (hy := rfl) (hv := hG.size) (h1 := hG.one) fun w hh => ?_
   replace hh : Hp u [] [(B6, .cells cg 82), (Bo, .cells cso 73), (B2, .cells #[.slice none 0 0] 34), (B1, .cells (rowsV d sa sb ca cb).cells 26)] w := by
    have e : ∀ z : Array Value, z.size = 121 → spl z 0 cg.toList = cg := fun z hz2 => spl_all (by rw [hz2, hz])
    have h2 := hh
    simp only [List.set_cons_zero] at h2
    rw [show (Value.agg cg).cells.toList = cg.toList from rfl, e _ rfl] at h2
    exact h2
   refine o_end ?_
   refine sy_seq ?_
   have g0 := grid11 hG (i := 0) (k := 0) (by omega) (by omega)
   have g00 : cg[0 + (0 : Int).toNat * 11 + (0 : Int).toNat * 1]? = some (.int .i64 (mosD d)) := g0
   refine sy_ops ?_
   refine o_v hf hh (y_ia Tryd.ae_82 rfl rfl) ?_; clear hf a; intro a hf
   refine o_v hf hh (y_ia Tryd.ae_81 rfl rfl) ?_; clear hf a; intro a hf
   refine o_v hf hh (y_ld Tryd.sc_3 rfl) ?_; clear hf a; intro a hf
   refine o_alloc hf hh Tryd.ze_3 ?_; clear hf hh a; intro B7 a w hf hh
   refine o_store hf hh Tryd.sz_3 fun w hh => ?_
   refine o_end ?_
   refine sy_seq ?_
   have hmd : mosD d ≤ d.l.length - 0 ∧ mosD d ≤ d.r.length - 0 := hml
   refine sy_ops ?_
   refine o_v hf hh (yv_fieldAddr Tryd.fo_26_0 rfl) ?_; clear hf a; intro a hf
   refine o_v hf hh (y_ld Tryd.sc_22 rfl) ?_; clear hf a; intro a hf
   refine o_v hf hh (yv_len Tryd.se_22 rfl) ?_; clear hf a; intro a hf
   refine o_v hf hh (yv_fieldAddr Tryd.fo_26_1 rfl) ?_; clear hf a; intro a hf
   refine o_v hf hh (y_ld Tryd.sc_22 rfl) ?_; clear hf a; intro a hf
   refine o_v hf hh (yv_len Tryd.se_22 rfl) ?_; clear hf a; intro a hf
   refine o_v hf hh (y_add rfl rfl) ?_; clear hf a; intro a hf
   refine o_v hf hh (y_ld Tryd.sc_3 rfl) ?_; clear hf a; intro a hf
   refine o_v hf hh (y_mul rfl rfl) ?_; clear hf a; intro a hf
   refine o_v hf hh (y_sub rfl rfl) ?_; clear hf a; intro a hf
   refine o_v hf hh (yv_assign rfl) ?_; clear hf a; intro a hf
   refine o_end ?_
   refine sy_seq ?_
   refine sy_sq ?_
   refine o_alloc hf hh Tryd.ze_3 ?_; clear hf hh a; intro B8 a w hf hh
   refine o_alloc hf hh Tryd.ze_3 ?_; clear hf hh a; intro B9 a w hf hh
   refine o_store hf hh Tryd.sz_3 fun w hh => ?_
   refine o_store hf hh Tryd.sz_3 fun w hh => ?_
   refine o_end ?_
   refine sy_block ?_
   refine sy_loopM (σ := FewS) [8, 9, 34, 35, 36, 37, 38, 39, 40, 41, 65, 66] (fun s => mkd (s.Ds)) (fun s => [(8, ptr s.B8 0), (9, ptr s.B9 0)]) (fun s => fun w => mos (fitD d) d.l.length d.r.length s.i s.k = s.n ∧ s.i ≤ 10 ∧ s.k ≤ 10 ∧ s.n ≤ 10 ∧ s.done.length ≤ 10 - s.n ∧ grd (fitD d) d.l.length d.r.length (mosD d) 0 0 = s.done ++ grd (fitD d) d.l.length d.r.length s.n s.i s.k ∧ OwnSl 45 2 s.v s.done.length (encP s.done) s.X ∧ Hp u [] ([(s.B9, .cells #[.int .i64 s.k] 3), (s.B8, .cells #[.int .i64 s.i] 3), (B7, .cells #[.int .i64 s.n] 3), (B6, .cells cg 82), (Bo, .cells cso 73), (B2, .cells #[s.v] 34), (B1, .cells (rowsV d sa sb ca cb).cells 26)] ++ (s.X ++ dls s.Ds)) w) (fun s => s.n) (⟨mosD d, 0, 0, B8, B9, [], .slice none 0 0, [], []⟩) hf rfl ?_ ?_ ?_
   · repeat' (first | exact True.intro | refine And.intro rfl ?_)
   · exact ⟨rfl, Nat.zero_le _, Nat.zero_le _, by simp only; omega, by simp, rfl, OwnSl.nil _ _, hh⟩
   ·rintro s a w ⟨hms, hi10, hk10, hn10, hdl, hgr, hown, hh⟩ hf
    refine sy_seq ?_
    refine sy_sq ?_
    refine o_v hf hh (y_ld Tryd.sc_3 rfl) ?_; clear hf a; intro a hf
    refine o_v hf hh (yv_bin rfl rfl rfl) ?_; clear hf a; intro a hf
    refine o_end ?_
    refine sy_cond hf rfl (fun hg8 => ?_) (fun hg8 => ?_)
    ·have hG8 := hg8; try simp only [gS] at hG8
     refine sy_skip ?_
     refine then_n ?_
     refine sy_seq ?_
     refine sy_block ?_
     refine sy_scope ?_
     refine sy_seq ?_
     refine sy_label ?_
     refine then_n ?_
     refine sy_seq ?_
     obtain ⟨n, hn⟩ : ∃ n, s.n = n + 1 := ⟨s.n - 1, by omega⟩
     refine sy_ops ?_
     refine o_v hf hh (yv_move rfl) ?_; clear hf a; intro a hf
     refine o_v hf hh (y_ld Tryd.sc_3 rfl) ?_; clear hf a; intro a hf
     refine o_v hf hh (y_ld Tryd.sc_3 rfl) ?_; clear hf a; intro a hf
     refine o_call hf Tryd.en_51 rfl rfl rfl (c51 Bo s.i s.k _) ?_; clear hf a; intro v a w hR hf
     obtain ⟨Ba, Bi, Bk, rfl, hx⟩ := hR; replace hh := hh.join hx; clear hx
     refine o_end ?_
     refine sy_block ?_
     refine sy_range (I := fun j H => (∀ j2, j2 < j → ∀ q, (prs (fitD d) d.l.length d.r.length s.i s.k)[j2]? = some q → ¬ 1 + mos (fitD d) d.l.length d.r.length (q.1 + 1) (q.2 + 1) = s.n) ∧ H = [(Bk, .cells #[.int .i64 s.k] 3), (Bi, .cells #[.int .i64 s.i] 3), (Ba, .cells #[ptr Bo 0] 74)] ++ ([(s.B9, .cells #[.int .i64 s.k] 3), (s.B8, .cells #[.int .i64 s.i] 3), (B7, .cells #[.int .i64 s.n] 3), (B6, .cells cg 82), (Bo, .cells cso 73), (B2, .cells #[s.v] 34), (B1, .cells (rowsV d sa sb ca cb).cells 26)] ++ (s.X ++ dls s.Ds))) (X := fun j c H => c = .exit 2 ∧ ∃ p v2 X2, (prs (fitD d) d.l.length d.r.length s.i s.k)[j]? = some p ∧ 1 + mos (fitD d) d.l.length d.r.length (p.1 + 1) (p.2 + 1) = s.n ∧ (∀ j2, j2 < j → ∀ q, (prs (fitD d) d.l.length d.r.length s.i s.k)[j2]? = some q → ¬ 1 + mos (fitD d) d.l.length d.r.length (q.1 + 1) (q.2 + 1) = s.n) ∧ OwnSl 45 2 v2 (s.done.length + 1) (encP s.done ++ [.int .i64 p.1, .int .i64 p.2]) X2 ∧ H = [(Bk, .cells #[.int .i64 s.k] 3), (Bi, .cells #[.int .i64 s.i] 3), (Ba, .cells #[ptr Bo 0] 74)] ++ ([(s.B9, .cells #[.int .i64 ((p.2 + 1 : Nat) : Int)] 3), (s.B8, .cells #[.int .i64 ((p.1 + 1 : Nat) : Int)] 3), (B7, .cells #[.int .i64 s.n] 3), (B6, .cells cg 82), (Bo, .cells cso 73), (B2, .cells #[v2] 34), (B1, .cells (rowsV d sa sb ca cb).cells 26)] ++ (X2 ++ dls s.Ds))) hf hh Tryd.en_89 rfl (it89 d sa sb ca cb (fitD d) Bo s.i s.k Ba Bi Bk) rfl (by intro x hx; obtain ⟨y, _, rfl⟩ := List.mem_map.1 hx; rfl) ?_ ?_ ?_ ?_ ?_
     · exact ⟨fun j2 h => absurd h (Nat.not_lt_zero _), rfl⟩
     · rintro _ _ l D o w ⟨_, rfl⟩ h
       exact ⟨h.at (i := 4) rfl, h.at (i := 3) rfl, h.at (i := 2) rfl, ⟨cso, h.at (i := 9) rfl, hRo⟩, hnl, hnr⟩
     ·rintro j x fn D l H w a tm hx ⟨hno, rfl⟩ hh hf
      obtain ⟨p, hp, rfl⟩ : ∃ p, (prs (fitD d) d.l.length d.r.length s.i s.k)[j]? = some p ∧ x = tp p := by
        rw [List.getElem?_map] at hx
        cases e : (prs (fitD d) d.l.length d.r.length s.i s.k)[j]? with
        | none => rw [e] at hx; cases hx
        | some p => rw [e] at hx; cases hx; exact ⟨p, rfl, rfl⟩
      refine sy_ops ?_
      refine o_alloc hf hh Tryd.ze_45 ?_; clear hf hh a; intro B10 a w hf hh
      refine o_store hf hh Tryd.sz_45 fun w hh => ?_
      refine ops_end ?_
      refine then_n (Go.Sy.begun (i := 1) hh rfl fun w hh => ?_)
      refine sy_block ?_
      refine sy_seq ?_
      have hpb := mem_prs.1 (List.mem_of_getElem? hp)
      have gp := grid11 hG (i := p.1 + 1) (k := p.2 + 1) (by omega) (by omega)
      have hpl := mos_le (fitD d) d.l.length d.r.length (p.1 + 1) (p.2 + 1)
      have gp2 : cg[0 + ((p.1 + 1 : Nat) : Int).toNat * 11 + ((p.2 + 1 : Nat) : Int).toNat * 1]? = some (.int .i64 ((mos (fitD d) d.l.length d.r.length (p.1 + 1) (p.2 + 1) : Nat) : Int)) := gp
      refine sy_quiet (C := Hp _ _ _) Tryd.follows (by kernel_rfl) (hh.drawn _) ?_
      refine oq_v hf (y_ia Tryd.ae_45 rfl rfl) ?_; clear hf a; intro a hf
      refine oq_v hf (y_ld Tryd.sc_3 rfl) ?_; clear hf a; intro a hf
      refine q_v hf (yv_cast (yv_add rfl rfl (by omega) (by omega)) (intv (b := ((p.1 + 1 : Nat) : Int)) (by omega))) (.inl rfl) rfl rfl ?_; clear hf a; intro a hf
      refine oq_v hf (y_ia Tryd.ae_45 rfl rfl) ?_; clear hf a; intro a hf
      refine oq_v hf (y_ld Tryd.sc_3 rfl) ?_; clear hf a; intro a hf
      refine q_v hf (yv_cast (yv_add rfl rfl (by omega) (by omega)) (intv (b := ((p.2 + 1 : Nat) : Int)) (by omega))) (.inl rfl) rfl rfl ?_; clear hf a; intro a hf
      refine oq_v hf (y_ia Tryd.ae_82 rfl rfl) ?_; clear hf a; intro a hf
      refine oq_v hf (y_ia Tryd.ae_81 rfl rfl) ?_; clear hf a; intro a hf
      refine oq_v hf (y_ld Tryd.sc_3 rfl) ?_; clear hf a; intro a hf
      refine oq_v hf (y_add rfl rfl) ?_; clear hf a; intro a hf
      refine oq_v hf (y_ld Tryd.sc_3 rfl) ?_; clear hf a; intro a hf
      refine oq_v hf (yv_bin rfl rfl rfl) ?_; clear hf a; intro a hf
      refine q_end fun w hh => ?_
      refine then_n ?_
      refine sy_cond hf rfl (fun hg14 => ?_) (fun hg14 => ?_)
      ·have hG14 := hg14; try simp only [gS] at hG14
       refine sy_seq ?_
       refine sy_treeC (.q 0 0 (.q 0 1 (.p 4 (.q 1 5 (.p 6 (.p 7 (.q 1 8 (.p 9 (.e1 2 (.e1 3 (.e1 10 (.e1 11 (.e1 12 (.fin)))))))))))))) [[10, 11, 12], []] [(AtE u [] [(B10, .cells #[.int .i64 p.1, .int .i64 p.2] 45), (B2, .cells #[s.v] 34)], [10, 11, 12]), (AtE u [] [(B10, .cells #[.int .i64 p.1, .int .i64 p.2] 45)], [])] Tryd.follows (by kernel_rfl) rfl hh (fun w hh => ?_)
       refine mc_q rfl rfl (by first | exact AtE.mk2 hh.ext (hh.at (i := 0) rfl) (hh.at (i := 11) rfl) | exact AtE.mk2 hh.ext (hh.at (i := 1) rfl) (hh.at (i := 12) rfl)) hf (y_ld Tryd.sc_34 rfl) (.inl rfl) rfl rfl ?_; clear hf a; intro a hf
       refine mc_q rfl rfl (by first | exact AtE.mk2 hh.ext (hh.at (i := 0) rfl) (hh.at (i := 11) rfl) | exact AtE.mk2 hh.ext (hh.at (i := 1) rfl) (hh.at (i := 12) rfl)) hf (y_lds Tryd.ag_45 rfl) (.inl rfl) rfl rfl ?_; clear hf a; intro a hf
       refine mc_p rfl   hf (y_ia Tryd.ae_45 rfl rfl) (.inl rfl) rfl rfl ?_; clear hf a; intro a hf
       refine mc_q rfl rfl (by first | exact AtE.mk1 hh.ext (hh.at (i := 0) rfl) | exact AtE.mk1 hh.ext (hh.at (i := 1) rfl)) hf (y_ld Tryd.sc_3 rfl) (.inl rfl) rfl rfl ?_; clear hf a; intro a hf
       refine mc_p rfl   hf (yv_cast (yv_add rfl rfl (by omega) (by omega)) (intv (b := ((p.1 + 1 : Nat) : Int)) (by omega))) (.inl rfl) rfl rfl ?_; clear hf a; intro a hf
       refine mc_p rfl   hf (y_ia Tryd.ae_45 rfl rfl) (.inl rfl) rfl rfl ?_; clear hf a; intro a hf
       refine mc_q rfl rfl (by first | exact AtE.mk1 hh.ext (hh.at (i := 0) rfl) | exact AtE.mk1 hh.ext (hh.at (i := 1) rfl)) hf (y_ld Tryd.sc_3 rfl) (.inl rfl) rfl rfl ?_; clear hf a; intro a hf
       refine mc_p rfl   hf (yv_cast (yv_add rfl rfl (by omega) (by omega)) (intv (b := ((p.2 + 1 : Nat) : Int)) (by omega))) (.inl rfl) rfl rfl ?_; clear hf a; intro a hf
       refine mc_e rfl fun Q1 => ?_
       refine ops_buildSl hf hh Tryd.bl_34_1 rfl rfl (.inl rfl) rfl ?_; clear hf hh; clear a; intro B57 a w hf hh
       refine ops_end ?_
       refine then_n ⟨⟨fun _ _ => (by first | exact AtE.mk2 hh.ext (hh.at (i := 0) rfl) (hh.at (i := 11) rfl) | exact AtE.mk2 hh.ext (hh.at (i := 1) rfl) (hh.at (i := 12) rfl)), fun _ _ => (by first | exact AtE.mk1 hh.ext (hh.at (i := 0) rfl) | exact AtE.mk1 hh.ext (hh.at (i := 1) rfl)), trivial⟩, ?_⟩
       refine mc_e rfl fun Q1 => ?_
       replace hh := hh.perm (List.Perm.cons _ (List.perm_append_comm_assoc [_, _, _, _, _, _, _, _, _, _, _, _, _] s.X (dls s.Ds)))
       refine ops_append (e := 45) (size := 2) (xs := encP s.done) hf hh Tryd.eb_34 rfl rfl hown rfl rfl rfl (by simp only [maxLen]; omega) (by omega) (.inl rfl) rfl ?_; clear hf hh a; intro v2 X2 a w hown2 hf hh
       replace hh := hh.perm (List.perm_append_comm_assoc X2 [_, _, _, _, _, _, _, _, _, _, _, _, _] (dls s.Ds))
       obtain ⟨oa2, cap2, rfl⟩ := OwnSl_val hown2
       refine ops_end ?_
       refine then_n ⟨⟨fun _ _ => (by first | exact AtE.mk2 hh.ext (hh.at (i := 0) rfl) (hh.at (i := 11) rfl) | exact AtE.mk2 hh.ext (hh.at (i := 1) rfl) (hh.at (i := 12) rfl)), fun _ _ => (by first | exact AtE.mk1 hh.ext (hh.at (i := 0) rfl) | exact AtE.mk1 hh.ext (hh.at (i := 1) rfl)), trivial⟩, ?_⟩
       refine mc_e rfl fun Q1 => ?_
       refine o_store hf hh Tryd.sz_34 fun w hh => ?_
       refine ops_end ?_
       refine then_n ⟨⟨fun h => Bool.noConfusion (show true = false from h), fun _ _ => (by first | exact AtE.mk1 hh.ext (hh.at (i := 0) rfl) | exact AtE.mk1 hh.ext (hh.at (i := 1) rfl)), trivial⟩, ?_⟩
       refine mc_e rfl fun Q1 => ?_
       refine o_store hf hh Tryd.sz_3 fun w hh => ?_
       refine ops_end ?_
       refine then_n ⟨⟨fun h => Bool.noConfusion (show true = false from h), fun _ _ => (by first | exact AtE.mk1 hh.ext (hh.at (i := 0) rfl) | exact AtE.mk1 hh.ext (hh.at (i := 1) rfl)), trivial⟩, ?_⟩
       refine mc_e rfl fun Q1 => ?_
       refine o_store hf hh Tryd.sz_3 fun w hh => ?_
       refine ops_end ?_
       refine then_n ⟨⟨fun h => Bool.noConfusion (show true = false from h), fun _ _ => (by first | exact AtE.mk1 hh.ext (hh.at (i := 0) rfl) | exact AtE.mk1 hh.ext (hh.at (i := 1) rfl)), trivial⟩, ?_⟩
       refine mc_end ?_
       refine then_n ?_
       refine sy_exit ?_
       refine blk_x rfl ?_
       exact ⟨_, ⟨rfl, p, _, X2, hp, by omega, hno, hown2, rfl⟩, (hh.less (.cons _ (List.Sublist.refl _)))⟩
      ·have hG14 := hg14; try simp only [gS] at hG14
       refine sy_skip ?_
       refine blk_n ?_
       exact ⟨_, ⟨fun j2 h2 q hq => by
         rcases Nat.lt_or_ge j2 j with h3 | h3
         · exact hno j2 h3 q hq
         · have h4 : j2 = j := by omega
           subst h4; rw [hp] at hq; cases hq; omega, rfl⟩, (hh.less (.cons _ (List.Sublist.refl _)))⟩
     ·rintro D H a w ⟨hno, rfl⟩ hf hh
      exfalso
      rw [List.length_map] at hno
      obtain ⟨p, h1, h2, h3, _⟩ := grd_find (hms.trans hn)
      obtain ⟨j2, hj2, hjp⟩ := List.getElem_of_mem h3
      exact hno j2 hj2 p (by rw [List.getElem?_eq_getElem hj2, hjp]) (by omega)
     ·rintro j c D H a w hX hf hh
      obtain ⟨rfl, p, v2, X2, hp, hpm, hno, hown2, rfl⟩ := hX
      have hpb := mem_prs.1 (List.mem_of_getElem? hp)
      refine sy_exit ?_
      refine blk_e ?_
      refine ng_n ?_
      refine blk_n ?_
      refine then_n ?_
      refine sy_seq ?_
      refine sy_sq ?_
      refine o_v hf hh (y_ld Tryd.sc_3 rfl) ?_; clear hf a; intro a hf
      refine o_v hf hh (y_ld Tryd.sc_3 rfl) ?_; clear hf a; intro a hf
      refine o_end ?_
      refine sy_ops ?_
      refine o_alloc hf hh Tryd.ze_3 ?_; clear hf hh a; intro B8 a w hf hh
      refine o_store hf hh Tryd.sz_3 fun w hh => ?_
      refine o_alloc hf hh Tryd.ze_3 ?_; clear hf hh a; intro B9 a w hf hh
      refine o_store hf hh Tryd.sz_3 fun w hh => ?_
      refine o_end ?_
      refine sy_ops ?_
      refine o_v hf hh (y_ld Tryd.sc_3 rfl) ?_; clear hf a; intro a hf
      refine ops_v hf hh (yv_cast (yv_sub rfl rfl (by omega) (by omega)) (intv (b := ((n : Nat) : Int)) (by omega))) (.inl rfl) rfl rfl rfl ?_; clear hf a; intro a hf
      refine o_store hf hh Tryd.sz_3 fun w hh => ?_
      refine ops_end ?_
      refine then_n ?_
      refine ⟨⟨n, p.1 + 1, p.2 + 1, B8, B9, s.done ++ [p], v2, X2, D :: s.Ds⟩, ⟨⟨by simp only; omega, by simp only; omega, by simp only; omega, by simp only; omega, by simp only [List.length_append, List.length_singleton]; omega, ?_, ?_, ?_⟩, hf.head ⟨rfl, rfl, True.intro⟩ (Keep.cons rfl (Keep.cons rfl (Keep.cons rfl (Keep.cons rfl (Keep.cons rfl (Keep.cons rfl (Keep.cons rfl (Keep.cons rfl (Keep.cons rfl (Keep.cons rfl (Keep.cons rfl (Keep.cons rfl (Keep.app rfl (Keep.rm rfl Keep.base))))))))))))))⟩, by simp only; omega⟩
      · rw [hgr, hn, grd_at hp (by omega) (fun j2 h2 q hq => by rw [← hn]; exact hno j2 h2 q hq)]; simp
      · simp only [List.length_append, List.length_singleton, encP_snoc]; exact hown2
      · have h1 := (hh.less (.cons_cons _ (.cons_cons _ (.cons_cons _ (.cons _ (.cons _ (.cons _ (.cons _ (.cons _ (.refl _))))))))))
        have h2 : Hp u [] ((D, .deferred (some [])) :: (([(B9, .cells #[.int .i64 ((p.2 + 1 : Nat) : Int)] 3), (B8, .cells #[.int .i64 ((p.1 + 1 : Nat) : Int)] 3), (B7, .cells #[.int .i64 n] 3), (B6, .cells cg 82), (Bo, .cells cso 73), (B2, .cells #[v2] 34), (B1, .cells (rowsV d sa sb ca cb).cells 26)] ++ X2) ++ dls s.Ds)) w := by rw [List.append_assoc]; exact h1.perm (List.perm_middle (l₁ := [_, _]))
        have h3 := Hp.mark h2
        rw [List.append_assoc] at h3
        exact h3
    ·have hG8 := hg8; try simp only [gS] at hG8
     refine sy_exit ?_
     refine then_e ?_
     refine then_e ?_
     refine blk_e ?_
     refine then_n ?_
     refine sy_seq ?_
     obtain ⟨oa, cp, hv⟩ := OwnSl_val hown
     rw [hv] at hh hown
     refine sy_ops ?_
     refine o_v hf hh (y_ld Tryd.sc_34 rfl) ?_; clear hf a; intro a hf
     refine o_v hf hh (yv_move rfl) ?_; clear hf a; intro a hf
     refine o_store hf hh Tryd.sz_34 fun w hh => ?_
     refine o_v hf hh (yv_assign rfl) ?_; clear hf a; intro a hf
     refine o_v hf hh (yv_assign rfl) ?_; clear hf a; intro a hf
     refine o_end ?_
     refine sy_ret ?_
     have hn0 : s.n = 0 := by omega
     have eL : fewL d = s.done := by
       unfold fewL; rw [if_pos hop, hgr, hn0]; unfold grd; rw [List.append_nil]
     have eH : fewH d = ((d.l.length + d.r.length : Nat) : Int) - 2 * (mosD d : Nat) := by unfold fewH; rw [if_pos hop]
     rw [eL, eH, hop]
     have hh2 : Hp u [] ([(s.B9, .cells #[.int .i64 s.k] 3), (s.B8, .cells #[.int .i64 s.i] 3), (B7, .cells #[.int .i64 s.n] 3), (B6, .cells cg 82), (Bo, .cells cso 73), (B2, .cells #[.slice oa s.done.length cp] 34), (B1, .cells (rowsV d sa sb ca cb).cells 26)] ++ (s.X ++ dls s.Ds)) w := hh
     rw [← List.append_assoc] at hh2
     exact ret_mb (Ds := s.Ds) hf hh2 fun w' hh => ⟨[.slice oa s.done.length cp, .int .i64 (((d.l.length + d.r.length : Nat) : Int) - 2 * (mosD d : Nat)), .int .i64 0], ⟨⟨B2, 0, _, _, _, rfl, hh.at (i := 5) rfl, .inl ⟨Tryd.sc_34, rfl⟩⟩, rfl, rfl, True.intro⟩, _, s.X, rfl, hown, hh.less (List.sublist_append_right _ _)⟩
end Go.Proofs.YtemmhdgaagaglaaDoor
namespace Go.Proofs.YtemmhdgaagaglaaDoor
open Go Go.Sy Go.MatM
theorem fl45 : flatB Tryd.prog 45 = some 2 := by kernel_rfl
theorem fl24 : flatB Tryd.prog 24 = some 2 := by kernel_rfl
theorem fl53 : flatB Tryd.prog 53 = some 4 := by kernel_rfl
theorem c29 (x y : Int) (w : World) : Calls Tryd.prog 29 #[.int .i64 x, .int .i64 y] w (Ret fun v w' => v = .agg #[.int .i64 x, .int .i64 y] ∧ Ext [] w w') := by
  refine calls_of Tryd.func29 rfl rfl (fun a hf => ?_)
  have hh := Hp.init w []
  refine sy_sq ?_
  refine o_alloc hf hh Tryd.ze_24 ?_; clear hf hh a; intro B4 a w hf hh
  refine o_end ?_
  refine sy_sq ?_
  refine o_v hf hh (yv_move rfl) ?_; clear hf a; intro a hf
  refine o_v hf hh (yv_move rfl) ?_; clear hf a; intro a hf
  refine o_v hf hh (yv_buildS Tryd.bs_24 rfl rfl) ?_; clear hf a; intro a hf
  refine o_store hf hh Tryd.sz_24 fun w hh => ?_
  refine o_end ?_
  refine sy_ret ?_
  refine ret_c (vs := [.agg #[.int .i64 x, .int .i64 y]]) hf ?_ ?_
  · exact ⟨⟨B4, 0, _, _, _, rfl, hh.at (i := 0) rfl, .inr ⟨2, _, Tryd.ag_24, rfl, rfl⟩⟩, True.intro⟩
  · exact ⟨rfl, hh.ext⟩
theorem c72 (x y z t : Int) (w : World) : Calls Tryd.prog 72 #[.int .i64 x, .int .i64 y, .int .i64 z, .int .i64 t] w (Ret fun v w' => v = mkV ⟨x, y, z, t⟩ ∧ Ext [] w w') := by
  refine calls_of Tryd.func72 rfl rfl (fun a hf => ?_)
  have hh := Hp.init w []
  refine sy_sq ?_
  refine o_alloc hf hh Tryd.ze_53 ?_; clear hf hh a; intro B8 a w hf hh
  refine o_end ?_
  refine sy_sq ?_
  refine o_v hf hh (yv_move rfl) ?_; clear hf a; intro a hf
  refine o_v hf hh (yv_move rfl) ?_; clear hf a; intro a hf
  refine o_call hf Tryd.en_29 rfl rfl rfl (c29 _ _ _) ?_; clear hf a; intro v a w hR hf
  obtain ⟨rfl, hx⟩ := hR; replace hh := hh.more hx; clear hx
  refine o_v hf hh (yv_move rfl) ?_; clear hf a; intro a hf
  refine o_v hf hh (yv_move rfl) ?_; clear hf a; intro a hf
  refine o_call hf Tryd.en_29 rfl rfl rfl (c29 _ _ _) ?_; clear hf a; intro v a w hR hf
  obtain ⟨rfl, hx⟩ := hR; replace hh := hh.more hx; clear hx
  refine o_v hf hh (yv_buildS Tryd.bs_53 rfl rfl) ?_; clear hf a; intro a hf
  refine o_store hf hh Tryd.sz_53 fun w hh => ?_
  refine o_end ?_
  refine sy_ret ?_
  refine ret_c (vs := [mkV ⟨x, y, z, t⟩]) hf ?_ ?_
  · exact ⟨⟨B8, 0, _, _, _, rfl, hh.at (i := 0) rfl, .inr ⟨4, _, Tryd.ag_53, rfl, rfl⟩⟩, True.intro⟩
  · exact ⟨rfl, hh.ext⟩
theorem c37 (u : World) : Calls Tryd.prog 37 #[] u (Ret fun v w' => ∃ sa sb, v = rowsV sampleD sa sb 3 4 ∧ MkAt w' sa sampleD.l ∧ MkAt w' sb sampleD.r ∧ Ext [] u w') := by
  refine calls_of Tryd.func37 rfl rfl (fun a hf => ?_)
  have hh := Hp.init u []
  refine sy_sq ?_
  refine o_alloc hf hh Tryd.ze_26 ?_; clear hf hh a; intro B0 a w hf hh
  refine o_end ?_
  refine sy_sq ?_
  refine o_call hf Tryd.en_72 rfl rfl rfl (c72 _ _ _ _ _) ?_; clear hf a; intro v a w hR hf
  obtain ⟨rfl, hx⟩ := hR; replace hh := hh.more hx; clear hx
  refine o_call hf Tryd.en_72 rfl rfl rfl (c72 _ _ _ _ _) ?_; clear hf a; intro v a w hR hf
  obtain ⟨rfl, hx⟩ := hR; replace hh := hh.more hx; clear hx
  refine o_call hf Tryd.en_72 rfl rfl rfl (c72 _ _ _ _ _) ?_; clear hf a; intro v a w hR hf
  obtain ⟨rfl, hx⟩ := hR; replace hh := hh.more hx; clear hx
  refine ops_buildSl hf hh Tryd.bl_22_3 rfl rfl (.inl rfl) rfl ?_; clear hf hh; clear a; intro B4 a w hf hh
  refine o_call hf Tryd.en_72 rfl rfl rfl (c72 _ _ _ _ _) ?_; clear hf a; intro v a w hR hf
  obtain ⟨rfl, hx⟩ := hR; replace hh := hh.more hx; clear hx
  refine o_call hf Tryd.en_72 rfl rfl rfl (c72 _ _ _ _ _) ?_; clear hf a; intro v a w hR hf
  obtain ⟨rfl, hx⟩ := hR; replace hh := hh.more hx; clear hx
  refine o_call hf Tryd.en_72 rfl rfl rfl (c72 _ _ _ _ _) ?_; clear hf a; intro v a w hR hf
  obtain ⟨rfl, hx⟩ := hR; replace hh := hh.more hx; clear hx
  refine o_call hf Tryd.en_72 rfl rfl rfl (c72 _ _ _ _ _) ?_; clear hf a; intro v a w hR hf
  obtain ⟨rfl, hx⟩ := hR; replace hh := hh.more hx; clear hx
  refine ops_buildSl hf hh Tryd.bl_22_4 rfl rfl (.inl rfl) rfl ?_; clear hf hh; clear a; intro B9 a w hf hh
  refine o_call hf Tryd.en_29 rfl rfl rfl (c29 _ _ _) ?_; clear hf a; intro v a w hR hf
  obtain ⟨rfl, hx⟩ := hR; replace hh := hh.more hx; clear hx
  refine o_v hf hh (yv_buildS Tryd.bs_26 rfl rfl) ?_; clear hf a; intro a hf
  refine o_store hf hh Tryd.sz_26 fun w hh => ?_
  refine o_end ?_
  refine sy_ret ?_
  refine ret_c (vs := [rowsV sampleD (some ⟨B4, 0, none⟩) (some ⟨B9, 0, none⟩) 3 4]) hf ?_ ?_
  · exact ⟨⟨B0, 0, _, _, _, rfl, hh.at (i := 2) rfl, .inr ⟨5, _, Tryd.ag_26, rfl, rfl⟩⟩, True.intro⟩
  · exact ⟨_, _, rfl, mkAt_of (cap := 3) (X := [(B4, .cells (encM sampleD.l).toArray 53)]) ⟨rfl, .inr ⟨B4, 3, _, rfl, rfl, Nat.le_refl _, by simp only [maxLen]; omega, rfl, rfl⟩⟩ (fun x hx => by rw [List.mem_singleton] at hx; subst hx; exact hh.at (i := 1) rfl),
     mkAt_of (cap := 4) (X := [(B9, .cells (encM sampleD.r).toArray 53)]) ⟨rfl, .inr ⟨B9, 4, _, rfl, rfl, Nat.le_refl _, by simp only [maxLen]; omega, rfl, rfl⟩⟩ (fun x hx => by rw [List.mem_singleton] at hx; subst hx; exact hh.at (i := 0) rfl), hh.ext⟩
theorem c36 (l m : List Int) (sa sb : Option Addr) (ca cb : Nat) (u : World) (hA : ValsAt u sa (ivs l)) (hB : ValsAt u sb (ivs m)) (hl : l.length ≤ 1000000) : Calls Tryd.prog 36 #[.slice sa l.length ca, .slice sb m.length cb] u (Ret fun v w' => v = .bool (decide (l = m)) ∧ Ext [] u w') := by
  refine calls_of Tryd.func36 rfl rfl (fun a hf => ?_)
  have hh := Hp.init u []
  refine sy_sq ?_
  refine o_v hf hh (yv_assign rfl) ?_; clear hf a; intro a hf
  refine o_end ?_
  refine sy_seq ?_
  refine sy_sq ?_
  refine o_v hf hh (yv_move rfl) ?_; clear hf a; intro a hf
  refine o_v hf hh (yv_len Tryd.se_55 rfl) ?_; clear hf a; intro a hf
  refine o_v hf hh (yv_move rfl) ?_; clear hf a; intro a hf
  refine o_v hf hh (yv_len Tryd.se_55 rfl) ?_; clear hf a; intro a hf
  refine o_v hf hh (yv_bin rfl rfl rfl) ?_; clear hf a; intro a hf
  refine o_end ?_
  refine sy_cond hf rfl (fun hg2 => ?_) (fun hg2 => ?_)
  ·have hG2 := hg2; try simp only [gS] at hG2
   refine sy_sq ?_
   refine o_v hf hh (yv_assign rfl) ?_; clear hf a; intro a hf
   refine o_end ?_
   refine sy_ret ?_
   refine then_r ?_
   refine ret_r hf rfl rfl ?_
   exact ⟨congrArg Value.bool (by symm; rw [decide_eq_false_iff_not]; intro e; subst e; simp_all), hh.ext⟩
  ·have hG2 := hg2; try simp only [gS] at hG2
   refine sy_skip ?_
   refine then_n ?_
   refine sy_seq ?_
   refine sy_sq ?_
   refine o_v hf hh (yv_assign rfl) ?_; clear hf a; intro a hf
   refine o_end ?_
   refine sy_block ?_
   refine sy_loopF (σ := Nat) [4, 5, 11, 12, 13, 14, 15, 16, 17, 18, 19, 20, 21, 22, 23, 24, 25] (fun i => [(5, .int .i64 i)]) (fun i => i ≤ l.length ∧ l.take i = m.take i) (fun i => l.length - i) (0) hf hh ?_ ?_ ?_
   · repeat' (first | exact True.intro | refine And.intro rfl ?_)
   · exact ⟨Nat.zero_le _, rfl⟩
   ·rintro i a w ⟨hi, hq⟩ hf hh
    refine sy_seq ?_
    refine sy_sq ?_
    refine o_v hf hh (yv_move rfl) ?_; clear hf a; intro a hf
    refine o_v hf hh (yv_move rfl) ?_; clear hf a; intro a hf
    refine o_v hf hh (yv_len Tryd.se_55 rfl) ?_; clear hf a; intro a hf
    refine o_v hf hh (yv_bin rfl rfl rfl) ?_; clear hf a; intro a hf
    refine o_end ?_
    refine sy_cond hf rfl (fun hg4 => ?_) (fun hg4 => ?_)
    ·have hG4 := hg4; try simp only [gS] at hG4
     refine sy_skip ?_
     refine then_n ?_
     refine sy_seq ?_
     refine sy_block ?_
     refine sy_seq ?_
     obtain ⟨x, hx⟩ := ex_of (l := l) (i := i) (by omega)
     obtain ⟨y, hy⟩ := ex_of (l := m) (i := i) (by omega)
     rcases hA with h0 | ⟨blk, off, c, Tx, fr, e1, hbx, hcx⟩
     · have h1 := congrArg List.length h0; rw [List.length_map] at h1; have h1 : l.length = 0 := h1; have := len_of hx; have := len_of hy; omega
     rcases hB with h0 | ⟨blk2, off2, c2, Ty, fr2, e2, hby, hcy⟩
     · have h1 := congrArg List.length h0; rw [List.length_map] at h1; have h1 : m.length = 0 := h1; have := len_of hx; have := len_of hy; omega
     subst e1; subst e2
     have g1 : c[off + ((i : Nat) : Int).toNat * 1]? = some (.int .i64 x) := by simpa using hcx i (.int .i64 x) (by simp [hx])
     have g2 : c2[off2 + ((i : Nat) : Int).toNat * 1]? = some (.int .i64 y) := by simpa using hcy i (.int .i64 y) (by simp [hy])
     refine sy_quiet (C := Hp _ _ _) Tryd.follows (by kernel_rfl) (hh.drawn _) ?_
     refine oq_v hf (yv_move rfl) ?_; clear hf a; intro a hf
     refine oq_v hf (yv_move rfl) ?_; clear hf a; intro a hf
     refine oq_v hf (y_ix Tryd.se_55 rfl rfl) ?_; clear hf a; intro a hf
     refine oq_v hf (y_ld Tryd.sc_3 rfl) ?_; clear hf a; intro a hf
     refine oq_v hf (yv_move rfl) ?_; clear hf a; intro a hf
     refine oq_v hf (yv_move rfl) ?_; clear hf a; intro a hf
     refine oq_v hf (y_ix Tryd.se_55 rfl rfl) ?_; clear hf a; intro a hf
     refine oq_v hf (y_ld Tryd.sc_3 rfl) ?_; clear hf a; intro a hf
     refine oq_v hf (yv_bin rfl rfl rfl) ?_; clear hf a; intro a hf
     refine q_end fun w hh => ?_
     refine then_n ?_
     refine sy_cond hf rfl (fun hg6 => ?_) (fun hg6 => ?_)
     ·have hG6 := hg6; try simp only [gS] at hG6
      refine sy_sq ?_
      refine o_v hf hh (yv_assign rfl) ?_; clear hf a; intro a hf
      refine o_end ?_
      refine sy_ret ?_
      refine blk_r ?_
      refine then_r ?_
      refine then_r ?_
      refine blk_r ?_
      refine then_r ?_
      refine ret_r hf rfl rfl ?_
      exact ⟨congrArg Value.bool (by symm; rw [decide_eq_false_iff_not]; exact ne_of_at hx hy (by simp_all)), hh.ext⟩
     ·have hG6 := hg6; try simp only [gS] at hG6
      refine sy_skip ?_
      refine blk_n ?_
      refine then_n ?_
      refine sy_ops ?_
      refine o_v hf hh (yv_move rfl) ?_; clear hf a; intro a hf
      refine o_v hf hh (y_add rfl rfl) ?_; clear hf a; intro a hf
      refine o_v hf hh (yv_assign rfl) ?_; clear hf a; intro a hf
      refine ops_end ?_
      refine then_n ?_
      refine ⟨i + 1, ⟨⟨by omega, take_snoc hq hx hy (by simp_all)⟩, (hf.head (by repeat' (first | exact True.intro | refine And.intro rfl ?_)) (Keep.cons rfl (Keep.cons rfl (Keep.cons rfl (Keep.cons rfl (Keep.cons rfl (Keep.cons rfl (Keep.cons rfl (Keep.cons rfl (Keep.cons rfl (Keep.cons rfl (Keep.cons rfl (Keep.cons rfl (Keep.cons rfl (Keep.cons rfl (Keep.cons rfl (Keep.cons rfl (Keep.app rfl (Keep.rm rfl Keep.base))))))))))))))))))), hh⟩, by omega⟩
    ·have hG4 := hg4; try simp only [gS] at hG4
     refine sy_exit ?_
     refine then_e ?_
     refine then_e ?_
     refine blk_e ?_
     refine then_n ?_
     refine sy_sq ?_
     refine o_v hf hh (yv_assign rfl) ?_; clear hf a; intro a hf
     refine o_end ?_
     refine sy_ret ?_
     refine ret_r hf rfl rfl ?_
     have hie : i = l.length := by omega
     have hlm : l.length = m.length := by omega
     exact ⟨congrArg Value.bool (by symm; rw [decide_eq_true_eq]; rw [hie, List.take_length] at hq; rw [hq, hlm, List.take_length]), hh.ext⟩
theorem c21 (l m : List Pr) (sa sb : Option Addr) (ca cb : Nat) (u : World) (hA : ValsAt u sa (encP l)) (hB : ValsAt u sb (encP m)) (hl : l.length ≤ 1000000) : Calls Tryd.prog 21 #[.slice sa l.length ca, .slice sb m.length cb] u (Ret fun v w' => v = .bool (decide (l = m)) ∧ Ext [] u w') := by
  refine calls_of Tryd.func21 rfl rfl (fun a hf => ?_)
  have hh := Hp.init u []
  refine sy_sq ?_
  refine o_v hf hh (yv_assign rfl) ?_; clear hf a; intro a hf
  refine o_end ?_
  refine sy_seq ?_
  refine sy_sq ?_
  refine o_v hf hh (yv_move rfl) ?_; clear hf a; intro a hf
  refine o_v hf hh (yv_len Tryd.se_34 rfl) ?_; clear hf a; intro a hf
  refine o_v hf hh (yv_move rfl) ?_; clear hf a; intro a hf
  refine o_v hf hh (yv_len Tryd.se_34 rfl) ?_; clear hf a; intro a hf
  refine o_v hf hh (yv_bin rfl rfl rfl) ?_; clear hf a; intro a hf
  refine o_end ?_
  refine sy_cond hf rfl (fun hg2 => ?_) (fun hg2 => ?_)
  ·have hG2 := hg2; try simp only [gS] at hG2
   refine sy_sq ?_
   refine o_v hf hh (yv_assign rfl) ?_; clear hf a; intro a hf
   refine o_end ?_
   refine sy_ret ?_
   refine then_r ?_
   refine ret_r hf rfl rfl ?_
   exact ⟨congrArg Value.bool (by symm; rw [decide_eq_false_iff_not]; intro e; subst e; simp_all), hh.ext⟩
  ·have hG2 := hg2; try simp only [gS] at hG2
   refine sy_skip ?_
   refine then_n ?_
   refine sy_seq ?_
   refine sy_sq ?_
   refine o_v hf hh (yv_assign rfl) ?_; clear hf a; intro a hf
   refine o_end ?_
   refine sy_block ?_
   refine sy_loopF (σ := Nat) [4, 5, 11, 12, 13, 14, 15, 16, 17, 18, 19, 20, 21, 22, 23, 24, 25] (fun i => [(5, .int .i64 i)]) (fun i => i ≤ l.length ∧ l.take i = m.take i) (fun i => l.length - i) (0) hf hh ?_ ?_ ?_
   · repeat' (first | exact True.intro | refine And.intro rfl ?_)
   · exact ⟨Nat.zero_le _, rfl⟩
   ·rintro i a w ⟨hi, hq⟩ hf hh
    refine sy_seq ?_
    refine sy_sq ?_
    refine o_v hf hh (yv_move rfl) ?_; clear hf a; intro a hf
    refine o_v hf hh (yv_move rfl) ?_; clear hf a; intro a hf
    refine o_v hf hh (yv_len Tryd.se_34 rfl) ?_; clear hf a; intro a hf
    refine o_v hf hh (yv_bin rfl rfl rfl) ?_; clear hf a; intro a hf
    refine o_end ?_
    refine sy_cond hf rfl (fun hg4 => ?_) (fun hg4 => ?_)
    ·have hG4 := hg4; try simp only [gS] at hG4
     refine sy_skip ?_
     refine then_n ?_
     refine sy_seq ?_
     refine sy_block ?_
     refine sy_seq ?_
     obtain ⟨x, hx⟩ := ex_of (l := l) (i := i) (by omega)
     obtain ⟨y, hy⟩ := ex_of (l := m) (i := i) (by omega)
     rcases hA with h0 | ⟨blk, off, c, Tx, fr, e1, hbx, hcx⟩
     · have h1 := congrArg List.length h0; rw [encP_len] at h1; have h1 : l.length * 2 = 0 := h1; have := len_of hx; have := len_of hy; omega
     rcases hB with h0 | ⟨blk2, off2, c2, Ty, fr2, e2, hby, hcy⟩
     · have h1 := congrArg List.length h0; rw [encP_len] at h1; have h1 : m.length * 2 = 0 := h1; have := len_of hx; have := len_of hy; omega
     subst e1; subst e2
     obtain ⟨gx1, gx2⟩ := encP_get l i x hx
     obtain ⟨gy1, gy2⟩ := encP_get m i y hy
     have g1 : cellsAt c (off + ((i : Nat) : Int).toNat * 2) 2 = some [.int .i64 x.1, .int .i64 x.2] := by
       have a1 := hcx _ _ gx1; have a2 := hcx _ _ gx2
       simp only [Int.toNat_natCast]
       rw [← Nat.add_assoc] at a2
       simp [cellsAt, a1, a2]
     have g2 : cellsAt c2 (off2 + ((i : Nat) : Int).toNat * 2) 2 = some [.int .i64 y.1, .int .i64 y.2] := by
       have a1 := hcy _ _ gy1; have a2 := hcy _ _ gy2
       simp only [Int.toNat_natCast]
       rw [← Nat.add_assoc] at a2
       simp [cellsAt, a1, a2]
     have hxy : ([(x.1 : Int), (x.2 : Int)] = [(y.1 : Int), (y.2 : Int)]) ↔ x = y := by
       obtain ⟨x1, x2⟩ := x
       obtain ⟨y1, y2⟩ := y
       simp only [List.cons.injEq, and_true, Prod.mk.injEq]; omega
     refine sy_quiet (C := Hp _ _ _) Tryd.follows (by kernel_rfl) (hh.drawn _) ?_
     refine oq_v hf (yv_move rfl) ?_; clear hf a; intro a hf
     refine oq_v hf (yv_move rfl) ?_; clear hf a; intro a hf
     refine oq_v hf (y_ix Tryd.se_34 rfl rfl) ?_; clear hf a; intro a hf
     refine oq_v hf (y_lds Tryd.ag_45 rfl) ?_; clear hf a; intro a hf
     refine oq_v hf (yv_move rfl) ?_; clear hf a; intro a hf
     refine oq_v hf (yv_move rfl) ?_; clear hf a; intro a hf
     refine oq_v hf (y_ix Tryd.se_34 rfl rfl) ?_; clear hf a; intro a hf
     refine oq_v hf (y_lds Tryd.ag_45 rfl) ?_; clear hf a; intro a hf
     refine oq_v hf (yv_cast (yv_neF [(x.1 : Int), (x.2 : Int)] [(y.1 : Int), (y.2 : Int)] fl45 rfl rfl) (show Value.bool (!decide ([(x.1 : Int), (x.2 : Int)] = [(y.1 : Int), (y.2 : Int)])) = Value.bool (!decide (x = y)) by rw [decide_eq_decide.2 hxy])) ?_; clear hf a; intro a hf
     refine q_end fun w hh => ?_
     refine then_n ?_
     refine sy_cond hf rfl (fun hg6 => ?_) (fun hg6 => ?_)
     ·have hG6 := hg6; try simp only [gS] at hG6
      refine sy_sq ?_
      refine o_v hf hh (yv_assign rfl) ?_; clear hf a; intro a hf
      refine o_end ?_
      refine sy_ret ?_
      refine blk_r ?_
      refine then_r ?_
      refine then_r ?_
      refine blk_r ?_
      refine then_r ?_
      refine ret_r hf rfl rfl ?_
      exact ⟨congrArg Value.bool (by symm; rw [decide_eq_false_iff_not]; exact ne_of_at hx hy (by simp_all)), hh.ext⟩
     ·have hG6 := hg6; try simp only [gS] at hG6
      refine sy_skip ?_
      refine blk_n ?_
      refine then_n ?_
      refine sy_ops ?_
      refine o_v hf hh (yv_move rfl) ?_; clear hf a; intro a hf
      refine o_v hf hh (y_add rfl rfl) ?_; clear hf a; intro a hf
      refine o_v hf hh (yv_assign rfl) ?_; clear hf a; intro a hf
      refine ops_end ?_
      refine then_n ?_
      refine ⟨i + 1, ⟨⟨by omega, take_snoc hq hx hy (by simp_all)⟩, (hf.head (by repeat' (first | exact True.intro | refine And.intro rfl ?_)) (Keep.cons rfl (Keep.cons rfl (Keep.cons rfl (Keep.cons rfl (Keep.cons rfl (Keep.cons rfl (Keep.cons rfl (Keep.cons rfl (Keep.cons rfl (Keep.cons rfl (Keep.cons rfl (Keep.cons rfl (Keep.cons rfl (Keep.cons rfl (Keep.cons rfl (Keep.cons rfl (Keep.app rfl (Keep.rm rfl Keep.base))))))))))))))))))), hh⟩, by omega⟩
    ·have hG4 := hg4; try simp only [gS] at hG4
     refine sy_exit ?_
     refine then_e ?_
     refine then_e ?_
     refine blk_e ?_
     refine then_n ?_
     refine sy_sq ?_
     refine o_v hf hh (yv_assign rfl) ?_; clear hf a; intro a hf
     refine o_end ?_
     refine sy_ret ?_
     refine ret_r hf rfl rfl ?_
     have hie : i = l.length := by omega
     have hlm : l.length = m.length := by omega
     exact ⟨congrArg Value.bool (by symm; rw [decide_eq_true_eq]; rw [hie, List.take_length] at hq; rw [hq, hlm, List.take_length]), hh.ext⟩
end Go.Proofs.YtemmhdgaagaglaaDoor
namespace Go.Proofs.YtemmhdgaagaglaaDoor
open Go Go.Sy Go.MatM
theorem c58 (n l h : Int) (w : World) : Calls Tryd.prog 58 #[.int .i64 n, .int .i64 l, .int .i64 h] w (Ret fun v w' => v = .bool (decide (l ≤ n) && decide (n ≤ h)) ∧ Ext [] w w') := by
  refine calls_of Tryd.func58 rfl rfl (fun a hf => ?_)
  have hh := Hp.init w []
  refine sy_sq ?_
  refine o_v hf hh (yv_assign rfl) ?_; clear hf a; intro a hf
  refine o_end ?_
  refine sy_sq ?_
  refine o_v hf hh (yv_move rfl) ?_; clear hf a; intro a hf
  refine o_v hf hh (yv_move rfl) ?_; clear hf a; intro a hf
  refine o_v hf hh (yv_bin rfl rfl rfl) ?_; clear hf a; intro a hf
  refine o_v hf hh (yv_move rfl) ?_; clear hf a; intro a hf
  refine guard_split hf (t := 10) rfl (fun hg2 => ?_) (fun hg2 => ?_)
  ·have hG2 := hg2; try simp only [gS] at hG2
   refine o_v hf hh (yv_move rfl) ?_; clear hf a; intro a hf
   refine o_v hf hh (yv_move rfl) ?_; clear hf a; intro a hf
   refine o_v hf hh (yv_bin rfl rfl rfl) ?_; clear hf a; intro a hf
   refine o_v hf hh (y_pt rfl rfl) ?_; clear hf a; intro a hf
   refine o_v hf hh (yv_assign rfl) ?_; clear hf a; intro a hf
   refine o_end ?_
   refine sy_ret ?_
   refine ret_r hf rfl rfl ?_
   exact ⟨by simp [tup, *], hh.ext⟩
  ·have hG2 := hg2; try simp only [gS] at hG2
   refine o_off hf ?_; clear hf a; intro a hf
   refine o_off hf ?_; clear hf a; intro a hf
   refine o_off hf ?_; clear hf a; intro a hf
   refine o_v hf hh (y_pf rfl rfl) ?_; clear hf a; intro a hf
   refine o_v hf hh (yv_assign rfl) ?_; clear hf a; intro a hf
   refine o_end ?_
   refine sy_ret ?_
   refine ret_r hf rfl rfl ?_
   exact ⟨by simp [tup, *], hh.ext⟩
theorem c65 (x y l h : Int) (w : World) : Calls Tryd.prog 65 #[.agg #[.int .i64 x, .int .i64 y], .int .i64 l, .int .i64 h] w (Ret fun v w' => v = .bool (decide (l ≤ x) && decide (x ≤ y) && decide (y ≤ h)) ∧ Ext [] w w') := by
  refine calls_of Tryd.func65 rfl rfl (fun a hf => ?_)
  have hh := Hp.init w []
  refine sy_sq ?_
  refine o_box hf hh ?_; clear hf hh a; intro B3 a w hf hh
  refine o_v hf hh (yv_assign rfl) ?_; clear hf a; intro a hf
  refine o_end ?_
  refine sy_sq ?_
  refine o_v hf hh (yv_move rfl) ?_; clear hf a; intro a hf
  refine o_v hf hh (yv_fieldAddr Tryd.fo_24_0 rfl) ?_; clear hf a; intro a hf
  refine o_v hf hh (y_ld Tryd.sc_3 rfl) ?_; clear hf a; intro a hf
  refine o_v hf hh (yv_bin rfl rfl rfl) ?_; clear hf a; intro a hf
  refine o_v hf hh (yv_move rfl) ?_; clear hf a; intro a hf
  refine guard_split hf (t := 11) rfl (fun hg2 => ?_) (fun hg2 => ?_)
  ·have hG2 := hg2; try simp only [gS] at hG2
   refine o_v hf hh (yv_fieldAddr Tryd.fo_24_0 rfl) ?_; clear hf a; intro a hf
   refine o_v hf hh (y_ld Tryd.sc_3 rfl) ?_; clear hf a; intro a hf
   refine o_v hf hh (yv_fieldAddr Tryd.fo_24_1 rfl) ?_; clear hf a; intro a hf
   refine o_v hf hh (y_ld Tryd.sc_3 rfl) ?_; clear hf a; intro a hf
   refine o_v hf hh (yv_bin rfl rfl rfl) ?_; clear hf a; intro a hf
   refine o_v hf hh (y_pt rfl rfl) ?_; clear hf a; intro a hf
   refine o_v hf hh (yv_move rfl) ?_; clear hf a; intro a hf
   refine guard_split hf (t := 18) rfl (fun hg4 => ?_) (fun hg4 => ?_)
   ·have hG4 := hg4; try simp only [gS] at hG4
    refine o_v hf hh (yv_fieldAddr Tryd.fo_24_1 rfl) ?_; clear hf a; intro a hf
    refine o_v hf hh (y_ld Tryd.sc_3 rfl) ?_; clear hf a; intro a hf
    refine o_v hf hh (yv_move rfl) ?_; clear hf a; intro a hf
    refine o_v hf hh (yv_bin rfl rfl rfl) ?_; clear hf a; intro a hf
    refine o_v hf hh (y_pt rfl rfl) ?_; clear hf a; intro a hf
    refine o_v hf hh (yv_assign rfl) ?_; clear hf a; intro a hf
    refine o_end ?_
    refine sy_ret ?_
    refine ret_r hf rfl rfl ?_
    exact ⟨by simp [tup, *], hh.ext⟩
   ·have hG4 := hg4; try simp only [gS] at hG4
    refine o_off hf ?_; clear hf a; intro a hf
    refine o_off hf ?_; clear hf a; intro a hf
    refine o_off hf ?_; clear hf a; intro a hf
    refine o_off hf ?_; clear hf a; intro a hf
    refine o_v hf hh (y_pf rfl rfl) ?_; clear hf a; intro a hf
    refine o_v hf hh (yv_assign rfl) ?_; clear hf a; intro a hf
    refine o_end ?_
    refine sy_ret ?_
    refine ret_r hf rfl rfl ?_
    exact ⟨by simp [tup, *], hh.ext⟩
  ·have hG2 := hg2; try simp only [gS] at hG2
   refine o_off hf ?_; clear hf a; intro a hf
   refine o_off hf ?_; clear hf a; intro a hf
   refine o_off hf ?_; clear hf a; intro a hf
   refine o_off hf ?_; clear hf a; intro a hf
   refine o_off hf ?_; clear hf a; intro a hf
   refine o_v hf hh (y_pf rfl rfl) ?_; clear hf a; intro a hf
   refine o_v hf hh (yv_move rfl) ?_; clear hf a; intro a hf
   refine o_off hf ?_; clear hf a; intro a hf
   refine o_off hf ?_; clear hf a; intro a hf
   refine o_off hf ?_; clear hf a; intro a hf
   refine o_off hf ?_; clear hf a; intro a hf
   refine o_v hf hh (y_pf rfl rfl) ?_; clear hf a; intro a hf
   refine o_v hf hh (yv_assign rfl) ?_; clear hf a; intro a hf
   refine o_end ?_
   refine sy_ret ?_
   refine ret_r hf rfl rfl ?_
   exact ⟨by simp [tup, *], hh.ext⟩
theorem all_take {l : List Mk} {i : Nat} {x : Mk} (h : (l.take i).all okM = true) (hx : l[i]? = some x) (hk : okM x = true) : (l.take (i + 1)).all okM = true := by
  rw [List.take_add_one, hx, List.all_append, h]; simp [hk]
theorem all_not {l : List Mk} {i : Nat} {x : Mk} (hx : l[i]? = some x) (hk : okM x = false) : l.all okM = false := by
  rw [Bool.eq_false_iff]; intro h
  have := List.all_eq_true.1 h x (List.mem_of_getElem? hx)
  rw [hk] at this; cases this
theorem okM_and (x : Mk) : okM x = ((decide (0 ≤ x.al) && decide (x.al ≤ x.ah) && decide (x.ah ≤ 65536)) && (decide (0 ≤ x.tl) && decide (x.tl ≤ x.th) && decide (x.th ≤ 1000))) := by
  unfold okM; rw [Bool.eq_iff_iff]; simp only [decide_eq_true_eq, Bool.and_eq_true, and_assoc]
theorem c64 (l : List Mk) (sa : Option Addr) (ca : Nat) (u : World) (hA : MkAt u sa l) (hl : l.length ≤ 1000000) : Calls Tryd.prog 64 #[.slice sa l.length ca] u (Ret fun v w' => v = .bool (l.all okM && decide (l.length ≤ 10)) ∧ Ext [] u w') := by
  refine calls_of Tryd.func64 rfl rfl (fun a hf => ?_)
  have hh := Hp.init u []
  refine sy_sq ?_
  refine o_v hf hh (yv_assign rfl) ?_; clear hf a; intro a hf
  refine o_end ?_
  refine sy_seq ?_
  refine sy_sq ?_
  refine o_v hf hh (yv_assign rfl) ?_; clear hf a; intro a hf
  refine o_end ?_
  refine sy_block ?_
  refine sy_loopF (σ := Nat) [2, 3, 4, 5, 6, 7, 8, 9, 10, 11, 12, 13, 14, 15, 16, 17, 18, 19, 20, 21, 22, 23, 24, 25] (fun i => [(3, .int .i64 i)]) (fun i => i ≤ l.length ∧ (l.take i).all okM = true) (fun i => l.length - i) (0) hf hh ?_ ?_ ?_
  · repeat' (first | exact True.intro | refine And.intro rfl ?_)
  · exact ⟨Nat.zero_le _, rfl⟩
  ·rintro i a w ⟨hi, hq⟩ hf hh
   refine sy_seq ?_
   refine sy_sq ?_
   refine o_v hf hh (yv_move rfl) ?_; clear hf a; intro a hf
   refine o_v hf hh (yv_move rfl) ?_; clear hf a; intro a hf
   refine o_v hf hh (yv_len Tryd.se_22 rfl) ?_; clear hf a; intro a hf
   refine o_v hf hh (yv_bin rfl rfl rfl) ?_; clear hf a; intro a hf
   refine o_end ?_
   refine sy_cond hf rfl (fun hg2 => ?_) (fun hg2 => ?_)
   ·have hG2 := hg2; try simp only [gS] at hG2
    refine sy_skip ?_
    refine then_n ?_
    refine sy_seq ?_
    refine sy_block ?_
    refine sy_seq ?_
    obtain ⟨x, hx⟩ := ex_of (l := l) (i := i) (by omega)
    obtain ⟨blk, off, c, Tx, fr, e1, hbx, hcx⟩ := hA i x hx
    subst e1
    obtain ⟨_, hg⟩ := cellsAt_get _ _ _ hcx
    have a0 := hg 0 _ rfl; have a1 := hg 1 _ rfl; have a2 := hg 2 _ rfl; have a3 := hg 3 _ rfl
    have g1 : cellsAt c (off + ((i : Nat) : Int).toNat * 4 + 0) 2 = some [.int .i64 x.al, .int .i64 x.ah] := by
      simp only [Int.toNat_natCast, Nat.add_zero] at *; simp [cellsAt, a0, a1]
    have g2 : cellsAt c (off + ((i : Nat) : Int).toNat * 4 + 2) 2 = some [.int .i64 x.tl, .int .i64 x.th] := by
      simp only [Int.toNat_natCast] at *; simp [cellsAt, a2, a3]
    have hok := okM_and x
    refine sy_ops ?_
    refine o_v hf hh (yv_move rfl) ?_; clear hf a; intro a hf
    refine o_v hf hh (yv_move rfl) ?_; clear hf a; intro a hf
    refine o_v hf hh (y_ix Tryd.se_22 rfl rfl) ?_; clear hf a; intro a hf
    refine o_v hf hh (yv_fieldAddr Tryd.fo_53_0 rfl) ?_; clear hf a; intro a hf
    refine o_v hf hh (y_lds Tryd.ag_24 rfl) ?_; clear hf a; intro a hf
    refine o_call hf Tryd.en_65 rfl rfl rfl (c65 _ _ _ _ _) ?_; clear hf a; intro v a w hR hf
    obtain ⟨rfl, hx⟩ := hR; replace hh := hh.more hx; clear hx
    refine o_v hf hh (yv_not rfl) ?_; clear hf a; intro a hf
    refine o_v hf hh (yv_move rfl) ?_; clear hf a; intro a hf
    refine guard_split hf (t := 17) rfl (fun hg4 => ?_) (fun hg4 => ?_)
    ·have hG4 := hg4; try simp only [gS] at hG4
     refine o_off hf ?_; clear hf a; intro a hf
     refine o_off hf ?_; clear hf a; intro a hf
     refine o_off hf ?_; clear hf a; intro a hf
     refine o_off hf ?_; clear hf a; intro a hf
     refine o_off hf ?_; clear hf a; intro a hf
     refine o_off hf ?_; clear hf a; intro a hf
     refine o_off hf ?_; clear hf a; intro a hf
     refine o_v hf hh (y_pt rfl rfl) ?_; clear hf a; intro a hf
     refine o_end ?_
     refine c_t hf ?_
     refine sy_sq ?_
     refine o_v hf hh (yv_assign rfl) ?_; clear hf a; intro a hf
     refine o_end ?_
     refine sy_ret ?_
     refine blk_r ?_
     refine then_r ?_
     refine then_r ?_
     refine blk_r ?_
     refine then_r ?_
     refine ret_r hf rfl rfl ?_
     exact ⟨congrArg Value.bool (by rw [all_not hx (by rw [hok]; (simp only [*, Bool.and_true, Bool.true_and, Bool.and_false, Bool.false_and, Bool.and_self, Bool.or_true, Bool.or_false]))]; rfl), hh.ext⟩
    ·have hG4 := hg4; try simp only [gS] at hG4
     refine o_v hf hh (yv_move rfl) ?_; clear hf a; intro a hf
     refine o_v hf hh (yv_move rfl) ?_; clear hf a; intro a hf
     refine o_v hf hh (y_ix Tryd.se_22 rfl rfl) ?_; clear hf a; intro a hf
     refine o_v hf hh (yv_fieldAddr Tryd.fo_53_1 rfl) ?_; clear hf a; intro a hf
     refine o_v hf hh (y_lds Tryd.ag_24 rfl) ?_; clear hf a; intro a hf
     refine o_call hf Tryd.en_65 rfl rfl rfl (c65 _ _ _ _ _) ?_; clear hf a; intro v a w hR hf
     obtain ⟨rfl, hx⟩ := hR; replace hh := hh.more hx; clear hx
     refine o_v hf hh (yv_not rfl) ?_; clear hf a; intro a hf
     refine o_v hf hh (y_pf rfl rfl) ?_; clear hf a; intro a hf
     refine o_end ?_
     refine sy_cond hf rfl (fun hg6 => ?_) (fun hg6 => ?_)
     ·have hG6 := hg6; try simp only [gS] at hG6
      refine sy_sq ?_
      refine o_v hf hh (yv_assign rfl) ?_; clear hf a; intro a hf
      refine o_end ?_
      refine sy_ret ?_
      refine blk_r ?_
      refine then_r ?_
      refine then_r ?_
      refine blk_r ?_
      refine then_r ?_
      refine ret_r hf rfl rfl ?_
      exact ⟨congrArg Value.bool (by rw [all_not hx (by rw [hok]; (simp only [*, Bool.and_true, Bool.true_and, Bool.and_false, Bool.false_and, Bool.and_self, Bool.or_true, Bool.or_false]))]; rfl), hh.ext⟩
     ·have hG6 := hg6; try simp only [gS] at hG6
      refine sy_skip ?_
      refine blk_n ?_
      refine then_n ?_
      refine sy_ops ?_
      refine o_v hf hh (yv_move rfl) ?_; clear hf a; intro a hf
      refine o_v hf hh (y_add rfl rfl) ?_; clear hf a; intro a hf
      refine o_v hf hh (yv_assign rfl) ?_; clear hf a; intro a hf
      refine ops_end ?_
      refine then_n ?_
      refine ⟨i + 1, ⟨⟨by omega, all_take hq hx (by rw [hok]; (simp only [*, Bool.and_true, Bool.true_and, Bool.and_false, Bool.false_and, Bool.and_self, Bool.or_true, Bool.or_false]))⟩, (hf.head (by repeat' (first | exact True.intro | refine And.intro rfl ?_)) (Keep.cons rfl (Keep.cons rfl (Keep.cons rfl (Keep.cons rfl (Keep.cons rfl (Keep.cons rfl (Keep.cons rfl (Keep.cons rfl (Keep.cons rfl (Keep.cons rfl (Keep.cons rfl (Keep.cons rfl (Keep.cons rfl (Keep.cons rfl (Keep.cons rfl (Keep.cons rfl (Keep.cons rfl (Keep.cons rfl (Keep.cons rfl (Keep.cons rfl (Keep.cons rfl (Keep.cons rfl (Keep.cons rfl (Keep.app rfl (Keep.rm rfl Keep.base)))))))))))))))))))))))))), hh⟩, by omega⟩
   ·have hG2 := hg2; try simp only [gS] at hG2
    refine sy_exit ?_
    refine then_e ?_
    refine then_e ?_
    refine blk_e ?_
    refine then_n ?_
    refine sy_sq ?_
    refine o_v hf hh (yv_move rfl) ?_; clear hf a; intro a hf
    refine o_v hf hh (yv_len Tryd.se_22 rfl) ?_; clear hf a; intro a hf
    refine o_v hf hh (yv_bin rfl rfl rfl) ?_; clear hf a; intro a hf
    refine o_v hf hh (yv_assign rfl) ?_; clear hf a; intro a hf
    refine o_end ?_
    refine sy_ret ?_
    refine ret_r hf rfl rfl ?_
    have hie : i = l.length := by omega
    rw [hie, List.take_length] at hq
    exact ⟨congrArg Value.bool (by rw [hq, Bool.true_and, decide_eq_decide]; omega), hh.ext⟩
theorem okRows_eq (d : RowsD) : okRows d = ((d.l.all okM && decide (d.l.length ≤ 10)) && (d.r.all okM && decide (d.r.length ≤ 10)) && (decide (-65536 ≤ d.lo) && decide (d.lo ≤ d.hi) && decide (d.hi ≤ 65536)) && (decide (0 ≤ d.hid) && decide (d.hid ≤ 20))) := by
  unfold okRows
  rw [Bool.eq_iff_iff]
  simp only [Bool.and_eq_true, decide_eq_true_eq, List.all_append]
  constructor
  · rintro ⟨⟨⟨⟨h1, h2⟩, h3, h4⟩, h5, h6, h7⟩, h8, h9⟩; exact ⟨⟨⟨⟨h3, h1⟩, h4, h2⟩, ⟨h5, h6⟩, h7⟩, h8, h9⟩
  · rintro ⟨⟨⟨⟨h3, h1⟩, h4, h2⟩, ⟨h5, h6⟩, h7⟩, h8, h9⟩; exact ⟨⟨⟨⟨h1, h2⟩, h3, h4⟩, h5, h6, h7⟩, h8, h9⟩
theorem c26 (d : RowsD) (sa sb : Option Addr) (ca cb : Nat) (u : World) (hA : MkAt u sa d.l) (hB : MkAt u sb d.r) (hla : d.l.length ≤ 1000000) (hlb : d.r.length ≤ 1000000) : Calls Tryd.prog 26 #[rowsV d sa sb ca cb] u (Ret fun v w' => v = .bool (okRows d) ∧ Ext [] u w') := by
  refine calls_of Tryd.func26 rfl rfl (fun a hf => ?_)
  have hh := Hp.init u []
  refine sy_sq ?_
  refine o_box hf hh ?_; clear hf hh a; intro B1 a w hf hh
  refine o_v hf hh (yv_assign rfl) ?_; clear hf a; intro a hf
  refine o_end ?_
  refine sy_sq ?_
  refine o_v hf hh (yv_fieldAddr Tryd.fo_26_0 rfl) ?_; clear hf a; intro a hf
  refine o_v hf hh (y_ld Tryd.sc_22 rfl) ?_; clear hf a; intro a hf
  refine o_call hf Tryd.en_64 rfl rfl rfl (c64 d.l sa ca _ (hA.ext hh.ext) hla) ?_; clear hf a; intro v a w hR hf
  obtain ⟨rfl, hx⟩ := hR; replace hh := hh.more hx; clear hx
  refine o_v hf hh (yv_move rfl) ?_; clear hf a; intro a hf
  refine guard_split hf (t := 6) rfl (fun hg2 => ?_) (fun hg2 => ?_)
  ·have hG2 := hg2; try simp only [gS] at hG2
   refine o_v hf hh (yv_fieldAddr Tryd.fo_26_1 rfl) ?_; clear hf a; intro a hf
   refine o_v hf hh (y_ld Tryd.sc_22 rfl) ?_; clear hf a; intro a hf
   refine o_call hf Tryd.en_64 rfl rfl rfl (c64 d.r sb cb _ (hB.ext hh.ext) hlb) ?_; clear hf a; intro v a w hR hf
   obtain ⟨rfl, hx⟩ := hR; replace hh := hh.more hx; clear hx
   refine o_v hf hh (y_pt rfl rfl) ?_; clear hf a; intro a hf
   refine o_v hf hh (yv_move rfl) ?_; clear hf a; intro a hf
   refine guard_split hf (t := 11) rfl (fun hg4 => ?_) (fun hg4 => ?_)
   ·have hG4 := hg4; try simp only [gS] at hG4
    refine o_v hf hh (yv_fieldAddr Tryd.fo_26_2 rfl) ?_; clear hf a; intro a hf
    refine o_v hf hh (y_lds Tryd.ag_24 rfl) ?_; clear hf a; intro a hf
    refine o_call hf Tryd.en_65 rfl rfl rfl (c65 _ _ _ _ _) ?_; clear hf a; intro v a w hR hf
    obtain ⟨rfl, hx⟩ := hR; replace hh := hh.more hx; clear hx
    refine o_v hf hh (y_pt rfl rfl) ?_; clear hf a; intro a hf
    refine o_v hf hh (yv_move rfl) ?_; clear hf a; intro a hf
    refine guard_split hf (t := 16) rfl (fun hg6 => ?_) (fun hg6 => ?_)
    ·have hG6 := hg6; try simp only [gS] at hG6
     refine o_v hf hh (yv_fieldAddr Tryd.fo_26_3 rfl) ?_; clear hf a; intro a hf
     refine o_v hf hh (y_ld Tryd.sc_3 rfl) ?_; clear hf a; intro a hf
     refine o_call hf Tryd.en_58 rfl rfl rfl (c58 _ _ _ _) ?_; clear hf a; intro v a w hR hf
     obtain ⟨rfl, hx⟩ := hR; replace hh := hh.more hx; clear hx
     refine o_v hf hh (y_pt rfl rfl) ?_; clear hf a; intro a hf
     refine o_v hf hh (yv_assign rfl) ?_; clear hf a; intro a hf
     refine o_end ?_
     refine sy_ret ?_
     refine ret_r hf rfl rfl ?_
     exact ⟨congrArg Value.bool (by rw [okRows_eq]; (simp only [*, Bool.and_true, Bool.true_and, Bool.and_false, Bool.false_and, Bool.and_self, Bool.or_true, Bool.or_false])), hh.ext⟩
    ·have hG6 := hg6; try simp only [gS] at hG6
     refine o_off hf ?_; clear hf a; intro a hf
     refine o_off hf ?_; clear hf a; intro a hf
     refine o_off hf ?_; clear hf a; intro a hf
     refine o_v hf hh (y_pf rfl rfl) ?_; clear hf a; intro a hf
     refine o_v hf hh (yv_assign rfl) ?_; clear hf a; intro a hf
     refine o_end ?_
     refine sy_ret ?_
     refine ret_r hf rfl rfl ?_
     exact ⟨congrArg Value.bool (by rw [okRows_eq]; (simp only [*, Bool.and_true, Bool.true_and, Bool.and_false, Bool.false_and, Bool.and_self, Bool.or_true, Bool.or_false])), hh.ext⟩
   ·have hG4 := hg4; try simp only [gS] at hG4
    refine o_off hf ?_; clear hf a; intro a hf
    refine o_off hf ?_; clear hf a; intro a hf
    refine o_off hf ?_; clear hf a; intro a hf
    refine o_v hf hh (y_pf rfl rfl) ?_; clear hf a; intro a hf
    refine o_v hf hh (yv_move rfl) ?_; clear hf a; intro a hf
    refine o_off hf ?_; clear hf a; intro a hf
    refine o_off hf ?_; clear hf a; intro a hf
    refine o_off hf ?_; clear hf a; intro a hf
    refine o_v hf hh (y_pf rfl rfl) ?_; clear hf a; intro a hf
    refine o_v hf hh (yv_assign rfl) ?_; clear hf a; intro a hf
    refine o_end ?_
    refine sy_ret ?_
    refine ret_r hf rfl rfl ?_
    exact ⟨congrArg Value.bool (by rw [okRows_eq]; (simp only [*, Bool.and_true, Bool.true_and, Bool.and_false, Bool.false_and, Bool.and_self, Bool.or_true, Bool.or_false])), hh.ext⟩
  ·have hG2 := hg2; try simp only [gS] at hG2
   refine o_off hf ?_; clear hf a; intro a hf
   refine o_off hf ?_; clear hf a; intro a hf
   refine o_off hf ?_; clear hf a; intro a hf
   refine o_v hf hh (y_pf rfl rfl) ?_; clear hf a; intro a hf
   refine o_v hf hh (yv_move rfl) ?_; clear hf a; intro a hf
   refine o_off hf ?_; clear hf a; intro a hf
   refine o_off hf ?_; clear hf a; intro a hf
   refine o_off hf ?_; clear hf a; intro a hf
   refine o_v hf hh (y_pf rfl rfl) ?_; clear hf a; intro a hf
   refine o_v hf hh (yv_move rfl) ?_; clear hf a; intro a hf
   refine o_off hf ?_; clear hf a; intro a hf
   refine o_off hf ?_; clear hf a; intro a hf
   refine o_off hf ?_; clear hf a; intro a hf
   refine o_v hf hh (y_pf rfl rfl) ?_; clear hf a; intro a hf
   refine o_v hf hh (yv_assign rfl) ?_; clear hf a; intro a hf
   refine o_end ?_
   refine sy_ret ?_
   refine ret_r hf rfl rfl ?_
   exact ⟨congrArg Value.bool (by rw [okRows_eq]; (simp only [*, Bool.and_true, Bool.true_and, Bool.and_false, Bool.false_and, Bool.and_self, Bool.or_true, Bool.or_false])), hh.ext⟩
theorem c13 (d : RowsD) (sa sb : Option Addr) (ca cb : Nat) (u : World) (hA : MkAt u sa d.l) (hB : MkAt u sb d.r) (m : Int) : Calls Tryd.prog 13 #[rowsV d sa sb ca cb, .int .i64 m] u (Ret fun v w' => v = .bool (decide (24 < d.l.length ∨ 24 < d.r.length) || (decide (m < d.l.length ∨ m < d.r.length) && okRows d)) ∧ Ext [] u w') := by
  refine calls_of Tryd.func13 rfl rfl (fun a hf => ?_)
  have hh := Hp.init u []
  refine sy_sq ?_
  refine o_box hf hh ?_; clear hf hh a; intro B2 a w hf hh
  refine o_v hf hh (yv_assign rfl) ?_; clear hf a; intro a hf
  refine o_end ?_
  refine sy_sq ?_
  refine o_v hf hh (yv_fieldAddr Tryd.fo_26_0 rfl) ?_; clear hf a; intro a hf
  refine o_v hf hh (y_ld Tryd.sc_22 rfl) ?_; clear hf a; intro a hf
  refine o_v hf hh (yv_len Tryd.se_22 rfl) ?_; clear hf a; intro a hf
  refine o_v hf hh (yv_bin rfl rfl rfl) ?_; clear hf a; intro a hf
  refine o_v hf hh (yv_move rfl) ?_; clear hf a; intro a hf
  refine guard_split hf (t := 9) rfl (fun hg2 => ?_) (fun hg2 => ?_)
  ·have hG2 := hg2; try simp only [gS] at hG2
   refine o_off hf ?_; clear hf a; intro a hf
   refine o_off hf ?_; clear hf a; intro a hf
   refine o_off hf ?_; clear hf a; intro a hf
   refine o_off hf ?_; clear hf a; intro a hf
   refine o_v hf hh (y_pt rfl rfl) ?_; clear hf a; intro a hf
   refine o_v hf hh (yv_move rfl) ?_; clear hf a; intro a hf
   refine o_off hf ?_; clear hf a; intro a hf
   refine o_off hf ?_; clear hf a; intro a hf
   refine o_off hf ?_; clear hf a; intro a hf
   refine o_off hf ?_; clear hf a; intro a hf
   refine o_off hf ?_; clear hf a; intro a hf
   refine o_off hf ?_; clear hf a; intro a hf
   refine o_off hf ?_; clear hf a; intro a hf
   refine o_off hf ?_; clear hf a; intro a hf
   refine o_off hf ?_; clear hf a; intro a hf
   refine o_off hf ?_; clear hf a; intro a hf
   refine o_off hf ?_; clear hf a; intro a hf
   refine o_off hf ?_; clear hf a; intro a hf
   refine o_off hf ?_; clear hf a; intro a hf
   refine o_off hf ?_; clear hf a; intro a hf
   refine o_off hf ?_; clear hf a; intro a hf
   refine o_off hf ?_; clear hf a; intro a hf
   refine o_v hf hh (y_pt rfl rfl) ?_; clear hf a; intro a hf
   refine o_v hf hh (yv_assign rfl) ?_; clear hf a; intro a hf
   refine o_end ?_
   refine sy_ret ?_
   refine ret_r hf rfl rfl ?_
   have hX := hh.ext
   refine ⟨congrArg Value.bool ?_, hX⟩
   clear hX hh hf
   first
     | (rw [decide_eq_true (p := 24 < d.l.length ∨ 24 < d.r.length) (by omega)]; simp_all; done)
     | (rw [decide_eq_false (p := 24 < d.l.length ∨ 24 < d.r.length) (by omega), decide_eq_true (p := m < d.l.length ∨ m < d.r.length) (by omega)]; simp_all; done)
     | (rw [decide_eq_false (p := 24 < d.l.length ∨ 24 < d.r.length) (by omega), decide_eq_false (p := m < d.l.length ∨ m < d.r.length) (by omega)]; simp_all; done)
  ·have hG2 := hg2; try simp only [gS] at hG2
   refine o_v hf hh (yv_fieldAddr Tryd.fo_26_1 rfl) ?_; clear hf a; intro a hf
   refine o_v hf hh (y_ld Tryd.sc_22 rfl) ?_; clear hf a; intro a hf
   refine o_v hf hh (yv_len Tryd.se_22 rfl) ?_; clear hf a; intro a hf
   refine o_v hf hh (yv_bin rfl rfl rfl) ?_; clear hf a; intro a hf
   refine o_v hf hh (y_pf rfl rfl) ?_; clear hf a; intro a hf
   refine o_v hf hh (yv_move rfl) ?_; clear hf a; intro a hf
   refine guard_split hf (t := 15) rfl (fun hg4 => ?_) (fun hg4 => ?_)
   ·have hG4 := hg4; try simp only [gS] at hG4
    refine o_off hf ?_; clear hf a; intro a hf
    refine o_off hf ?_; clear hf a; intro a hf
    refine o_off hf ?_; clear hf a; intro a hf
    refine o_off hf ?_; clear hf a; intro a hf
    refine o_off hf ?_; clear hf a; intro a hf
    refine o_off hf ?_; clear hf a; intro a hf
    refine o_off hf ?_; clear hf a; intro a hf
    refine o_off hf ?_; clear hf a; intro a hf
    refine o_off hf ?_; clear hf a; intro a hf
    refine o_off hf ?_; clear hf a; intro a hf
    refine o_off hf ?_; clear hf a; intro a hf
    refine o_off hf ?_; clear hf a; intro a hf
    refine o_off hf ?_; clear hf a; intro a hf
    refine o_off hf ?_; clear hf a; intro a hf
    refine o_off hf ?_; clear hf a; intro a hf
    refine o_off hf ?_; clear hf a; intro a hf
    refine o_v hf hh (y_pt rfl rfl) ?_; clear hf a; intro a hf
    refine o_v hf hh (yv_assign rfl) ?_; clear hf a; intro a hf
    refine o_end ?_
    refine sy_ret ?_
    refine ret_r hf rfl rfl ?_
    have hX := hh.ext
    refine ⟨congrArg Value.bool ?_, hX⟩
    clear hX hh hf
    first
      | (rw [decide_eq_true (p := 24 < d.l.length ∨ 24 < d.r.length) (by omega)]; simp_all; done)
      | (rw [decide_eq_false (p := 24 < d.l.length ∨ 24 < d.r.length) (by omega), decide_eq_true (p := m < d.l.length ∨ m < d.r.length) (by omega)]; simp_all; done)
      | (rw [decide_eq_false (p := 24 < d.l.length ∨ 24 < d.r.length) (by omega), decide_eq_false (p := m < d.l.length ∨ m < d.r.length) (by omega)]; simp_all; done)
   ·have hG4 := hg4; try simp only [gS] at hG4
    refine o_v hf hh (yv_fieldAddr Tryd.fo_26_0 rfl) ?_; clear hf a; intro a hf
    refine o_v hf hh (y_ld Tryd.sc_22 rfl) ?_; clear hf a; intro a hf
    refine o_v hf hh (yv_len Tryd.se_22 rfl) ?_; clear hf a; intro a hf
    refine o_v hf hh (yv_move rfl) ?_; clear hf a; intro a hf
    refine o_v hf hh (yv_bin rfl rfl rfl) ?_; clear hf a; intro a hf
    refine o_v hf hh (yv_move rfl) ?_; clear hf a; intro a hf
    refine guard_split hf (t := 21) rfl (fun hg6 => ?_) (fun hg6 => ?_)
    ·have hG6 := hg6; try simp only [gS] at hG6
     refine o_off hf ?_; clear hf a; intro a hf
     refine o_off hf ?_; clear hf a; intro a hf
     refine o_off hf ?_; clear hf a; intro a hf
     refine o_off hf ?_; clear hf a; intro a hf
     refine o_off hf ?_; clear hf a; intro a hf
     refine o_v hf hh (y_pt rfl rfl) ?_; clear hf a; intro a hf
     refine o_v hf hh (yv_move rfl) ?_; clear hf a; intro a hf
     refine o_v hf hh (y_lds Tryd.ag_26 rfl) ?_; clear hf a; intro a hf
     refine o_call hf Tryd.en_26 rfl rfl rfl (c26 d sa sb ca cb _ (hA.ext hh.ext) (hB.ext hh.ext) (by omega) (by omega)) ?_; clear hf a; intro v a w hR hf
     obtain ⟨rfl, hx⟩ := hR; replace hh := hh.more hx; clear hx
     refine o_v hf hh (y_pt rfl rfl) ?_; clear hf a; intro a hf
     refine o_v hf hh (y_pf rfl rfl) ?_; clear hf a; intro a hf
     refine o_v hf hh (yv_assign rfl) ?_; clear hf a; intro a hf
     refine o_end ?_
     refine sy_ret ?_
     refine ret_r hf rfl rfl ?_
     have hX := hh.ext
     refine ⟨congrArg Value.bool ?_, hX⟩
     clear hX hh hf
     first
       | (rw [decide_eq_true (p := 24 < d.l.length ∨ 24 < d.r.length) (by omega)]; simp_all; done)
       | (rw [decide_eq_false (p := 24 < d.l.length ∨ 24 < d.r.length) (by omega), decide_eq_true (p := m < d.l.length ∨ m < d.r.length) (by omega)]; simp_all; done)
       | (rw [decide_eq_false (p := 24 < d.l.length ∨ 24 < d.r.length) (by omega), decide_eq_false (p := m < d.l.length ∨ m < d.r.length) (by omega)]; simp_all; done)
    ·have hG6 := hg6; try simp only [gS] at hG6
     refine o_v hf hh (yv_fieldAddr Tryd.fo_26_1 rfl) ?_; clear hf a; intro a hf
     refine o_v hf hh (y_ld Tryd.sc_22 rfl) ?_; clear hf a; intro a hf
     refine o_v hf hh (yv_len Tryd.se_22 rfl) ?_; clear hf a; intro a hf
     refine o_v hf hh (yv_move rfl) ?_; clear hf a; intro a hf
     refine o_v hf hh (yv_bin rfl rfl rfl) ?_; clear hf a; intro a hf
     refine o_v hf hh (y_pf rfl rfl) ?_; clear hf a; intro a hf
     refine o_v hf hh (yv_move rfl) ?_; clear hf a; intro a hf
     refine guard_split hf (t := 28) rfl (fun hg9 => ?_) (fun hg9 => ?_)
     ·have hG9 := hg9; try simp only [gS] at hG9
      refine o_v hf hh (y_lds Tryd.ag_26 rfl) ?_; clear hf a; intro a hf
      refine o_call hf Tryd.en_26 rfl rfl rfl (c26 d sa sb ca cb _ (hA.ext hh.ext) (hB.ext hh.ext) (by omega) (by omega)) ?_; clear hf a; intro v a w hR hf
      obtain ⟨rfl, hx⟩ := hR; replace hh := hh.more hx; clear hx
      refine o_v hf hh (y_pt rfl rfl) ?_; clear hf a; intro a hf
      refine o_v hf hh (y_pf rfl rfl) ?_; clear hf a; intro a hf
      refine o_v hf hh (yv_assign rfl) ?_; clear hf a; intro a hf
      refine o_end ?_
      refine sy_ret ?_
      refine ret_r hf rfl rfl ?_
      have hX := hh.ext
      refine ⟨congrArg Value.bool ?_, hX⟩
      clear hX hh hf
      first
        | (rw [decide_eq_true (p := 24 < d.l.length ∨ 24 < d.r.length) (by omega)]; simp_all; done)
        | (rw [decide_eq_false (p := 24 < d.l.length ∨ 24 < d.r.length) (by omega), decide_eq_true (p := m < d.l.length ∨ m < d.r.length) (by omega)]; simp_all; done)
        | (rw [decide_eq_false (p := 24 < d.l.length ∨ 24 < d.r.length) (by omega), decide_eq_false (p := m < d.l.length ∨ m < d.r.length) (by omega)]; simp_all; done)
     ·have hG9 := hg9; try simp only [gS] at hG9
      refine o_off hf ?_; clear hf a; intro a hf
      refine o_off hf ?_; clear hf a; intro a hf
      refine o_v hf hh (y_pf rfl rfl) ?_; clear hf a; intro a hf
      refine o_v hf hh (y_pf rfl rfl) ?_; clear hf a; intro a hf
      refine o_v hf hh (yv_assign rfl) ?_; clear hf a; intro a hf
      refine o_end ?_
      refine sy_ret ?_
      refine ret_r hf rfl rfl ?_
      have hX := hh.ext
      refine ⟨congrArg Value.bool ?_, hX⟩
      clear hX hh hf
      first
        | (rw [decide_eq_true (p := 24 < d.l.length ∨ 24 < d.r.length) (by omega)]; simp_all; done)
        | (rw [decide_eq_false (p := 24 < d.l.length ∨ 24 < d.r.length) (by omega), decide_eq_true (p := m < d.l.length ∨ m < d.r.length) (by omega)]; simp_all; done)
        | (rw [decide_eq_false (p := 24 < d.l.length ∨ 24 < d.r.length) (by omega), decide_eq_false (p := m < d.l.length ∨ m < d.r.length) (by omega)]; simp_all; done)
end Go.Proofs.YtemmhdgaagaglaaDoor
namespace Go.Proofs.YtemmhdgaagaglaaDoor
open Go Go.Sy Go.MatM
theorem valsAt_lit {w : World} {B : Nat} {c : Array Value} {T : TypeId} {fr : Nat × Nat} {vs : List Value} (h : w.heap[B]? = some (.cells c T fr)) (e : c.toList = vs) : ValsAt w (some ⟨B, 0, none⟩) vs :=
  .inr ⟨B, 0, c, T, fr, rfl, h, fun j v hj => by rw [Nat.zero_add, ← Array.getElem?_toList, e]; exact hj⟩
theorem c14 (u : World) (hT : GTab u) : Calls Tryd.prog 14 #[] u (Ret fun v w' => v = .bool true ∧ Ext [] u w') := by
  refine calls_of Tryd.func14 rfl rfl (fun a hf => ?_)
  have hh := Hp.init u []
  refine sy_sq ?_
  refine o_v hf hh (yv_assign rfl) ?_; clear hf a; intro a hf
  refine o_end ?_
  refine sy_sq ?_
  refine o_call hf Tryd.en_37 rfl rfl rfl (c37 _) ?_; clear hf a; intro v a w hR hf
  obtain ⟨sa1, sb1, rfl, hA1, hB1, hx⟩ := hR; replace hh := hh.more hx; clear hx
  refine o_call hf Tryd.en_15 rfl rfl rfl (c15 sampleD sa1 sb1 3 4 _ hA1 hB1 2 0 (by omega) (by omega)) ?_; clear hf a; intro v a w hR hf
  rw [smp_fits, smp_fitsE] at hR
  obtain ⟨rfl, hx⟩ := hR; replace hh := hh.more hx; clear hx
  refine o_v hf hh (yv_move rfl) ?_; clear hf a; intro a hf
  refine o_v hf hh (yv_extract rfl rfl) ?_; clear hf a; intro a hf
  refine o_v hf hh (yv_extract rfl rfl) ?_; clear hf a; intro a hf
  refine o_v hf hh (yv_assign rfl) ?_; clear hf a; intro a hf
  refine o_v hf hh (yv_assign rfl) ?_; clear hf a; intro a hf
  refine o_end ?_
  refine sy_sq ?_
  refine o_call hf Tryd.en_37 rfl rfl rfl (c37 _) ?_; clear hf a; intro v a w hR hf
  obtain ⟨sa2, sb2, rfl, hA2, hB2, hx⟩ := hR; replace hh := hh.more hx; clear hx
  refine o_call hf Tryd.en_17 rfl rfl rfl (c17 sampleD sa2 sb2 3 4 _ hA2 hB2) ?_; clear hf a; intro v a w hR hf
  rw [smp_count, smp_countE] at hR
  obtain ⟨rfl, hx⟩ := hR; replace hh := hh.more hx; clear hx
  refine o_v hf hh (yv_move rfl) ?_; clear hf a; intro a hf
  refine o_v hf hh (yv_extract rfl rfl) ?_; clear hf a; intro a hf
  refine o_v hf hh (yv_extract rfl rfl) ?_; clear hf a; intro a hf
  refine o_v hf hh (yv_assign rfl) ?_; clear hf a; intro a hf
  refine o_v hf hh (yv_assign rfl) ?_; clear hf a; intro a hf
  refine o_end ?_
  refine sy_sq ?_
  refine o_call hf Tryd.en_37 rfl rfl rfl (c37 _) ?_; clear hf a; intro v a w hR hf
  obtain ⟨sa3, sb3, rfl, hA3, hB3, hx⟩ := hR; replace hh := hh.more hx; clear hx
  refine o_call hf Tryd.en_19 rfl rfl rfl (c19 sampleD sa3 sb3 3 4 _ hA3 hB3) ?_; clear hf a; intro v a w hR hf
  rw [smp_few, smp_hid, smp_op] at hR
  obtain ⟨sv3, X3, rfl, hown3, hx⟩ := hR; replace hh := hh.join hx; clear hx
  obtain ⟨oa3, cap3, rfl⟩ := OwnSl_val hown3
  refine o_v hf hh (yv_move rfl) ?_; clear hf a; intro a hf
  refine o_v hf hh (yv_extract rfl rfl) ?_; clear hf a; intro a hf
  refine o_v hf hh (yv_extract rfl rfl) ?_; clear hf a; intro a hf
  refine o_v hf hh (yv_extract rfl rfl) ?_; clear hf a; intro a hf
  refine o_v hf hh (yv_assign rfl) ?_; clear hf a; intro a hf
  refine o_v hf hh (yv_assign rfl) ?_; clear hf a; intro a hf
  refine o_v hf hh (yv_assign rfl) ?_; clear hf a; intro a hf
  refine o_end ?_
  refine sy_sq ?_
  refine o_call hf Tryd.en_37 rfl rfl rfl (c37 _) ?_; clear hf a; intro v a w hR hf
  obtain ⟨sa4, sb4, rfl, hA4, hB4, hx⟩ := hR; replace hh := hh.more hx; clear hx
  refine o_call hf Tryd.en_30 rfl rfl rfl (c30 sampleD sa4 sb4 3 4 _ hA4 hB4) ?_; clear hf a; intro v a w hR hf
  rw [if_pos smp_op, smp_op, smp_can] at hR
  obtain ⟨sv4, X4, rfl, hown4, hx⟩ := hR; replace hh := hh.join hx; clear hx
  obtain ⟨oa4, cap4, rfl⟩ := OwnSl_val hown4
  refine o_v hf hh (yv_move rfl) ?_; clear hf a; intro a hf
  refine o_v hf hh (yv_extract rfl rfl) ?_; clear hf a; intro a hf
  refine o_v hf hh (yv_extract rfl rfl) ?_; clear hf a; intro a hf
  refine o_v hf hh (yv_assign rfl) ?_; clear hf a; intro a hf
  refine o_v hf hh (yv_assign rfl) ?_; clear hf a; intro a hf
  refine o_end ?_
  refine sy_sq ?_
  refine o_call hf Tryd.en_37 rfl rfl rfl (c37 _) ?_; clear hf a; intro v a w hR hf
  obtain ⟨sa5, sb5, rfl, hA5, hB5, hx⟩ := hR; replace hh := hh.more hx; clear hx
  refine o_call hf Tryd.en_32 rfl rfl rfl (c32 sampleD sa5 sb5 3 4 _ hA5 hB5 (hT.ext hh.ext (by simp))) ?_; clear hf a; intro v a w hR hf
  rw [if_pos smp_op, smp_op, smp_sure] at hR
  obtain ⟨sv5, X5, rfl, hown5, hx⟩ := hR; replace hh := hh.join hx; clear hx
  obtain ⟨oa5, cap5, rfl⟩ := OwnSl_val hown5
  refine o_v hf hh (yv_move rfl) ?_; clear hf a; intro a hf
  refine o_v hf hh (yv_extract rfl rfl) ?_; clear hf a; intro a hf
  refine o_v hf hh (yv_extract rfl rfl) ?_; clear hf a; intro a hf
  refine o_v hf hh (yv_assign rfl) ?_; clear hf a; intro a hf
  refine o_v hf hh (yv_assign rfl) ?_; clear hf a; intro a hf
  refine o_end ?_
  refine sy_sq ?_
  refine o_call hf Tryd.en_37 rfl rfl rfl (c37 _) ?_; clear hf a; intro v a w hR hf
  obtain ⟨sa6, sb6, rfl, hA6, hB6, hx⟩ := hR; replace hh := hh.more hx; clear hx
  refine o_call hf Tryd.en_22 rfl rfl rfl (c22 sampleD sa6 sb6 3 4 _ hA6 hB6 (by decide) 2 (by omega)) ?_; clear hf a; intro v a w hR hf
  rw [smp_sh, smp_shE] at hR
  obtain ⟨rfl, hx⟩ := hR; replace hh := hh.more hx; clear hx
  refine o_v hf hh (yv_move rfl) ?_; clear hf a; intro a hf
  refine o_v hf hh (yv_extract rfl rfl) ?_; clear hf a; intro a hf
  refine o_v hf hh (yv_extract rfl rfl) ?_; clear hf a; intro a hf
  refine o_alloc hf hh Tryd.ze_24 ?_; clear hf hh a; intro B12 a w hf hh
  refine o_store hf hh Tryd.sz_24 fun w hh => ?_
  refine o_v hf hh (yv_assign rfl) ?_; clear hf a; intro a hf
  refine o_end ?_
  refine sy_sq ?_
  refine o_call hf Tryd.en_37 rfl rfl rfl (c37 _) ?_; clear hf a; intro v a w hR hf
  obtain ⟨sa7, sb7, rfl, hA7, hB7, hx⟩ := hR; replace hh := hh.more hx; clear hx
  refine o_call hf Tryd.en_24 rfl rfl rfl (c24 sampleD sa7 sb7 3 4 _ hA7 hB7) ?_; clear hf a; intro v a w hR hf
  rw [smp_ask, smp_askE] at hR
  obtain ⟨rfl, hx⟩ := hR; replace hh := hh.more hx; clear hx
  refine o_v hf hh (yv_move rfl) ?_; clear hf a; intro a hf
  refine o_v hf hh (yv_extract rfl rfl) ?_; clear hf a; intro a hf
  refine o_v hf hh (yv_extract rfl rfl) ?_; clear hf a; intro a hf
  refine o_v hf hh (yv_extract rfl rfl) ?_; clear hf a; intro a hf
  refine o_v hf hh (yv_assign rfl) ?_; clear hf a; intro a hf
  refine o_v hf hh (yv_assign rfl) ?_; clear hf a; intro a hf
  refine o_v hf hh (yv_assign rfl) ?_; clear hf a; intro a hf
  refine o_end ?_
  refine sy_seq ?_
  refine sy_sq ?_
  refine o_v hf hh (yv_move rfl) ?_; clear hf a; intro a hf
  refine o_v hf hh (yv_move rfl) ?_; clear hf a; intro a hf
  refine o_v hf hh (yv_move rfl) ?_; clear hf a; intro a hf
  refine o_v hf hh (yv_bin rfl rfl rfl) ?_; clear hf a; intro a hf
  refine o_v hf hh (y_pf rfl rfl) ?_; clear hf a; intro a hf
  refine o_v hf hh (yv_move rfl) ?_; clear hf a; intro a hf
  refine o_v hf hh (yv_move rfl) ?_; clear hf a; intro a hf
  refine o_v hf hh (yv_bin rfl rfl rfl) ?_; clear hf a; intro a hf
  refine o_v hf hh (y_pf rfl rfl) ?_; clear hf a; intro a hf
  refine o_v hf hh (yv_move rfl) ?_; clear hf a; intro a hf
  refine o_v hf hh (yv_move rfl) ?_; clear hf a; intro a hf
  refine o_v hf hh (yv_bin rfl rfl rfl) ?_; clear hf a; intro a hf
  refine o_v hf hh (y_pf rfl rfl) ?_; clear hf a; intro a hf
  refine o_v hf hh (yv_move rfl) ?_; clear hf a; intro a hf
  refine o_v hf hh (yv_move rfl) ?_; clear hf a; intro a hf
  refine o_v hf hh (yv_buildA Tryd.ba_45 rfl rfl) ?_; clear hf a; intro a hf
  refine o_v hf hh (yv_buildA Tryd.ba_45 rfl rfl) ?_; clear hf a; intro a hf
  refine o_v hf hh (yv_buildA Tryd.ba_45 rfl rfl) ?_; clear hf a; intro a hf
  refine ops_buildSl hf hh Tryd.bl_34_3 rfl rfl (gon rfl rfl rfl (by first | assumption | rfl | (simp; done) | (simp; omega))) rfl ?_; clear hf hh; clear a; intro B72 a w hf hh
  refine o_call hf Tryd.en_21 rfl rfl rfl (c21 [(0, 0), (1, 1), (2, 2)] [(0, 0), (1, 1), (2, 2)] oa3 (some ⟨B72, 0, none⟩) cap3 3 _ (valsAt_own hown3 fun x hx => hh.get x (by simp [hx])) (valsAt_lit (hh.at (i := 0) rfl) rfl) (by decide)) ?_; clear hf a; intro v a w hR hf
  obtain ⟨rfl, hx⟩ := hR; replace hh := hh.more hx; clear hx
  refine o_v hf hh (yv_not rfl) ?_; clear hf a; intro a hf
  refine o_v hf hh (y_pf rfl rfl) ?_; clear hf a; intro a hf
  refine o_v hf hh (yv_move rfl) ?_; clear hf a; intro a hf
  refine o_v hf hh (yv_move rfl) ?_; clear hf a; intro a hf
  refine o_v hf hh (yv_bin rfl rfl rfl) ?_; clear hf a; intro a hf
  refine o_v hf hh (y_pf rfl rfl) ?_; clear hf a; intro a hf
  refine o_v hf hh (yv_move rfl) ?_; clear hf a; intro a hf
  refine o_v hf hh (yv_move rfl) ?_; clear hf a; intro a hf
  refine o_v hf hh (yv_bin rfl rfl rfl) ?_; clear hf a; intro a hf
  refine o_v hf hh (y_pf rfl rfl) ?_; clear hf a; intro a hf
  refine o_end ?_
  refine c_f hf ?_
  refine sy_skip ?_
  refine then_n ?_
  refine sy_seq ?_
  refine sy_tree1 (.p 0 (.e1 1 (.e1 2 (.p 3 (.p 4 (.p 5 (.p 6 (.p 7 (.p 8 (.e1 9 (.e1 10 (.p 11 (.p 12 (.p 13 (.p 14 (.p 15 (.p 16 (.q 0 17 (.e1 18 (.p 19 (.p 20 (.p 21 (.p 22 (.p 23 (.p 24 (.p 25 (.p 26 (.p 27 (.p 28 (.p 29 (.p 30 (.p 31 (.p 32 (.p 33 (.p 34 (.p 35 (.p 36 (.p 37 (.fin))))))))))))))))))))))))))))))))))))))) [] Tryd.follows (by kernel_rfl) hh (fun w hh => ?_)
  refine mc_p rfl   hf (yv_move rfl) (.inl rfl) rfl rfl ?_; clear hf a; intro a hf
  refine mc_e rfl fun Q1 => ?_
  refine ops_buildSl hf hh Tryd.bl_55_3 rfl rfl (.inl rfl) rfl ?_; clear hf hh; clear a; intro B85 a w hf hh
  refine ops_end ?_
  refine then_n ⟨⟨fun _ _ => (hh.less (.cons _ (List.Sublist.refl _))), trivial⟩, ?_⟩
  refine mc_e rfl fun Q1 => ?_
  refine o_call hf Tryd.en_36 rfl rfl rfl (c36 [1, 2, 12] [1, 2, 12] oa4 (some ⟨B85, 0, none⟩) cap4 3 _ (valsAt_own hown4 fun x hx => hh.get x (by simp [hx])) (valsAt_lit (hh.at (i := 0) rfl) rfl) (by decide)) ?_; clear hf a; intro v a w hR hf
  obtain ⟨rfl, hx⟩ := hR; replace hh := hh.more hx; clear hx
  refine ops_end ?_
  refine then_n ⟨⟨fun _ _ => (hh.less (.cons _ (List.Sublist.refl _))), trivial⟩, ?_⟩
  refine mc_p rfl   hf (yv_move rfl) (.inl rfl) rfl rfl ?_; clear hf a; intro a hf
  refine mc_p rfl   hf (yv_move rfl) (gon rfl rfl rfl (by first | assumption | rfl | (simp; done) | (simp; omega))) rfl rfl ?_; clear hf a; intro a hf
  refine mc_p rfl   hf (yv_bin rfl rfl rfl) (gon rfl rfl rfl (by first | assumption | rfl | (simp; done) | (simp; omega))) rfl rfl ?_; clear hf a; intro a hf
  refine mc_p rfl   hf (y_pt rfl rfl) (.inl rfl) rfl rfl ?_; clear hf a; intro a hf
  refine mc_p rfl   hf (yv_move rfl) (.inl rfl) rfl rfl ?_; clear hf a; intro a hf
  refine mc_p rfl   hf (yv_move rfl) (gon rfl rfl rfl (by first | assumption | rfl | (simp; done) | (simp; omega))) rfl rfl ?_; clear hf a; intro a hf
  refine mc_e rfl fun Q1 => ?_
  refine ops_buildSl hf hh Tryd.bl_55_3 rfl rfl (gon rfl rfl rfl (by first | assumption | rfl | (simp; done) | (simp; omega))) rfl ?_; clear hf hh; clear a; intro B93 a w hf hh
  refine ops_end ?_
  refine then_n ⟨⟨fun _ _ => (hh.less (.cons _ (.cons _ (List.Sublist.refl _)))), trivial⟩, ?_⟩
  refine mc_e rfl fun Q1 => ?_
  refine o_call hf Tryd.en_36 rfl rfl rfl (c36 [0, 1, -1] [0, 1, -1] oa5 (some ⟨B93, 0, none⟩) cap5 3 _ (valsAt_own hown5 fun x hx => hh.get x (by simp [hx])) (valsAt_lit (hh.at (i := 0) rfl) rfl) (by decide)) ?_; clear hf a; intro v a w hR hf
  obtain ⟨rfl, hx⟩ := hR; replace hh := hh.more hx; clear hx
  refine ops_end ?_
  refine then_n ⟨⟨fun _ _ => (hh.less (.cons _ (.cons _ (List.Sublist.refl _)))), trivial⟩, ?_⟩
  refine mc_p rfl   hf (y_pt rfl rfl) (.inl rfl) rfl rfl ?_; clear hf a; intro a hf
  refine mc_p rfl   hf (yv_move rfl) (.inl rfl) rfl rfl ?_; clear hf a; intro a hf
  refine mc_p rfl   hf (yv_move rfl) (gon rfl rfl rfl (by first | assumption | rfl | (simp; done) | (simp; omega))) rfl rfl ?_; clear hf a; intro a hf
  refine mc_p rfl   hf (yv_bin rfl rfl rfl) (gon rfl rfl rfl (by first | assumption | rfl | (simp; done) | (simp; omega))) rfl rfl ?_; clear hf a; intro a hf
  refine mc_p rfl   hf (y_pt rfl rfl) (.inl rfl) rfl rfl ?_; clear hf a; intro a hf
  refine mc_p rfl   hf (yv_move rfl) (.inl rfl) rfl rfl ?_; clear hf a; intro a hf
  refine mc_q rfl rfl (hh.less (.cons _ (.cons _ (List.Sublist.refl _)))) hf (y_lds Tryd.ag_24 rfl) (gon rfl rfl rfl (by first | assumption | rfl | (simp; done) | (simp; omega))) rfl rfl ?_; clear hf a; intro a hf
  refine mc_e rfl fun Q1 => ?_
  refine o_call hf Tryd.en_29 rfl rfl rfl (c29 _ _ _) ?_; clear hf a; intro v a w hR hf
  obtain ⟨rfl, hx⟩ := hR; replace hh := hh.more hx; clear hx
  refine ops_end ?_
  refine then_n ⟨⟨fun _ _ => (hh.less (.cons _ (.cons _ (List.Sublist.refl _)))), trivial⟩, ?_⟩
  refine mc_p rfl   hf (yv_eqF [6, 20] [6, 20] fl24 rfl rfl) (gon rfl rfl rfl (by first | assumption | rfl | (simp; done) | (simp; omega))) rfl rfl ?_; clear hf a; intro a hf
  refine mc_p rfl   hf (y_pt rfl rfl) (.inl rfl) rfl rfl ?_; clear hf a; intro a hf
  refine mc_p rfl   hf (yv_move rfl) (.inl rfl) rfl rfl ?_; clear hf a; intro a hf
  refine mc_p rfl   hf (yv_move rfl) (gon rfl rfl rfl (by first | assumption | rfl | (simp; done) | (simp; omega))) rfl rfl ?_; clear hf a; intro a hf
  refine mc_p rfl   hf (yv_bin rfl rfl rfl) (gon rfl rfl rfl (by first | assumption | rfl | (simp; done) | (simp; omega))) rfl rfl ?_; clear hf a; intro a hf
  refine mc_p rfl   hf (y_pt rfl rfl) (.inl rfl) rfl rfl ?_; clear hf a; intro a hf
  refine mc_p rfl   hf (yv_move rfl) (.inl rfl) rfl rfl ?_; clear hf a; intro a hf
  refine mc_p rfl   hf (yv_move rfl) (gon rfl rfl rfl (by first | assumption | rfl | (simp; done) | (simp; omega))) rfl rfl ?_; clear hf a; intro a hf
  refine mc_p rfl   hf (yv_bin rfl rfl rfl) (gon rfl rfl rfl (by first | assumption | rfl | (simp; done) | (simp; omega))) rfl rfl ?_; clear hf a; intro a hf
  refine mc_p rfl   hf (y_pt rfl rfl) (.inl rfl) rfl rfl ?_; clear hf a; intro a hf
  refine mc_p rfl   hf (yv_move rfl) (.inl rfl) rfl rfl ?_; clear hf a; intro a hf
  refine mc_p rfl   hf (yv_move rfl) (gon rfl rfl rfl (by first | assumption | rfl | (simp; done) | (simp; omega))) rfl rfl ?_; clear hf a; intro a hf
  refine mc_p rfl   hf (yv_bin rfl rfl rfl) (gon rfl rfl rfl (by first | assumption | rfl | (simp; done) | (simp; omega))) rfl rfl ?_; clear hf a; intro a hf
  refine mc_p rfl   hf (y_pt rfl rfl) (.inl rfl) rfl rfl ?_; clear hf a; intro a hf
  refine mc_p rfl   hf (yv_move rfl) (.inl rfl) rfl rfl ?_; clear hf a; intro a hf
  refine mc_p rfl   hf (yv_move rfl) (gon rfl rfl rfl (by first | assumption | rfl | (simp; done) | (simp; omega))) rfl rfl ?_; clear hf a; intro a hf
  refine mc_p rfl   hf (yv_bin rfl rfl rfl) (gon rfl rfl rfl (by first | assumption | rfl | (simp; done) | (simp; omega))) rfl rfl ?_; clear hf a; intro a hf
  refine mc_p rfl   hf (y_pt rfl rfl) (.inl rfl) rfl rfl ?_; clear hf a; intro a hf
  refine mc_p rfl   hf (yv_assign rfl) (.inl rfl) rfl rfl ?_; clear hf a; intro a hf
  refine mc_end ?_
  refine then_n ?_
  refine sy_ret ?_
  refine ret_r hf rfl rfl ?_
  exact ⟨rfl, hh.ext⟩
theorem c9 (u : World) (hT : GTab u) : Calls Tryd.prog 9 #[] u (Ret fun v w' => v = .bool true ∧ Ext [] u w') := by
  refine calls_of Tryd.func9 rfl rfl (fun a hf => ?_)
  have hh := Hp.init u []
  refine sy_sq ?_
  refine o_v hf hh (yv_assign rfl) ?_; clear hf a; intro a hf
  refine o_end ?_
  refine sy_sq ?_
  refine o_call hf Tryd.en_37 rfl rfl rfl (c37 _) ?_; clear hf a; intro v a w hR hf
  obtain ⟨sa1, sb1, rfl, hA1, hB1, hx⟩ := hR; replace hh := hh.more hx; clear hx
  refine o_call hf Tryd.en_15 rfl rfl rfl (c15 sampleD sa1 sb1 3 4 _ hA1 hB1 0 0 (by omega) (by omega)) ?_; clear hf a; intro v a w hR hf
  rw [smp_fits0, smp_fitsE0] at hR
  obtain ⟨rfl, hx⟩ := hR; replace hh := hh.more hx; clear hx
  refine o_v hf hh (yv_move rfl) ?_; clear hf a; intro a hf
  refine o_v hf hh (yv_extract rfl rfl) ?_; clear hf a; intro a hf
  refine o_v hf hh (yv_extract rfl rfl) ?_; clear hf a; intro a hf
  refine o_v hf hh (yv_assign rfl) ?_; clear hf a; intro a hf
  refine o_v hf hh (yv_assign rfl) ?_; clear hf a; intro a hf
  refine o_end ?_
  refine sy_sq ?_
  refine o_call hf Tryd.en_37 rfl rfl rfl (c37 _) ?_; clear hf a; intro v a w hR hf
  obtain ⟨sa2, sb2, rfl, hA2, hB2, hx⟩ := hR; replace hh := hh.more hx; clear hx
  refine o_call hf Tryd.en_34 rfl rfl rfl (c34 sampleD sa2 sb2 3 4 _ hA2 hB2) ?_; clear hf a; intro v a w hR hf
  rw [if_pos smp_op, if_pos smp_op, smp_op, smp_hideA, smp_hideB] at hR
  obtain ⟨rfl, hx⟩ := hR; replace hh := hh.more hx; clear hx
  refine o_v hf hh (yv_move rfl) ?_; clear hf a; intro a hf
  refine o_v hf hh (yv_extract rfl rfl) ?_; clear hf a; intro a hf
  refine o_v hf hh (yv_extract rfl rfl) ?_; clear hf a; intro a hf
  refine o_v hf hh (yv_extract rfl rfl) ?_; clear hf a; intro a hf
  refine o_v hf hh (yv_assign rfl) ?_; clear hf a; intro a hf
  refine o_v hf hh (yv_assign rfl) ?_; clear hf a; intro a hf
  refine o_v hf hh (yv_assign rfl) ?_; clear hf a; intro a hf
  refine o_end ?_
  refine sy_sq ?_
  refine o_call hf Tryd.en_37 rfl rfl rfl (c37 _) ?_; clear hf a; intro v a w hR hf
  obtain ⟨sa3, sb3, rfl, hA3, hB3, hx⟩ := hR; replace hh := hh.more hx; clear hx
  refine o_call hf Tryd.en_22 rfl rfl rfl (c22 sampleD sa3 sb3 3 4 _ hA3 hB3 (by decide) 0 (by omega)) ?_; clear hf a; intro v a w hR hf
  rw [smp_sh0, smp_shE0] at hR
  obtain ⟨rfl, hx⟩ := hR; replace hh := hh.more hx; clear hx
  refine o_v hf hh (yv_move rfl) ?_; clear hf a; intro a hf
  refine o_v hf hh (yv_extract rfl rfl) ?_; clear hf a; intro a hf
  refine o_v hf hh (yv_extract rfl rfl) ?_; clear hf a; intro a hf
  refine o_alloc hf hh Tryd.ze_24 ?_; clear hf hh a; intro B6 a w hf hh
  refine o_store hf hh Tryd.sz_24 fun w hh => ?_
  refine o_v hf hh (yv_assign rfl) ?_; clear hf a; intro a hf
  refine o_end ?_
  refine sy_seq ?_
  refine sy_tree1 (.p 0 (.e1 1 (.p 2 (.p 3 (.p 4 (.p 5 (.p 6 (.p 7 (.p 8 (.p 9 (.p 10 (.p 11 (.p 12 (.p 13 (.p 14 (.p 15 (.p 16 (.p 17 (.p 18 (.p 19 (.p 20 (.p 21 (.p 22 (.q 0 23 (.e1 24 (.p 25 (.p 26 (.p 27 (.p 28 (.p 29 (.p 30 (.p 31 (.fin))))))))))))))))))))))))))))))))) [] Tryd.follows (by kernel_rfl) hh (fun w hh => ?_)
  refine mc_p rfl   hf (yv_move rfl) (.inl rfl) rfl rfl ?_; clear hf a; intro a hf
  refine mc_e rfl fun Q1 => ?_
  refine o_call hf Tryd.en_14 rfl rfl rfl (c14 _ (hT.ext hh.ext (by simp))) ?_; clear hf a; intro v a w hR hf
  obtain ⟨rfl, hx⟩ := hR; replace hh := hh.more hx; clear hx
  refine ops_end ?_
  refine then_n ⟨⟨fun _ _ => hh, trivial⟩, ?_⟩
  refine mc_p rfl   hf (y_pt rfl rfl) (.inl rfl) rfl rfl ?_; clear hf a; intro a hf
  refine mc_p rfl   hf (yv_move rfl) (.inl rfl) rfl rfl ?_; clear hf a; intro a hf
  refine mc_p rfl   hf (yv_move rfl) (gon rfl rfl rfl (by first | assumption | rfl | (simp; done) | (simp; omega))) rfl rfl ?_; clear hf a; intro a hf
  refine mc_p rfl   hf (y_pt rfl rfl) (.inl rfl) rfl rfl ?_; clear hf a; intro a hf
  refine mc_p rfl   hf (yv_move rfl) (.inl rfl) rfl rfl ?_; clear hf a; intro a hf
  refine mc_p rfl   hf (yv_move rfl) (gon rfl rfl rfl (by first | assumption | rfl | (simp; done) | (simp; omega))) rfl rfl ?_; clear hf a; intro a hf
  refine mc_p rfl   hf (yv_bin rfl rfl rfl) (gon rfl rfl rfl (by first | assumption | rfl | (simp; done) | (simp; omega))) rfl rfl ?_; clear hf a; intro a hf
  refine mc_p rfl   hf (y_pt rfl rfl) (.inl rfl) rfl rfl ?_; clear hf a; intro a hf
  refine mc_p rfl   hf (yv_move rfl) (.inl rfl) rfl rfl ?_; clear hf a; intro a hf
  refine mc_p rfl   hf (yv_move rfl) (gon rfl rfl rfl (by first | assumption | rfl | (simp; done) | (simp; omega))) rfl rfl ?_; clear hf a; intro a hf
  refine mc_p rfl   hf (yv_bin rfl rfl rfl) (gon rfl rfl rfl (by first | assumption | rfl | (simp; done) | (simp; omega))) rfl rfl ?_; clear hf a; intro a hf
  refine mc_p rfl   hf (y_pt rfl rfl) (.inl rfl) rfl rfl ?_; clear hf a; intro a hf
  refine mc_p rfl   hf (yv_move rfl) (.inl rfl) rfl rfl ?_; clear hf a; intro a hf
  refine mc_p rfl   hf (yv_move rfl) (gon rfl rfl rfl (by first | assumption | rfl | (simp; done) | (simp; omega))) rfl rfl ?_; clear hf a; intro a hf
  refine mc_p rfl   hf (yv_bin rfl rfl rfl) (gon rfl rfl rfl (by first | assumption | rfl | (simp; done) | (simp; omega))) rfl rfl ?_; clear hf a; intro a hf
  refine mc_p rfl   hf (y_pt rfl rfl) (.inl rfl) rfl rfl ?_; clear hf a; intro a hf
  refine mc_p rfl   hf (yv_move rfl) (.inl rfl) rfl rfl ?_; clear hf a; intro a hf
  refine mc_p rfl   hf (yv_move rfl) (gon rfl rfl rfl (by first | assumption | rfl | (simp; done) | (simp; omega))) rfl rfl ?_; clear hf a; intro a hf
  refine mc_p rfl   hf (yv_bin rfl rfl rfl) (gon rfl rfl rfl (by first | assumption | rfl | (simp; done) | (simp; omega))) rfl rfl ?_; clear hf a; intro a hf
  refine mc_p rfl   hf (y_pt rfl rfl) (.inl rfl) rfl rfl ?_; clear hf a; intro a hf
  refine mc_p rfl   hf (yv_move rfl) (.inl rfl) rfl rfl ?_; clear hf a; intro a hf
  refine mc_q rfl rfl hh hf (y_lds Tryd.ag_24 rfl) (gon rfl rfl rfl (by first | assumption | rfl | (simp; done) | (simp; omega))) rfl rfl ?_; clear hf a; intro a hf
  refine mc_e rfl fun Q1 => ?_
  refine o_call hf Tryd.en_29 rfl rfl rfl (c29 _ _ _) ?_; clear hf a; intro v a w hR hf
  obtain ⟨rfl, hx⟩ := hR; replace hh := hh.more hx; clear hx
  refine ops_end ?_
  refine then_n ⟨⟨fun _ _ => hh, trivial⟩, ?_⟩
  refine mc_p rfl   hf (yv_eqF [8, 12] [8, 12] fl24 rfl rfl) (gon rfl rfl rfl (by first | assumption | rfl | (simp; done) | (simp; omega))) rfl rfl ?_; clear hf a; intro a hf
  refine mc_p rfl   hf (y_pt rfl rfl) (.inl rfl) rfl rfl ?_; clear hf a; intro a hf
  refine mc_p rfl   hf (yv_move rfl) (.inl rfl) rfl rfl ?_; clear hf a; intro a hf
  refine mc_p rfl   hf (yv_move rfl) (gon rfl rfl rfl (by first | assumption | rfl | (simp; done) | (simp; omega))) rfl rfl ?_; clear hf a; intro a hf
  refine mc_p rfl   hf (yv_bin rfl rfl rfl) (gon rfl rfl rfl (by first | assumption | rfl | (simp; done) | (simp; omega))) rfl rfl ?_; clear hf a; intro a hf
  refine mc_p rfl   hf (y_pt rfl rfl) (.inl rfl) rfl rfl ?_; clear hf a; intro a hf
  refine mc_p rfl   hf (yv_assign rfl) (.inl rfl) rfl rfl ?_; clear hf a; intro a hf
  refine mc_end ?_
  refine then_n ?_
  refine sy_ret ?_
  refine ret_r hf rfl rfl ?_
  exact ⟨rfl, hh.ext⟩
end Go.Proofs.YtemmhdgaagaglaaDoor
