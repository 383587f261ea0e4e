/- Lemmas, in order: What the exported functions tell. Fits. Cases. What is gathered over all sets. What is gathered: sides. Sides. Sides. Two sets in one. What is gathered: all sets in one, and what lies in each. The sets that are joined. Can and Sure. What is gathered: the first set, by how many marks there are, by how many of Right, by number. Rules; the first set. At which mark it is best to look. What is left without what surely was painted. Fewest and Rest. How many sets are left if a lens tells of a mark. Lens. The document's examples, and what they give. The document's examples. The document's small functions: counting, sets, valid canvases. Rows that are the same; sets of marks in a row. Rows without marks, in the document's way; rows that are the same. Fits, in terms of the ways that are left. Plain laws: a canvas on which more can have been painted. Plain laws: a canvas whose rows have changed places.. -/
import Derived.Test.YtidieepndphodaaQ21
namespace Go.MatM
open Go Go.Sy Go.Proofs Go.RowKit
def askS (d : RowsD) (l r : Int) : Bool := inS l d.l.length && inS r d.r.length
def fitsCE (d : RowsD) (p l r : Int) : Int := openE d p (askS d l r)
def fitsCV (d : RowsD) (p l r : Int) : Bool := decide (fitsCE d p l r = 0) && isC d p (l.toNat, r.toNat)
theorem openE_zero {d : RowsD} {p : Int} {b : Bool} : openE d p b = 0 ↔ okCan d p = true ∧ b = true := by
  unfold openE
  cases okCan d p <;> cases b <;> simp
theorem inS_bd {n : Int} {m : Nat} (h : inS n m = true) (hm : m ≤ 10) : 0 ≤ n ∧ n ≤ 1023 := by
  unfold inS at h
  simp only [Bool.and_eq_true, decide_eq_true_eq] at h
  have := pow_le_10 hm
  omega
theorem restS_len {n : Nat} {p : Int} {s : Nat} (h : n ≤ 10) : (restS n p s).length ≤ 1024 := by
  have h1 := pow_le_10 h
  unfold restS
  refine Nat.le_trans (List.length_filter_le _ _) ?_
  rw [List.length_range']; omega
theorem rowL_len {d : RowsD} {p : Int} {i : Nat} {l : List Nat} : (rowL d p i l).length ≤ l.length := by
  unfold rowL
  refine Nat.le_trans (List.length_filter_le _ _) ?_
  rw [List.length_map]; exact Nat.le_refl _
theorem casesL_len {d : RowsD} {p : Int} (hV : Valid d) : (casesL d p).length ≤ 3000 := by
  have h1 := rowL_len (d := d) (p := p) (i := 0) (l := restS (lenR d 0) p 1)
  have h2 := rowL_len (d := d) (p := p) (i := 1) (l := restS (lenR d 1) p 1)
  have h3 := restS_len (p := p) (s := 1) (show lenR d 0 ≤ 10 from hV.nl)
  have h4 := restS_len (p := p) (s := 1) (show lenR d 1 ≤ 10 from hV.nr)
  have h5 : ([((0 : Nat), (0 : Nat))].filter (isC d p)).length ≤ 1 := List.length_filter_le _ _
  have e : restI d p 0 = rowL d p 0 (restS (lenR d 0) p 1) ++ rowL d p 1 (restS (lenR d 1) p 1) := rfl
  unfold casesL
  rw [List.length_append, e, List.length_append]
  omega
def casesE (d : RowsD) (p : Int) : Int := openE d p true
def casesC (d : RowsD) (p : Int) : Nat := if casesE d p = 0 then (casesL d p).length else 0
theorem casesE_zero {d : RowsD} {p : Int} : casesE d p = 0 ↔ okCan d p = true := by
  unfold casesE; rw [openE_zero]; simp
/-- What the iterator of sets looks at, behind the opening of a canvas. -/
theorem ownC_mk {d : RowsD} {p : Int} {sa sb : Option Addr} {ca cb bm Bc B1 : Nat} {N : List Nat} {w : World} (hm : w.heap[bm]? = some (.map #[] 0)) (hc : w.heap[Bc]? = some (.cells (canC d p sa sb ca cb bm) 109 (0, 0))) (h1 : w.heap[B1]? = some (.cells #[ptr Bc 0] 66 (0, 0)))
    (n1 : bm ∉ N) (n2 : Bc ∉ N) (n3 : B1 ∉ N) (hA : MkN N w sa d.l) (hB : MkN N w sb d.r) : OwnC d p sa sb ca cb bm Bc [(B1, .cells #[ptr Bc 0] 66)] N w :=
  ⟨⟨_, _, hm, MemoV.nil _ _⟩, n1, Held.cons hc n2 (Held.cons h1 n3 (Held.nil _ _)), by
    simp only [List.map_cons, List.map_nil, List.mem_cons, List.not_mem_nil, or_false, not_or]
    exact ⟨fun h => (by rw [h, hc] at hm; cases hm), fun h => (by rw [h, h1] at hm; cases hm)⟩, hA, hB⟩
/-- Marks that came in lie off the blocks that are new. -/
theorem MkN.new {u w : World} {sa : Option Addr} {l : List Mk} {N : List Nat} (h : MkAt u sa l) (e : Ext [] u w) (hN : ∀ x ∈ N, u.heap.size ≤ x) : MkN N w sa l := fun i s hi => by
  obtain ⟨blk, off, c, T, fr, h1, h2, h3⟩ := h i s hi
  refine ⟨blk, off, c, T, fr, h1, e.get h2, h3, fun hx => ?_⟩
  have := (Array.getElem?_eq_some_iff.1 h2).1
  have := hN _ hx
  omega
end Go.MatM
namespace Go.Proofs.Ytidieepndphodaa
open Go Go.Sy Go.MatM
theorem p44 (Bk : Nat) (n : Nat) (x : Nat × Nat) (u : World) (hn : n ≤ 100000) (hb : u.heap[Bk]? = some (.cells #[.int .i64 (n : Nat)] 76 (0, 0))) : Calls Try.prog 44 #[ptr Bk 0, enc2 x] u (Ret fun v w' => Hp u [Bk] [(Bk, .cells #[.int .i64 ((n + 1 : Nat) : Int)] 76)] w') := by
  refine calls_of Try.func44 rfl rfl (fun a hf => ?_)
  have hh := Hp.init1 hb
  refine sy_sq ?_
  refine o_box hf hh ?_; clear hf hh a; intro B3 a w hf hh
  refine o_end ?_
  refine sy_ops ?_
  refine o_v hf hh (yv_move rfl) ?_; clear hf a; intro a hf
  refine o_v hf hh (yv_nilCheck rfl) ?_; clear hf a; intro a hf
  refine o_v hf hh (yv_fieldAddr Try.fo_76_0 rfl) ?_; clear hf a; intro a hf
  refine o_v hf hh (y_ld Try.sc_3 rfl) ?_; clear hf a; intro a hf
  refine ops_v hf hh (yv_cast (yv_add rfl rfl (by omega) (by omega)) (intv (b := ((n + 1 : Nat) : Int)) (by omega))) (.inl rfl) rfl rfl rfl ?_; clear hf a; intro a hf
  refine o_v hf hh (yv_nilCheck rfl) ?_; clear hf a; intro a hf
  refine o_v hf hh (yv_fieldAddr Try.fo_76_0 rfl) ?_; clear hf a; intro a hf
  refine o_store hf hh Try.sz_3 fun w hh => ?_
  refine ops_end ?_
  refine ret_n hf rfl rfl ?_
  exact hh.less (.cons _ (.refl _))
theorem p43 (Bc : Nat) (u : World) : Calls Try.prog 43 #[ptr Bc 0] u (Ret fun v w' => ∃ B1, v = .func (.func 70) #[] #[ptr B1 0] ∧ Hp u [] [(B1, .cells #[ptr Bc 0] 66)] w') := by
  refine calls_of Try.func43 rfl rfl (fun a hf => ?_)
  have hh := Hp.init u []
  refine sy_sq ?_
  refine o_box hf hh ?_; clear hf hh a; intro B1 a w hf hh
  refine o_v hf hh (yv_assign rfl) ?_; clear hf a; intro a hf
  refine o_end ?_
  refine sy_sq ?_
  refine o_v hf hh (yv_makeFunc rfl rfl) ?_; clear hf a; intro a hf
  refine o_v hf hh (yv_assign rfl) ?_; clear hf a; intro a hf
  refine o_end ?_
  refine sy_ret ?_
  refine ret_r hf rfl rfl ?_
  exact ⟨B1, rfl, hh⟩
theorem p10 (d : RowsD) (p : Int) (sa sb : Option Addr) (ca cb : Nat) (u : World) (hA : MkAt u sa d.l) (hB : MkAt u sb d.r) (l r : Int) :
    Calls Try.prog 10 #[canV d p sa sb ca cb, .int .i64 l, .int .i64 r] u (Ret fun v w' => v = .tuple #[.bool (fitsCV d p l r), .int .i64 (fitsCE d p l r)] ∧ Ext [] u w') := by
  refine calls_ofM Try.func10 rfl rfl (fun a hf => ?_)
  have hh := Hp.init u []
  refine sy_sq ?_
  refine o_box hf hh ?_; clear hf hh a; intro B3 a w hf hh
  refine o_box hf hh ?_; clear hf hh a; intro B4 a w hf hh
  refine o_box hf hh ?_; clear hf hh a; intro B5 a w hf hh
  refine o_v hf hh (yv_assign rfl) ?_; clear hf a; intro a hf
  refine o_alloc hf hh Try.ze_22 ?_; clear hf hh a; intro B7 a w hf hh
  refine o_end ?_
  refine sy_sq ?_
  refine o_v hf hh (yv_makeFunc rfl rfl) ?_; clear hf a; intro a hf
  refine o_defer hf ?_; clear hf a; intro a hf
  refine o_end ?_
  refine sy_sq ?_
  refine o_v hf hh (y_lds Try.ag_31 rfl) ?_; clear hf a; intro a hf
  refine o_v hf hh (yv_makeFunc rfl rfl) ?_; clear hf a; intro a hf
  refine o_callX hf Try.en_35 rfl rfl rfl (p35 d p sa sb ca cb _ (hA.ext hh.ext) (hB.ext hh.ext) 36 _ (askS d l r) Try.en_36 (fun hok bm Bc w2 e hc => p36 d p sa sb ca cb bm Bc w2 hc l r B4 B5 (e.get (hh.at (i := 2) rfl)) (e.get (hh.at (i := 1) rfl)) (okCan_valid hok).1.nl (okCan_valid hok).1.nr)) ?_ ?_
  ·clear hf a; intro v a w hR hf
   obtain ⟨he, bm, Bc, rfl, hx⟩ := hR; replace hh := hh.join hx; clear hx
   obtain ⟨hok, hask⟩ := openE_zero.1 he
   obtain ⟨hV, hp0, hp3⟩ := okCan_valid hok
   unfold askS at hask
   rw [Bool.and_eq_true] at hask
   obtain ⟨hl0, hl1⟩ := inS_bd hask.1 hV.nl
   obtain ⟨hr0, hr1⟩ := inS_bd hask.2 hV.nr
   refine o_v hf hh (yv_assign rfl) ?_; clear hf a; intro a hf
   refine o_end ?_
   refine sy_sq ?_
   refine o_v hf hh (yv_move rfl) ?_; clear hf a; intro a hf
   refine o_v hf hh (y_ld Try.sc_3 rfl) ?_; clear hf a; intro a hf
   refine ops_v hf hh (yv_cast (yv_convx (.inr rfl) (by kernel_rfl) (by kernel_rfl) rfl (by omega) (by simp only [IntKind.top]; omega)) (intv (b := ((l.toNat : Nat) : Int)) (by omega))) (.inl rfl) rfl rfl rfl ?_; clear hf a; intro a hf
   refine o_v hf hh (y_ld Try.sc_3 rfl) ?_; clear hf a; intro a hf
   refine ops_v hf hh (yv_cast (yv_convx (.inr rfl) (by kernel_rfl) (by kernel_rfl) rfl (by omega) (by simp only [IntKind.top]; omega)) (intv (b := ((r.toNat : Nat) : Int)) (by omega))) (.inl rfl) rfl rfl rfl ?_; clear hf a; intro a hf
   refine o_v hf hh (yv_buildA Try.ba_73 rfl rfl) ?_; clear hf a; intro a hf
   refine o_call hf Try.en_39 rfl rfl rfl (p39 d p sa sb ca cb bm Bc _ (hh.at (i := 0) rfl) _ _ (hh.at (i := 1) rfl) (MemoV.nil _ _) (hA.ext hh.ext) (hB.ext hh.ext) hV (l.toNat, r.toNat) (by simp only; omega) (by simp only; omega)) ?_; clear hf a; intro v a w hR hf
   obtain ⟨rfl, es', cm', hM, hx⟩ := hR; replace hh := hh.turn (i := 1) rfl hx.ext (hx.at (i := 0) rfl); clear hx
   refine o_v hf hh (yv_assign rfl) ?_; clear hf a; intro a hf
   refine o_store hf hh Try.sz_22 fun w hh => ?_
   refine o_end ?_
   refine sy_ret ?_
   exact ret_d (Ds := []) hf hh Try.en_33 (fun w' => d33r B7 w') fun w' hh => ⟨[.bool (isC d p (l.toNat, r.toNat)), .int .i64 0], ⟨rfl, ⟨B7, 0, _, _, _, rfl, hh.at (i := 2) rfl, .inl ⟨Try.sc_22, rfl⟩⟩, True.intro⟩, by
     have e1 : fitsCE d p l r = 0 := he
     have e2 : fitsCV d p l r = isC d p (l.toNat, r.toNat) := by unfold fitsCV; rw [e1]; rfl
     rw [e1, e2]; rfl, hh.ext⟩
  ·intro ch w hX hf
   obtain ⟨rfl, he, hx⟩ := hX; replace hh := hh.more hx; clear hx
   refine then_p ?_
   exact pan_d (Ds := []) hf hh Try.en_33 (fun w' hh => d33p B7 _ 0 w' (hh.at (i := 0) rfl)) fun w' w'' hh h2 => ⟨[.bool false, .int .i64 (fitsCE d p l r)], ⟨rfl, ⟨B7, 0, _, _, _, rfl, h2.at (i := 0) rfl, .inl ⟨Try.sc_22, rfl⟩⟩, True.intro⟩, by
     have e1 : ¬ fitsCE d p l r = 0 := he
     have e2 : fitsCV d p l r = false := by unfold fitsCV; rw [decide_eq_false e1]; rfl
     rw [e2]; rfl, (hh.turn (i := 0) rfl h2.ext (h2.at (i := 0) rfl)).ext⟩
end Go.Proofs.Ytidieepndphodaa
namespace Go.Proofs.Ytidieepndphodaa
open Go Go.Sy Go.MatM
theorem p12 (d : RowsD) (p : Int) (sa sb : Option Addr) (ca cb : Nat) (u : World) (hA : MkAt u sa d.l) (hB : MkAt u sb d.r) :
    Calls Try.prog 12 #[canV d p sa sb ca cb] u (Ret fun v w' => v = .tuple #[.int .i64 (casesC d p : Nat), .int .i64 (casesE d p)] ∧ Ext [] u w') := by
  refine calls_ofM Try.func12 rfl rfl (fun a hf => ?_)
  have hh := Hp.init u []
  refine sy_sq ?_
  refine o_box hf hh ?_; clear hf hh a; intro B1 a w hf hh
  refine o_v hf hh (yv_assign rfl) ?_; clear hf a; intro a hf
  refine o_alloc hf hh Try.ze_22 ?_; clear hf hh a; intro B3 a w hf hh
  refine o_end ?_
  refine sy_sq ?_
  refine o_v hf hh (yv_makeFunc rfl rfl) ?_; clear hf a; intro a hf
  refine o_defer hf ?_; clear hf a; intro a hf
  refine o_end ?_
  refine sy_sq ?_
  refine o_alloc hf hh Try.ze_76 ?_; clear hf hh a; intro B4 a w hf hh
  refine o_end ?_
  refine sy_seq ?_
  refine sy_sq ?_
  refine o_v hf hh (y_lds Try.ag_31 rfl) ?_; clear hf a; intro a hf
  refine o_callX hf Try.en_35 rfl rfl rfl (p35 d p sa sb ca cb _ (hA.ext hh.ext) (hB.ext hh.ext) 42 _ true Try.en_42 (fun hok bm Bc w2 e hc => p42 (ptr Bc 0) w2)) ?_ ?_
  ·clear hf a; intro v a w hR hf
   obtain ⟨he, bm, Bc, rfl, hx⟩ := hR; replace hh := hh.join hx; clear hx
   obtain ⟨hok, hask⟩ := openE_zero.1 he
   obtain ⟨hV, hp0, hp3⟩ := okCan_valid hok
   have hlen := casesL_len (p := p) hV
   refine o_call hf Try.en_43 rfl rfl rfl (p43 Bc _) ?_; clear hf a; intro v a w hR hf
   obtain ⟨Bi, rfl, hx⟩ := hR; replace hh := hh.join hx; clear hx
   have hq : Hp u [] [(Bi, .cells #[ptr Bc 0] 66), (Bc, .cells (canC d p sa sb ca cb bm) 109), (bm, .map #[] 0), (B4, .cells #[.int .i64 ((0 : Nat) : Int)] 76), (B3, .cells #[.int .i64 0] 22), (B1, .cells (canV d p sa sb ca cb).cells 31)] w := hh
   replace hh := hq.less (.cons _ (.cons _ (.cons _ (.refl _))))
   refine o_end ?_
   refine sy_block ?_
   refine sy_rangeH (I := fun k H => H = [(B4, .cells #[.int .i64 (k : Nat)] 76), (B3, .cells #[.int .i64 0] 22), (B1, .cells (canV d p sa sb ca cb).cells 31)]) (X := fun _ _ _ => False) hf hh Try.en_70 rfl (it70 d p sa sb ca cb bm Bc Bi hV hp0 hp3) (fun x hx => .inr (by rw [List.mem_singleton.1 hx]; rcases hq.mine (bm, .map #[] 0) (by simp) with h | h; exact h; cases h)) rfl (by intro x hx; obtain ⟨y, _, rfl⟩ := List.mem_map.1 hx; rfl) ?_ ?_ ?_ ?_ ?_ ?_
   · rfl
   · intro N1 w1 e1 g1
     have hnd := hq.nodup
     have k1 := (List.nodup_cons.1 hnd).1
     have k2 := (List.nodup_cons.1 (List.nodup_cons.1 hnd).2).1
     have k3 := (List.nodup_cons.1 (List.nodup_cons.1 (List.nodup_cons.1 hnd).2).2).1
     have hN : ∀ x ∈ List.map Prod.fst [(B4, Obj.cells #[.int .i64 ((0 : Nat) : Int)] 76), (B3, Obj.cells #[.int .i64 0] 22), (B1, Obj.cells (canV d p sa sb ca cb).cells 31)], u.heap.size ≤ x := fun x hx => by
       obtain ⟨q, hq1, rfl⟩ := List.mem_map.1 hx
       rcases hh.mine q hq1 with h | h
       · exact h
       · cases h
     exact (ownC_mk (hq.at (i := 2) rfl) (hq.at (i := 1) rfl) (hq.at (i := 0) rfl) k3 (fun h => k2 (.tail _ h)) (fun h => k1 (.tail _ (.tail _ h))) (MkN.new hA hh.ext hN) (MkN.new hB hh.ext hN)).step (e1.mono (by simp)) g1
   ·rintro k x fn D l H w a tm hx rfl hv hh hf
    have hkl := (List.getElem?_eq_some_iff.1 hx).1
    rw [List.length_map] at hkl
    obtain ⟨x, rfl⟩ : ∃ y, x = cA y := by
      obtain ⟨y, _, e⟩ := List.mem_map.1 (List.mem_of_getElem? hx)
      exact ⟨y, e.symm⟩
    refine sy_ops ?_
    refine o_alloc hf hh Try.ze_73 ?_; clear hf hh a; intro B5 a w hf hh
    refine o_store hf hh Try.sz_73 fun w hh => ?_
    refine ops_end ?_
    refine then_n (Go.Sy.begun (i := 1) hh rfl fun w hh => ?_)
    refine sy_block ?_
    refine sy_ops ?_
    refine o_v hf hh (y_lds Try.ag_73 rfl) ?_; clear hf a; intro a hf
    refine o_call hf Try.en_44 rfl rfl rfl (p44 B4 k _ _ (by omega) (hh.at (i := 3) rfl)) ?_; clear hf a; intro v a w hR hf
    replace hh := hh.turn (i := 3) rfl hR.ext (hR.at (i := 0) rfl)
    refine ops_end ?_
    refine blk_n ?_
    exact ⟨_, rfl, (hh.less (.cons _ (List.Sublist.refl _)))⟩
   ·rintro D H N2 a w rfl hOw hf hh
    rw [List.length_map] at hh
    refine blk_n ?_
    refine then_n ?_
    refine sy_sq ?_
    refine o_v hf hh (yv_fieldAddr Try.fo_76_0 rfl) ?_; clear hf a; intro a hf
    refine o_v hf hh (y_ld Try.sc_3 rfl) ?_; clear hf a; intro a hf
    refine o_v hf hh (yv_assign rfl) ?_; clear hf a; intro a hf
    refine o_store hf hh Try.sz_22 fun w hh => ?_
    refine o_end ?_
    refine sy_ret ?_
    exact ret_d (Ds := [D]) hf hh Try.en_41 (fun w' => d41r B3 w') fun w' hh => ⟨[.int .i64 ((casesL d p).length : Nat), .int .i64 0], ⟨rfl, ⟨B3, 0, _, _, _, rfl, hh.at (i := 1) rfl, .inl ⟨Try.sc_22, rfl⟩⟩, True.intro⟩, by
      have e1 : casesE d p = 0 := he
      unfold casesC; rw [e1, if_pos rfl]; rfl, hh.ext⟩
   ·rintro k c D H N2 a w hX hOw hf hh
    exact hX.elim
   · rintro N v v' b h hb e; exact h.step (e.mono (by simpa using hb)) (.refl _ _)
  ·intro ch w hX hf
   obtain ⟨rfl, he, hx⟩ := hX; replace hh := hh.more hx; clear hx
   refine then_p ?_
   refine then_p ?_
   exact pan_d (Ds := []) hf hh Try.en_41 (fun w' hh => d41p B3 _ 0 w' (hh.at (i := 1) rfl)) fun w' w'' hh h2 => ⟨[.int .i64 0, .int .i64 (casesE d p)], ⟨rfl, ⟨B3, 0, _, _, _, rfl, h2.at (i := 0) rfl, .inl ⟨Try.sc_22, rfl⟩⟩, True.intro⟩, by
     have e1 : ¬ casesE d p = 0 := he
     unfold casesC; rw [if_neg e1]; rfl, (hh.turn (i := 1) rfl h2.ext (h2.at (i := 0) rfl)).ext⟩
end Go.Proofs.Ytidieepndphodaa
namespace Go.Proofs.Ytidieepndphodaa
open Go Go.Sy Go.MatM
set_option maxRecDepth 100000 in
theorem p46 (d : RowsD) (p : Int) (sa sb : Option Addr) (ca cb bm Bc Ba : Nat) (u : World) (hV : Valid d) (hp0 : 0 ≤ p) (hp3 : p ≤ 3) (hc : u.heap[Bc]? = some (.cells (canC d p sa sb ca cb bm) 109 (0, 0))) (hm : u.heap[bm]? = some (.map #[] 0)) (hA : MkN [bm, Ba] u sa d.l) (hB : MkN [bm, Ba] u sb d.r)
    (t Tb : TypeId) (f : FuncId) (st : Nat → Array Value) (hb : u.heap[Ba]? = some (.cells (st 0) Tb (0, 0))) (hac : Ba ≠ Bc) (hmt : methB Try.prog t "pairworks/paint.add" = some f) (hE : Enters Try.prog f)
    (hadd : ∀ k x w', (casesL d p)[k]? = some x → w'.heap[Ba]? = some (.cells (st k) Tb (0, 0)) → Calls Try.prog f #[ptr Ba 0, enc2 x] w' (Ret fun _ w'' => Hp w' [Ba] [(Ba, .cells (st (k + 1)) Tb)] w'')) :
    Calls Try.prog 46 #[ptr Bc 0, .iface t (ptr Ba 0)] u (RetX (fun _ w' => 0 < (casesL d p).length ∧ ∃ es cm, MemoV enc2 (leftV d) es ∧ Hp u [bm, Ba] [(Ba, .cells (st (casesL d p).length) Tb), (bm, .map es cm)] w') (fun ch w' => ch = misfit 4 ∧ (casesL d p).length = 0 ∧ Ext [bm, Ba] u w')) := by
  refine calls_ofMX Try.func46 rfl rfl (fun a hf => ?_)
  have hh := Hp.init1 hb
  have hlen := casesL_len (p := p) hV
  have hma : bm ≠ Ba := by rintro rfl; rw [hb] at hm; cases hm
  have hmc : bm ≠ Bc := by rintro rfl; rw [hc] at hm; cases hm
  refine sy_sq ?_
  refine o_box hf hh ?_; clear hf hh a; intro B3 a w hf hh
  refine o_end ?_
  refine sy_sq ?_
  refine o_alloc hf hh Try.ze_76 ?_; clear hf hh a; intro B4 a w hf hh
  refine o_end ?_
  refine sy_seq ?_
  refine sy_sq ?_
  refine o_v hf hh (yv_move rfl) ?_; clear hf a; intro a hf
  refine o_call hf Try.en_43 rfl rfl rfl (p43 Bc _) ?_; clear hf a; intro v a w hR hf
  obtain ⟨Bi, rfl, hx⟩ := hR; replace hh := hh.join hx; clear hx
  have hq : Hp u [Ba] [(Bi, .cells #[ptr Bc 0] 66), (B4, .cells #[.int .i64 ((0 : Nat) : Int)] 76), (B3, .cells #[.iface t (ptr Ba 0)] 119), (Ba, .cells (st 0) Tb)] w := hh
  replace hh := hq.less (.cons _ (.refl _))
  replace hh : Hp u [bm, Ba] [(B4, .cells #[.int .i64 ((0 : Nat) : Int)] 76), (B3, .cells #[.iface t (ptr Ba 0)] 119), (Ba, .cells (st 0) Tb)] w := ⟨hh.ext.mono (by simp), hh.get, hh.nodup, fun q h => (hh.mine q h).imp id (fun h => .tail _ h)⟩
  refine o_end ?_
  refine sy_block ?_
  refine sy_rangeH (I := fun k H => H = [(B4, .cells #[.int .i64 (k : Nat)] 76), (B3, .cells #[.iface t (ptr Ba 0)] 119), (Ba, .cells (st k) Tb)]) (X := fun _ _ _ => False) hf hh Try.en_70 rfl (it70 d p sa sb ca cb bm Bc Bi hV hp0 hp3) (fun x hx => .inl (by rw [List.mem_singleton.1 hx]; simp)) rfl (by intro x hx; obtain ⟨y, _, rfl⟩ := List.mem_map.1 hx; rfl) ?_ ?_ ?_ ?_ ?_ ?_
  · rfl
  · intro N1 w1 e1 g1
    have hbm := hq.oldM hm (by simpa using hma)
    have hnd := hq.nodup
    have k1 : Bi ∉ [B4, B3, Ba] := (List.nodup_cons.1 hnd).1
    have k2 : B4 ∉ [B3, Ba] := (List.nodup_cons.1 (List.nodup_cons.1 hnd).2).1
    have k3 : B3 ∉ [Ba] := (List.nodup_cons.1 (List.nodup_cons.1 (List.nodup_cons.1 hnd).2).2).1
    have f4 : u.heap.size ≤ B4 := by
      rcases hq.mine (B4, .cells #[.int .i64 ((0 : Nat) : Int)] 76) (by simp) with h | h
      · exact h
      · exact absurd (List.mem_cons_of_mem B3 h) k2
    have f3 : u.heap.size ≤ B3 := by
      rcases hq.mine (B3, .cells #[.iface t (ptr Ba 0)] 119) (by simp) with h | h
      · exact h
      · exact absurd h k3
    have lc := (Array.getElem?_eq_some_iff.1 hc).1
    have lm := (Array.getElem?_eq_some_iff.1 hm).1
    have off : ∀ x, x < u.heap.size → x ≠ Ba → x ∉ [B4, B3, Ba] := fun x hx hxa h => by
      simp only [List.mem_cons, List.not_mem_nil, or_false] at h
      rcases h with h | h | h
      · omega
      · omega
      · exact hxa h
    have hg : Grows [bm, Ba] [B4, B3, Ba] u := fun x hx => by
      simp only [List.mem_cons, List.not_mem_nil, or_false] at hx ⊢
      rcases hx with h | h | h
      · exact .inr (by omega)
      · exact .inr (by omega)
      · exact .inl (.inr h)
    have ho : ∀ x ∈ [Ba], x ∈ [bm, Ba] ∨ u.heap.size ≤ x ∨ ∃ es c, u.heap[x]? = some (.map es c) := fun x hx => .inl (.tail _ hx)
    exact (ownC_mk hbm (hq.oldM hc (by simpa using Ne.symm hac)) (hq.at (i := 0) rfl) (off bm lm hma) (off Bc lc (Ne.symm hac)) k1 (hA.step hq.ext ho hg) (hB.step hq.ext ho hg)).step (e1.mono (by simp)) g1
  ·rintro k x fn D l H w a tm hx rfl hv hh hf
   obtain ⟨x, hxk, rfl⟩ : ∃ y, (casesL d p)[k]? = some y ∧ x = cA y := by
     rw [List.getElem?_map] at hx
     cases e : (casesL d p)[k]? with
     | none => rw [e] at hx; cases hx
     | some y => rw [e] at hx; cases hx; exact ⟨y, rfl, rfl⟩
   have hkl := (List.getElem?_eq_some_iff.1 hxk).1
   refine sy_ops ?_
   refine o_alloc hf hh Try.ze_73 ?_; clear hf hh a; intro B5 a w hf hh
   refine o_store hf hh Try.sz_73 fun w hh => ?_
   refine ops_end ?_
   refine then_n (Go.Sy.begun (i := 1) hh rfl fun w hh => ?_)
   refine sy_block ?_
   refine sy_sq ?_
   refine o_v hf hh (y_lds Try.ag_73 rfl) ?_; clear hf a; intro a hf
   refine o_call hf Try.en_44 rfl rfl rfl (p44 B4 k _ _ (by omega) (hh.at (i := 3) rfl)) ?_; clear hf a; intro v a w hR hf
   replace hh := hh.turn (i := 3) rfl hR.ext (hR.at (i := 0) rfl)
   refine o_end ?_
   refine sy_ops ?_
   refine o_v hf hh (y_ld Try.sc_119 rfl) ?_; clear hf a; intro a hf
   refine o_v hf hh (y_lds Try.ag_73 rfl) ?_; clear hf a; intro a hf
   refine o_invoke hf hmt hE rfl rfl rfl (hadd k x _ hxk (hh.at (i := 5) rfl)) ?_; clear hf a; intro v a w hR hf
   replace hh := hh.turn (i := 5) rfl hR.ext (hR.at (i := 0) rfl)
   refine ops_end ?_
   refine blk_n ?_
   exact ⟨_, rfl, (hh.less (.cons _ (List.Sublist.refl _)))⟩
  ·rintro D H N2 a w rfl hOw hf hh
   rw [List.length_map] at hh
   obtain ⟨es, cm, hbm, hM⟩ := hOw.memo
   refine blk_n ?_
   refine then_n ?_
   refine sy_ops ?_
   refine o_v hf hh (yv_fieldAddr Try.fo_76_0 rfl) ?_; clear hf a; intro a hf
   refine o_v hf hh (y_ld Try.sc_3 rfl) ?_; clear hf a; intro a hf
   refine o_v hf hh (yv_bin rfl rfl rfl) ?_; clear hf a; intro a hf
   refine o_callX hf Try.en_50 rfl rfl rfl (p50 _ 4 _) ?_ ?_
   ·clear hf a; intro v a w hR hf
    obtain ⟨hb2, hx⟩ := hR; replace hh := hh.more hx; replace hbm := hx.get hbm; clear hx
    refine ops_end ?_
    have hbn : bm ∉ [D, Ba] := fun h => by
      simp only [List.mem_cons, List.not_mem_nil, or_false] at h
      rcases h with h | h
      · have := hh.at (i := 0) rfl; rw [← h, hbm] at this; cases this
      · exact hma h
    have hpos : 0 < (casesL d p).length := by have := of_decide_eq_true hb2; omega
    have h3 := (Hp.addM (hh.less (.cons_cons _ (.cons _ (.cons _ (.refl _))))) hbm (.head _) hbn).perm (List.perm_append_comm (l₁ := [(bm, Obj.map es cm)]) (l₂ := [(D, Obj.deferred (some [])), (Ba, Obj.cells (st (casesL d p).length) Tb)]))
    exact ret_mx (Ds := [D]) hf h3 fun w' hh => ⟨[], True.intro, hpos, es, cm, hM, hh⟩
   ·intro ch w hX hf
    obtain ⟨hb2, rfl, hx⟩ := hX; replace hh := hh.more hx; clear hx
    exact pan_mx (Ds := [D]) hf hh fun w' hh => ⟨rfl, by have := of_decide_eq_false hb2; omega, hh.ext⟩
  ·rintro k c D H N2 a w hX hOw hf hh
   exact hX.elim
  · rintro N v v' b h hb e; exact h.step (e.mono (by simpa using hb)) (.refl _ _)
end Go.Proofs.Ytidieepndphodaa
namespace Go.MatM
open Go Go.Sy Go.Proofs Go.RowKit
def sideB (x : Nat × Nat) : Nat := if x.1 = 0 then (if x.2 = 0 then 1 else 4) else 2
def sideS (l : List (Nat × Nat)) : Nat := l.foldl (fun s x => s ||| sideB x) 0
theorem or_le7 {s t : Nat} (h1 : s ≤ 7) (h2 : t ≤ 7) : s ||| t ≤ 7 := by
  have := Nat.or_lt_two_pow (n := 3) (x := s) (y := t) (by omega) (by omega)
  omega
theorem sideB_le (x : Nat × Nat) : sideB x ≤ 7 := by unfold sideB; split <;> (try split) <;> omega
theorem sideS_snoc (l : List (Nat × Nat)) (x : Nat × Nat) : sideS (l ++ [x]) = sideS l ||| sideB x := by simp [sideS]
theorem sideS_le (l : List (Nat × Nat)) : sideS l ≤ 7 := by
  have : ∀ (l : List (Nat × Nat)) (s : Nat), s ≤ 7 → l.foldl (fun s x => s ||| sideB x) s ≤ 7 := by
    intro l
    induction l with
    | nil => intro s h; exact h
    | cons x l ih => intro s h; exact ih _ (or_le7 h (sideB_le x))
  exact this l 0 (by omega)
theorem or_cast (s t : Nat) : ((((s : Nat) : Int).toNat ||| ((t : Nat) : Int).toNat : Nat) : Int) = ((s ||| t : Nat) : Int) := by rw [Int.toNat_natCast, Int.toNat_natCast]
theorem take_at {α : Type} {l : List α} {k : Nat} {x : α} (h : l[k]? = some x) : l.take (k + 1) = l.take k ++ [x] := by rw [List.take_add_one, h]; rfl
/-- What the functions that gather over all sets tell of a canvas. -/
def gatE (d : RowsD) (p : Int) : Int := if casesE d p = 0 then (if (casesL d p).length = 0 then 4 else 0) else casesE d p
theorem gatE_ok {d : RowsD} {p : Int} (h1 : casesE d p = 0) (h2 : 0 < (casesL d p).length) : gatE d p = 0 := by unfold gatE; rw [if_pos h1, if_neg (by omega)]
theorem gatE_4 {d : RowsD} {p : Int} (h1 : casesE d p = 0) (h2 : (casesL d p).length = 0) : gatE d p = 4 := by unfold gatE; rw [if_pos h1, if_pos h2]
theorem gatE_no {d : RowsD} {p : Int} (h1 : casesE d p ≠ 0) : gatE d p = casesE d p ∧ gatE d p ≠ 0 := by unfold gatE; rw [if_neg h1]; exact ⟨rfl, h1⟩
def sidesV (d : RowsD) (p : Int) : Nat := if gatE d p = 0 then sideS (casesL d p) else 0
end Go.MatM
namespace Go.Proofs.Ytidieepndphodaa
open Go Go.Sy Go.MatM
theorem p114 (Ba s : Nat) (x : Nat × Nat) (u : World) (hs : s ≤ 7) (hb : u.heap[Ba]? = some (.cells #[.int .i64 (s : Nat)] 82 (0, 0))) : Calls Try.prog 114 #[ptr Ba 0, enc2 x] u (Ret fun _ w' => Hp u [Ba] [(Ba, .cells #[.int .i64 ((s ||| sideB x : Nat) : Int)] 82)] w') := by
  refine calls_of Try.func114 rfl rfl (fun a hf => ?_)
  have hh := Hp.init1 hb
  refine sy_sq ?_
  refine o_box hf hh ?_; clear hf hh a; intro B3 a w hf hh
  refine o_end ?_
  refine sy_block ?_
  refine sy_sq ?_
  refine o_v hf hh (y_ia Try.ae_73 rfl rfl) ?_; clear hf a; intro a hf
  refine o_v hf hh (y_ld Try.sc_71 rfl) ?_; clear hf a; intro a hf
  refine o_v hf hh (yv_bin rfl rfl rfl) ?_; clear hf a; intro a hf
  refine o_v hf hh (yv_assign rfl) ?_; clear hf a; intro a hf
  refine o_end ?_
  refine sy_cond hf rfl (fun hg2 => ?_) (fun hg2 => ?_)
  ·have hG2 := hg2; try simp only [gS] at hG2
   have hsb : sideB x = 2 := by unfold sideB; rw [if_neg (by omega)]
   refine sy_ops ?_
   refine o_v hf hh (yv_move rfl) ?_; clear hf a; intro a hf
   refine o_v hf hh (yv_nilCheck rfl) ?_; clear hf a; intro a hf
   refine o_v hf hh (yv_fieldAddr Try.fo_82_0 rfl) ?_; clear hf a; intro a hf
   refine o_v hf hh (y_ld Try.sc_3 rfl) ?_; clear hf a; intro a hf
   refine o_v hf hh (yv_cast (yv_or (.inl rfl) rfl rfl (by omega) (by simp only [IntKind.top]; omega) (by omega) (by simp only [IntKind.top]; omega)) (intv (b := ((s ||| sideB x : Nat) : Int)) (by rw [show sideB x = 2 from hsb]; exact or_cast s 2))) ?_; clear hf a; intro a hf
   refine o_v hf hh (yv_nilCheck rfl) ?_; clear hf a; intro a hf
   refine o_v hf hh (yv_fieldAddr Try.fo_82_0 rfl) ?_; clear hf a; intro a hf
   refine o_store hf hh Try.sz_3 fun w hh => ?_
   refine ops_end ?_
   refine blk_n ?_
   refine ret_n hf rfl rfl ?_
   exact hh.less (.cons _ (.refl _))
  ·have hG2 := hg2; try simp only [gS] at hG2
   refine sy_sq ?_
   refine o_v hf hh (y_ia Try.ae_73 rfl rfl) ?_; clear hf a; intro a hf
   refine o_v hf hh (y_ld Try.sc_71 rfl) ?_; clear hf a; intro a hf
   refine o_v hf hh (yv_bin rfl rfl rfl) ?_; clear hf a; intro a hf
   refine o_v hf hh (yv_assign rfl) ?_; clear hf a; intro a hf
   refine o_end ?_
   refine sy_cond hf rfl (fun hg5 => ?_) (fun hg5 => ?_)
   ·have hG5 := hg5; try simp only [gS] at hG5
    have hsb : sideB x = 4 := by unfold sideB; rw [if_pos (by omega), if_neg (by omega)]
    refine sy_ops ?_
    refine o_v hf hh (yv_move rfl) ?_; clear hf a; intro a hf
    refine o_v hf hh (yv_nilCheck rfl) ?_; clear hf a; intro a hf
    refine o_v hf hh (yv_fieldAddr Try.fo_82_0 rfl) ?_; clear hf a; intro a hf
    refine o_v hf hh (y_ld Try.sc_3 rfl) ?_; clear hf a; intro a hf
    refine o_v hf hh (yv_cast (yv_or (.inl rfl) rfl rfl (by omega) (by simp only [IntKind.top]; omega) (by omega) (by simp only [IntKind.top]; omega)) (intv (b := ((s ||| sideB x : Nat) : Int)) (by rw [show sideB x = 4 from hsb]; exact or_cast s 4))) ?_; clear hf a; intro a hf
    refine o_v hf hh (yv_nilCheck rfl) ?_; clear hf a; intro a hf
    refine o_v hf hh (yv_fieldAddr Try.fo_82_0 rfl) ?_; clear hf a; intro a hf
    refine o_store hf hh Try.sz_3 fun w hh => ?_
    refine ops_end ?_
    refine blk_n ?_
    refine ret_n hf rfl rfl ?_
    exact hh.less (.cons _ (.refl _))
   ·have hG5 := hg5; try simp only [gS] at hG5
    have hsb : sideB x = 1 := by unfold sideB; rw [if_pos (by omega), if_pos (by omega)]
    refine sy_ops ?_
    refine o_v hf hh (yv_move rfl) ?_; clear hf a; intro a hf
    refine o_v hf hh (yv_nilCheck rfl) ?_; clear hf a; intro a hf
    refine o_v hf hh (yv_fieldAddr Try.fo_82_0 rfl) ?_; clear hf a; intro a hf
    refine o_v hf hh (y_ld Try.sc_3 rfl) ?_; clear hf a; intro a hf
    refine o_v hf hh (yv_cast (yv_or (.inl rfl) rfl rfl (by omega) (by simp only [IntKind.top]; omega) (by omega) (by simp only [IntKind.top]; omega)) (intv (b := ((s ||| sideB x : Nat) : Int)) (by rw [show sideB x = 1 from hsb]; exact or_cast s 1))) ?_; clear hf a; intro a hf
    refine o_v hf hh (yv_nilCheck rfl) ?_; clear hf a; intro a hf
    refine o_v hf hh (yv_fieldAddr Try.fo_82_0 rfl) ?_; clear hf a; intro a hf
    refine o_store hf hh Try.sz_3 fun w hh => ?_
    refine ops_end ?_
    refine blk_n ?_
    refine ret_n hf rfl rfl ?_
    exact hh.less (.cons _ (.refl _))
end Go.Proofs.Ytidieepndphodaa
namespace Go.Proofs.Ytidieepndphodaa
open Go Go.Sy Go.MatM
theorem meth84 : methB Try.prog 84 "pairworks/paint.add" = some 114 := by kernel_rfl
theorem p13 (d : RowsD) (p : Int) (sa sb : Option Addr) (ca cb : Nat) (u : World) (hA : MkAt u sa d.l) (hB : MkAt u sb d.r) :
    Calls Try.prog 13 #[canV d p sa sb ca cb] u (Ret fun v w' => v = .tuple #[.int .i64 (sidesV d p : Nat), .int .i64 (gatE d p)] ∧ Ext [] u w') := by
  refine calls_ofM Try.func13 rfl rfl (fun a hf => ?_)
  have hh := Hp.init u []
  refine sy_sq ?_
  refine o_box hf hh ?_; clear hf hh a; intro B1 a w hf hh
  refine o_v hf hh (yv_assign rfl) ?_; clear hf a; intro a hf
  refine o_alloc hf hh Try.ze_22 ?_; clear hf hh a; intro B3 a w hf hh
  refine o_end ?_
  refine sy_sq ?_
  refine o_v hf hh (yv_makeFunc rfl rfl) ?_; clear hf a; intro a hf
  refine o_defer hf ?_; clear hf a; intro a hf
  refine o_end ?_
  refine sy_sq ?_
  refine o_alloc hf hh Try.ze_82 ?_; clear hf hh a; intro B4 a w hf hh
  refine o_end ?_
  refine sy_sq ?_
  refine o_v hf hh (y_lds Try.ag_31 rfl) ?_; clear hf a; intro a hf
  refine o_callX hf Try.en_35 rfl rfl rfl (p35 d p sa sb ca cb _ (hA.ext hh.ext) (hB.ext hh.ext) 42 _ true Try.en_42 (fun hok bm Bc w2 e hc => p42 (ptr Bc 0) w2)) ?_ ?_
  ·clear hf a; intro v a w hR hf
   obtain ⟨he, bm, Bc, rfl, hx⟩ := hR; replace hh := hh.join hx; clear hx
   obtain ⟨hok, hask⟩ := openE_zero.1 he
   obtain ⟨hV, hp0, hp3⟩ := okCan_valid hok
   have hlen := casesL_len (p := p) hV
   refine o_v hf hh (yv_makeIface (by kernel_rfl) rfl) ?_; clear hf a; intro a hf
   have hnd := hh.nodup
   have hNn : ∀ x ∈ [bm, B4], u.heap.size ≤ x := fun x hx => by
     simp only [List.mem_cons, List.not_mem_nil, or_false] at hx
     rcases hx with rfl | rfl
     · rcases hh.mine _ (.tail _ (.head _)) with h | h
       · exact h
       · cases h
     · rcases hh.mine _ (.tail _ (.tail _ (.head _))) with h | h
       · exact h
       · cases h
   have hne : B4 ≠ Bc := fun h => (List.nodup_cons.1 hnd).1 (h ▸ .tail _ (.head _))
   refine o_callX hf Try.en_46 rfl rfl rfl (p46 d p sa sb ca cb bm Bc B4 _ hV hp0 hp3 (hh.at (i := 0) rfl) (hh.at (i := 1) rfl) (MkN.new hA hh.ext hNn) (MkN.new hB hh.ext hNn) 84 82 114 (fun k => #[.int .i64 (sideS ((casesL d p).take k) : Nat)]) (hh.at (i := 2) rfl) hne meth84 Try.en_114 (fun k x w2 hk h2 => by
     have e := p114 B4 _ x w2 (sideS_le _) h2
     rw [← sideS_snoc, ← take_at hk] at e
     exact e)) ?_ ?_
   ·clear hf a; intro v a w hR hf
    obtain ⟨hpos, es, cm, hM, hx⟩ := hR
    rw [List.take_length] at hx
    replace hh := hh.swap' (X := [(bm, .map #[] 0), (B4, .cells #[.int .i64 ((0 : Nat) : Int)] 82)]) (Z := [(Bc, .cells (canC d p sa sb ca cb bm) 109), (B3, .cells #[.int .i64 0] 22), (B1, .cells (canV d p sa sb ca cb).cells 31)]) (by
      refine (List.Perm.swap _ _ _).trans (.cons _ ?_)
      exact List.Perm.swap _ _ _) hx
    clear hx
    refine o_end ?_
    refine sy_sq ?_
    refine o_v hf hh (yv_fieldAddr Try.fo_82_0 rfl) ?_; clear hf a; intro a hf
    refine o_v hf hh (y_ld Try.sc_3 rfl) ?_; clear hf a; intro a hf
    refine o_v hf hh (yv_assign rfl) ?_; clear hf a; intro a hf
    refine o_store hf hh Try.sz_22 fun w hh => ?_
    refine o_end ?_
    refine sy_ret ?_
    exact ret_d (Ds := []) hf hh Try.en_45 (fun w' => d45r B3 w') fun w' hh => ⟨[.int .i64 (sideS (casesL d p) : Nat), .int .i64 0], ⟨rfl, ⟨B3, 0, _, _, _, rfl, hh.at (i := 3) rfl, .inl ⟨Try.sc_22, rfl⟩⟩, True.intro⟩, by
      have e1 := gatE_ok (show casesE d p = 0 from he) hpos
      unfold sidesV; rw [e1, if_pos rfl]; rfl, hh.ext⟩
   ·intro ch w hX hf
    obtain ⟨rfl, hno, hx⟩ := hX
    replace hh := (hh.less (.cons _ (.cons _ (.cons _ (.refl _))))).others hx (fun x hx => ⟨fun h => by
      have h4 := (List.nodup_cons.1 (List.nodup_cons.1 (List.nodup_cons.1 hnd).2).2).1
      have hb4 := (List.nodup_cons.1 (List.nodup_cons.1 hnd).2).1
      rcases List.mem_cons.1 hx with rfl | hx
      · exact hb4 (.tail _ h)
      · rw [List.mem_singleton.1 hx] at h; exact h4 h, .inr (hNn x hx)⟩)
    clear hx
    refine then_p ?_
    exact pan_d (Ds := []) hf hh Try.en_45 (fun w' hh => d45p B3 _ 0 w' (hh.at (i := 0) rfl)) fun w' w'' hh h2 => ⟨[.int .i64 0, .int .i64 (4)], ⟨rfl, ⟨B3, 0, _, _, _, rfl, h2.at (i := 0) rfl, .inl ⟨Try.sc_22, rfl⟩⟩, True.intro⟩, by
      have e1 := gatE_4 (show casesE d p = 0 from he) hno
      unfold sidesV; rw [e1, if_neg (by omega)]; rfl, (hh.turn (i := 0) rfl h2.ext (h2.at (i := 0) rfl)).ext⟩
  ·intro ch w hX hf
   obtain ⟨rfl, he, hx⟩ := hX; replace hh := hh.more hx; clear hx
   refine then_p ?_
   exact pan_d (Ds := []) hf hh Try.en_45 (fun w' hh => d45p B3 _ 0 w' (hh.at (i := 1) rfl)) fun w' w'' hh h2 => ⟨[.int .i64 0, .int .i64 (casesE d p)], ⟨rfl, ⟨B3, 0, _, _, _, rfl, h2.at (i := 0) rfl, .inl ⟨Try.sc_22, rfl⟩⟩, True.intro⟩, by
     have e1 := gatE_no (d := d) (p := p) he
     unfold sidesV; rw [if_neg e1.2, e1.1]; rfl, (hh.turn (i := 1) rfl h2.ext (h2.at (i := 0) rfl)).ext⟩
end Go.Proofs.Ytidieepndphodaa
namespace Go.Proofs.Ytidieepndphodaa
open Go Go.Sy Go.MatM
def unF (a b : Nat) : Nat → Nat
  | 0 => 0
  | 1 => a
  | _ => a ||| b
theorem unF_le {a b i : Nat} (ha : a < 65536) (hb : b < 65536) : unF a b i < 65536 := by
  have := Nat.or_lt_two_pow (n := 16) ha hb
  unfold unF; split <;> omega
theorem p121 (s t B : Nat) (u : World) (ha : s < 65536) (hb : t < 65536) (hc : u.heap[B]? = some (.cells #[.int .u64 (s : Nat), .int .u64 (t : Nat)] 71 (0, 0))) : Calls Try.prog 121 #[.slice (some ⟨B, 0, none⟩) 2 2] u (Ret fun v w' => v = .int .u64 ((s ||| t : Nat) : Int) ∧ Ext [] u w') := by
  refine calls_of Try.func121 rfl rfl (fun a hf => ?_)
  have hh := Hp.init u []
  refine sy_sq ?_
  refine o_v hf hh (yv_assign rfl) ?_; clear hf a; intro a hf
  refine o_end ?_
  refine sy_seq ?_
  refine sy_sq ?_
  refine o_v hf hh (yv_move rfl) ?_; clear hf a; intro a hf
  refine o_v hf hh (yv_len Try.se_178 rfl) ?_; clear hf a; intro a hf
  refine o_v hf hh (yv_move rfl) ?_; clear hf a; intro a hf
  refine o_end ?_
  refine sy_block ?_
  refine sy_loopH (σ := Nat) [2, 4, 7, 8, 9, 10, 11, 12, 13, 14] (fun i => [(7, .int .i64 (i : Nat)), (2, .int .u64 (unF s t i : Nat))]) (fun i => fun w' => i ≤ 2 ∧ Hp u [] [] w') (fun i => 2 - i) (0) hf ?_ ?_ ?_
  · repeat' (first | exact True.intro | refine And.intro rfl ?_)
  · exact ⟨Nat.zero_le _, hh⟩
  ·rintro i a w ⟨hi, hh⟩ hf
   have hul := unF_le (i := i) ha hb
   have hul2 := unF_le (i := i + 1) ha hb
   refine sy_sq ?_
   refine o_v hf hh (yv_bin rfl rfl rfl) ?_; clear hf a; intro a hf
   refine o_end ?_
   refine sy_seq ?_
   refine sy_cond hf rfl (fun hg2 => ?_) (fun hg2 => ?_)
   ·have hG2 := hg2; try simp only [gS] at hG2
    refine sy_skip ?_
    refine then_n ?_
    refine sy_seq ?_
    refine sy_block ?_
    refine sy_seq ?_
    obtain ⟨z, hz, hz2, hz3⟩ : ∃ z : Nat, #[Value.int .u64 (s : Nat), .int .u64 (t : Nat)][0 + ((i : Nat) : Int).toNat * 1]? = some (.int .u64 (z : Nat)) ∧ z < 65536 ∧ unF s t i ||| z = unF s t (i + 1) := by
      rcases (show i = 0 ∨ i = 1 by omega) with rfl | rfl
      · exact ⟨s, rfl, ha, by simp [unF]⟩
      · exact ⟨t, rfl, hb, rfl⟩
    refine sy_ops ?_
    refine o_v hf hh (y_ix Try.se_178 rfl rfl) ?_; clear hf a; intro a hf
    refine o_v hf hh (y_ld Try.sc_71 rfl) ?_; clear hf a; intro a hf
    refine o_v hf hh (yv_assign rfl) ?_; clear hf a; intro a hf
    refine o_end ?_
    refine sy_ops ?_
    refine o_v hf hh (yv_move rfl) ?_; clear hf a; intro a hf
    refine o_v hf hh (yv_move rfl) ?_; clear hf a; intro a hf
    refine o_v hf hh (yv_cast (yv_or (.inr rfl) rfl rfl (by omega) (by simp only [IntKind.top]; omega) (by omega) (by simp only [IntKind.top]; omega)) (intv (b := ((unF s t (i + 1) : Nat) : Int)) (by rw [← hz3, Int.toNat_natCast, Int.toNat_natCast]))) ?_; clear hf a; intro a hf
    refine o_v hf hh (yv_assign rfl) ?_; clear hf a; intro a hf
    refine ops_end ?_
    refine blk_n ?_
    refine then_n ?_
    refine sy_ops ?_
    refine o_v hf hh (y_add rfl rfl) ?_; clear hf a; intro a hf
    refine o_v hf hh (yv_move rfl) ?_; clear hf a; intro a hf
    refine ops_end ?_
    refine then_n ?_
    exact ⟨i + 1, ⟨⟨by omega, hh⟩, (hf.head (by repeat' (first | exact True.intro | refine And.intro rfl ?_)) (Keep.cons rfl (Keep.cons rfl (Keep.cons rfl (Keep.cons rfl (Keep.cons rfl (Keep.cons rfl (Keep.cons rfl (Keep.cons rfl (Keep.cons rfl (Keep.cons rfl (Keep.app rfl (Keep.rm rfl Keep.base)))))))))))))⟩, by omega⟩
   ·have hG2 := hg2; try simp only [gS] at hG2
    refine sy_exit ?_
    refine then_e ?_
    refine then_e ?_
    refine blk_e ?_
    refine then_n ?_
    refine sy_sq ?_
    refine o_v hf hh (yv_move rfl) ?_; clear hf a; intro a hf
    refine o_v hf hh (yv_assign rfl) ?_; clear hf a; intro a hf
    refine o_end ?_
    refine sy_ret ?_
    refine ret_r hf rfl rfl ?_
    obtain rfl : i = 2 := by omega
    exact ⟨rfl, hh.ext⟩
end Go.Proofs.Ytidieepndphodaa
namespace Go.MatM
open Go Go.Sy Go.Proofs Go.RowKit
/-- How many sets; what lies in any of them; what lies in each. -/
structure Jn where
  n : Nat
  o : Nat × Nat
  a : Nat × Nat
def Jn.zero : Jn := ⟨0, (0, 0), (0, 0)⟩
def Jn.add (j : Jn) (x : Nat × Nat) : Jn := ⟨j.n + 1, (j.o.1 ||| x.1, j.o.2 ||| x.2), if j.n = 0 then x else (j.a.1 &&& x.1, j.a.2 &&& x.2)⟩
def joinL (l : List (Nat × Nat)) : Jn := l.foldl Jn.add Jn.zero
theorem joinL_snoc (l : List (Nat × Nat)) (x : Nat × Nat) : joinL (l ++ [x]) = (joinL l).add x := by simp [joinL]
abbrev Jn.cells (j : Jn) : Array Value := #[.int .i64 (j.n : Nat), .int .u64 (j.o.1 : Nat), .int .u64 (j.o.2 : Nat), .int .u64 (j.a.1 : Nat), .int .u64 (j.a.2 : Nat)]
/-- In the midst of an addition. -/
def Jn.mid (j : Jn) (x : Nat × Nat) (i : Nat) : Jn :=
  let b := if j.n = 0 then x else j.a
  match i with
  | 0 => ⟨j.n + 1, j.o, b⟩
  | 1 => ⟨j.n + 1, (j.o.1 ||| x.1, j.o.2), (b.1 &&& x.1, b.2)⟩
  | _ => ⟨j.n + 1, (j.o.1 ||| x.1, j.o.2 ||| x.2), (b.1 &&& x.1, b.2 &&& x.2)⟩
theorem Jn.mid_end (j : Jn) (x : Nat × Nat) : j.mid x 2 = j.add x := by
  unfold mid add
  by_cases h : j.n = 0
  · simp [h]
  · simp [h]
theorem Jn.mid0p {j : Jn} {x : Nat × Nat} (h : j.n = 0) : j.mid x 0 = ⟨j.n + 1, j.o, x⟩ := by unfold Jn.mid; dsimp only; rw [if_pos h]; rfl
theorem Jn.mid0n {j : Jn} {x : Nat × Nat} (h : ¬ j.n = 0) : j.mid x 0 = ⟨j.n + 1, j.o, j.a⟩ := by unfold Jn.mid; dsimp only; rw [if_neg h]; rfl
def xAt (x : Nat × Nat) (i : Nat) : Nat := if i = 0 then x.1 else x.2
def oAt (j : Jn) (i : Nat) : Nat := if i = 0 then j.o.1 else j.o.2
def aAt (j : Jn) (i : Nat) : Nat := if i = 0 then j.a.1 else j.a.2
structure Jn.Ok (j : Jn) : Prop where
  o1 : j.o.1 < 65536
  o2 : j.o.2 < 65536
  a1 : j.a.1 < 65536
  a2 : j.a.2 < 65536
theorem and_lt16 {s t : Nat} (h : s < 65536) : s &&& t < 65536 := Nat.lt_of_le_of_lt Nat.and_le_left h
theorem or_lt16 {s t : Nat} (h1 : s < 65536) (h2 : t < 65536) : s ||| t < 65536 := Nat.or_lt_two_pow (n := 16) h1 h2
theorem Jn.Ok.mid {j : Jn} (h : j.Ok) {x : Nat × Nat} (h1 : x.1 < 65536) (h2 : x.2 < 65536) (i : Nat) : (j.mid x i).Ok := by
  have b1 : (if j.n = 0 then x else j.a).1 < 65536 := by split; exact h1; exact h.a1
  have b2 : (if j.n = 0 then x else j.a).2 < 65536 := by split; exact h2; exact h.a2
  unfold Jn.mid
  dsimp only
  split
  · exact ⟨h.o1, h.o2, b1, b2⟩
  · exact ⟨or_lt16 h.o1 h1, h.o2, and_lt16 b1, b2⟩
  · exact ⟨or_lt16 h.o1 h1, or_lt16 h.o2 h2, and_lt16 b1, and_lt16 b2⟩
theorem Jn.Ok.add {j : Jn} (h : j.Ok) {x : Nat × Nat} (h1 : x.1 < 65536) (h2 : x.2 < 65536) : (j.add x).Ok := j.mid_end x ▸ h.mid h1 h2 2
theorem Jn.mid_n (j : Jn) (x : Nat × Nat) (i : Nat) : (j.mid x i).n = j.n + 1 := by unfold Jn.mid; dsimp only; split <;> rfl
theorem Jn.add_n (j : Jn) (x : Nat × Nat) : (j.add x).n = j.n + 1 := rfl
/-- In the midst of a step. -/
def Jn.half (j : Jn) (x : Nat × Nat) (i : Nat) : Jn :=
  let b := if j.n = 0 then x else j.a
  if i = 0 then ⟨j.n + 1, (j.o.1 ||| x.1, j.o.2), b⟩ else ⟨j.n + 1, (j.o.1 ||| x.1, j.o.2 ||| x.2), (b.1 &&& x.1, b.2)⟩
theorem mid_o {j : Jn} {x : Nat × Nat} {i : Nat} (hi : i < 2) : (j.mid x i).cells[0 + 1 + ((i : Nat) : Int).toNat * 1]? = some (.int .u64 (oAt j i : Nat)) := by
  rcases (show i = 0 ∨ i = 1 by omega) with rfl | rfl <;> rfl
theorem half_a {j : Jn} {x : Nat × Nat} {i : Nat} (hi : i < 2) : (j.half x i).cells[0 + 3 + ((i : Nat) : Int).toNat * 1]? = some (.int .u64 (aAt ⟨0, (0, 0), if j.n = 0 then x else j.a⟩ i : Nat)) := by
  rcases (show i = 0 ∨ i = 1 by omega) with rfl | rfl <;> rfl
theorem mid_half {j : Jn} {x : Nat × Nat} {i : Nat} (hi : i < 2) : spl (j.mid x i).cells (0 + 1 + ((i : Nat) : Int).toNat * 1) [.int .u64 ((oAt j i ||| xAt x i : Nat) : Int)] = (j.half x i).cells := by
  rcases (show i = 0 ∨ i = 1 by omega) with rfl | rfl <;> rfl
theorem half_mid {j : Jn} {x : Nat × Nat} {i : Nat} (hi : i < 2) : spl (j.half x i).cells (0 + 3 + ((i : Nat) : Int).toNat * 1) [.int .u64 ((aAt ⟨0, (0, 0), if j.n = 0 then x else j.a⟩ i &&& xAt x i : Nat) : Int)] = (j.mid x (i + 1)).cells := by
  rcases (show i = 0 ∨ i = 1 by omega) with rfl | rfl <;> rfl
def joinV (d : RowsD) (p : Int) : Jn := if gatE d p = 0 then joinL (casesL d p) else Jn.zero
theorem joinL_n (l : List (Nat × Nat)) : (joinL l).n = l.length := by
  have : ∀ (l : List (Nat × Nat)) (j : Jn), (l.foldl Jn.add j).n = j.n + l.length := by
    intro l
    induction l with
    | nil => intro j; rfl
    | cons x l ih => intro j; rw [List.foldl_cons, ih, Jn.add_n, List.length_cons]; omega
  rw [joinL, this]; simp [Jn.zero]
theorem rowL_lt {d : RowsD} {p : Int} {i : Nat} {x : Nat × Nat} (hL : lenR d i ≤ 10) (h : x ∈ rowL d p i (restS (lenR d i) p 1)) : x.1 < 65536 ∧ x.2 < 65536 := by
  unfold rowL at h
  rw [List.mem_filter] at h
  obtain ⟨s, hs, rfl⟩ := List.mem_map.1 h.1
  obtain ⟨k, hk⟩ := List.mem_iff_getElem?.1 hs
  have := restS_lt hk
  have := pow_le_10 hL
  unfold setX
  split <;> constructor <;> simp only <;> omega
theorem casesL_lt {d : RowsD} {p : Int} (hV : Valid d) {x : Nat × Nat} (h : x ∈ casesL d p) : x.1 < 65536 ∧ x.2 < 65536 := by
  have e : restI d p 0 = rowL d p 0 (restS (lenR d 0) p 1) ++ rowL d p 1 (restS (lenR d 1) p 1) := rfl
  unfold casesL at h
  rw [e, List.mem_append, List.mem_append] at h
  rcases h with h | h | h
  · have := List.mem_singleton.1 (List.mem_filter.1 h).1
    rw [this]; exact ⟨by decide, by decide⟩
  · exact rowL_lt (show lenR d 0 ≤ 10 from hV.nl) h
  · exact rowL_lt (show lenR d 1 ≤ 10 from hV.nr) h
theorem joinL_ok {l : List (Nat × Nat)} (h : ∀ x ∈ l, x.1 < 65536 ∧ x.2 < 65536) : (joinL l).Ok := by
  have : ∀ (l : List (Nat × Nat)) (j : Jn), j.Ok → (∀ x ∈ l, x.1 < 65536 ∧ x.2 < 65536) → (l.foldl Jn.add j).Ok := by
    intro l
    induction l with
    | nil => intro j hj _; exact hj
    | cons x l ih => intro j hj h; exact ih _ (hj.add (h x (by simp)).1 (h x (by simp)).2) fun y hy => h y (by simp [hy])
  exact this l _ ⟨by decide, by decide, by decide, by decide⟩ h
theorem joinT_ok {d : RowsD} {p : Int} (hV : Valid d) (k : Nat) : (joinL ((casesL d p).take k)).Ok := joinL_ok fun x hx => casesL_lt hV (List.mem_of_mem_take hx)
end Go.MatM
namespace Go.Proofs.Ytidieepndphodaa
open Go Go.Sy Go.MatM
theorem p44j (Bk : Nat) (n : Nat) (v1 v2 v3 v4 : Value) (x : Nat × Nat) (u : World) (hn : n ≤ 100000) (hb : u.heap[Bk]? = some (.cells #[.int .i64 (n : Nat), v1, v2, v3, v4] 89 (0, 0))) : Calls Try.prog 44 #[ptr Bk 0, enc2 x] u (Ret fun v w' => Hp u [Bk] [(Bk, .cells #[.int .i64 ((n + 1 : Nat) : Int), v1, v2, v3, v4] 89)] w') := by
  refine calls_of Try.func44 rfl rfl (fun a hf => ?_)
  have hh := Hp.init1 hb
  refine sy_sq ?_
  refine o_box hf hh ?_; clear hf hh a; intro B3 a w hf hh
  refine o_end ?_
  refine sy_ops ?_
  refine o_v hf hh (yv_move rfl) ?_; clear hf a; intro a hf
  refine o_v hf hh (yv_nilCheck rfl) ?_; clear hf a; intro a hf
  refine o_v hf hh (yv_fieldAddr Try.fo_76_0 rfl) ?_; clear hf a; intro a hf
  refine o_v hf hh (y_ld Try.sc_3 rfl) ?_; clear hf a; intro a hf
  refine ops_v hf hh (yv_cast (yv_add rfl rfl (by omega) (by omega)) (intv (b := ((n + 1 : Nat) : Int)) (by omega))) (.inl rfl) rfl rfl rfl ?_; clear hf a; intro a hf
  refine o_v hf hh (yv_nilCheck rfl) ?_; clear hf a; intro a hf
  refine o_v hf hh (yv_fieldAddr Try.fo_76_0 rfl) ?_; clear hf a; intro a hf
  refine o_store hf hh Try.sz_3 fun w hh => ?_
  refine ops_end ?_
  refine ret_n hf rfl rfl ?_
  exact hh.less (.cons _ (.refl _))
theorem p44f (Bk : Nat) (n : Nat) (v1 v2 : Value) (x : Nat × Nat) (u : World) (hn : n ≤ 100000) (hb : u.heap[Bk]? = some (.cells #[.int .i64 (n : Nat), v1, v2] 86 (0, 0))) : Calls Try.prog 44 #[ptr Bk 0, enc2 x] u (Ret fun v w' => Hp u [Bk] [(Bk, .cells #[.int .i64 ((n + 1 : Nat) : Int), v1, v2] 86)] w') := by
  refine calls_of Try.func44 rfl rfl (fun a hf => ?_)
  have hh := Hp.init1 hb
  refine sy_sq ?_
  refine o_box hf hh ?_; clear hf hh a; intro B3 a w hf hh
  refine o_end ?_
  refine sy_ops ?_
  refine o_v hf hh (yv_move rfl) ?_; clear hf a; intro a hf
  refine o_v hf hh (yv_nilCheck rfl) ?_; clear hf a; intro a hf
  refine o_v hf hh (yv_fieldAddr Try.fo_76_0 rfl) ?_; clear hf a; intro a hf
  refine o_v hf hh (y_ld Try.sc_3 rfl) ?_; clear hf a; intro a hf
  refine ops_v hf hh (yv_cast (yv_add rfl rfl (by omega) (by omega)) (intv (b := ((n + 1 : Nat) : Int)) (by omega))) (.inl rfl) rfl rfl rfl ?_; clear hf a; intro a hf
  refine o_v hf hh (yv_nilCheck rfl) ?_; clear hf a; intro a hf
  refine o_v hf hh (yv_fieldAddr Try.fo_76_0 rfl) ?_; clear hf a; intro a hf
  refine o_store hf hh Try.sz_3 fun w hh => ?_
  refine ops_end ?_
  refine ret_n hf rfl rfl ?_
  exact hh.less (.cons _ (.refl _))
set_option maxRecDepth 100000 in
theorem p123 (j : Jn) (x : Nat × Nat) (Ba : Nat) (u : World) (hn : j.n ≤ 100000) (hj : j.Ok) (hx1 : x.1 < 65536) (hx2 : x.2 < 65536) (hb : u.heap[Ba]? = some (.cells j.cells 89 (0, 0))) : Calls Try.prog 123 #[ptr Ba 0, enc2 x] u (Ret fun _ w' => Hp u [Ba] [(Ba, .cells (j.add x).cells 89)] w') := by
  refine calls_of Try.func123 rfl rfl (fun a hf => ?_)
  have hh := Hp.init1 hb
  refine sy_sq ?_
  refine o_box hf hh ?_; clear hf hh a; intro B3 a w hf hh
  refine o_end ?_
  refine sy_seq ?_
  refine sy_tail (C := Hp _ _ _) 4 Try.follows (by kernel_rfl) rfl rfl (hh.drawn _) ?_
  refine oq_v hf (yv_move rfl) ?_; clear hf a; intro a hf
  refine oq_v hf (yv_nilCheck rfl) ?_; clear hf a; intro a hf
  refine oq_v hf (yv_fieldAddr Try.fo_89_0 rfl) ?_; clear hf a; intro a hf
  refine oq_v hf (y_lds Try.ag_73 rfl) ?_; clear hf a; intro a hf
  refine q_end fun w hh => ?_
  refine o_call hf Try.en_44 rfl rfl rfl (p44j Ba j.n _ _ _ _ x _ hn (hh.at (i := 1) rfl)) ?_; clear hf a; intro v a w hR hf
  replace hh := hh.turn (i := 1) rfl hR.ext (hR.at (i := 0) rfl); clear hR
  refine o_end ?_
  refine sy_seq ?_
  refine sy_sq ?_
  refine o_v hf hh (yv_move rfl) ?_; clear hf a; intro a hf
  refine o_v hf hh (yv_nilCheck rfl) ?_; clear hf a; intro a hf
  refine o_v hf hh (yv_fieldAddr Try.fo_89_0 rfl) ?_; clear hf a; intro a hf
  refine o_v hf hh (yv_fieldAddr Try.fo_76_0 rfl) ?_; clear hf a; intro a hf
  refine o_v hf hh (y_ld Try.sc_3 rfl) ?_; clear hf a; intro a hf
  refine o_v hf hh (yv_bin rfl rfl rfl) ?_; clear hf a; intro a hf
  refine o_end ?_
  refine sy_cond hf rfl (fun hg3 => ?_) (fun hg3 => ?_)
  ·have hG3 := hg3; try simp only [gS] at hG3
   refine sy_ops ?_
   refine o_v hf hh (yv_move rfl) ?_; clear hf a; intro a hf
   refine o_v hf hh (y_lds Try.ag_73 rfl) ?_; clear hf a; intro a hf
   refine o_v hf hh (yv_nilCheck rfl) ?_; clear hf a; intro a hf
   refine o_v hf hh (yv_fieldAddr Try.fo_89_2 rfl) ?_; clear hf a; intro a hf
   refine o_store hf hh Try.sz_73 fun w hh => ?_
   refine o_end ?_
   refine sy_sq ?_
   refine o_v hf hh (y_lds Try.ag_73 rfl) ?_; clear hf a; intro a hf
   refine o_v hf hh (yv_move rfl) ?_; clear hf a; intro a hf
   refine o_end ?_
   refine sy_block ?_
   refine sy_loopH (σ := Nat) [4, 5, 22, 23, 24, 25, 26, 27, 28, 29, 30, 31, 32, 33, 34, 35, 36, 37, 38, 39, 40, 41, 42, 43, 44, 45, 46, 47, 48, 49, 50, 51] (fun i => [(22, .int .i64 (i : Nat))]) (fun i => fun w' => i ≤ 2 ∧ Hp u [Ba] [(Ba, .cells (j.mid x i).cells 89)] w') (fun i => 2 - i) (0) hf ?_ ?_ ?_
   · repeat' (first | exact True.intro | refine And.intro rfl ?_)
   · first
     | (have h0 : j.n = 0 := by omega
        rw [Jn.mid0p h0]
        exact ⟨Nat.zero_le _, hh.less (.cons _ (.refl _))⟩)
     | (have h0 : ¬ j.n = 0 := by omega
        rw [Jn.mid0n h0]
        exact ⟨Nat.zero_le _, hh.less (.cons _ (.refl _))⟩)
   ·rintro i a w ⟨hi, hh⟩ hf
    refine sy_sq ?_
    refine o_v hf hh (yv_bin rfl rfl rfl) ?_; clear hf a; intro a hf
    refine o_end ?_
    refine sy_seq ?_
    refine sy_cond hf rfl (fun hg5 => ?_) (fun hg5 => ?_)
    ·have hG5 := hg5; try simp only [gS] at hG5
     refine sy_skip ?_
     refine then_n ?_
     refine sy_seq ?_
     refine sy_block ?_
     refine sy_seq ?_
     have hxi : #[Value.int .u64 (x.1 : Nat), Value.int .u64 (x.2 : Nat)][((i : Nat) : Int).toNat * 1]? = some (.int .u64 (xAt x i : Nat)) := by rcases (show i = 0 ∨ i = 1 by omega) with rfl | rfl <;> rfl
     refine sy_ops ?_
     refine o_v hf hh (yv_move rfl) ?_; clear hf a; intro a hf
     refine o_v hf hh (yv_idxS Try.ae_73 Try.sc_71 rfl rfl hxi) ?_; clear hf a; intro a hf
     refine o_v hf hh (yv_assign rfl) ?_; clear hf a; intro a hf
     refine o_v hf hh (yv_assign rfl) ?_; clear hf a; intro a hf
     refine o_end ?_
     refine sy_seq ?_
     have hov := mid_o (j := j) (x := x) (show i < 2 by omega)
     refine sy_tree1 (.p 0 (.p 1 (.p 2 (.p 3 (.p 4 (.p 5 (.p 6 (.q 0 7 (.p 8 (.p 11 (.p 12 (.e1 9 (.e1 10 (.p 13 (.e1 14 (.fin)))))))))))))))) [14] Try.follows (by kernel_rfl) hh (fun w hh => ?_)
     refine mc_p rfl   hf (yv_move rfl) (.inl rfl) rfl rfl ?_; clear hf a; intro a hf
     refine mc_p rfl   hf (yv_move rfl) (.inl rfl) rfl rfl ?_; clear hf a; intro a hf
     refine mc_p rfl   hf (yv_move rfl) (.inl rfl) rfl rfl ?_; clear hf a; intro a hf
     refine mc_p rfl   hf (yv_move rfl) (.inl rfl) rfl rfl ?_; clear hf a; intro a hf
     refine mc_p rfl   hf (yv_nilCheck rfl) (.inl rfl) rfl rfl ?_; clear hf a; intro a hf
     refine mc_p rfl   hf (yv_fieldAddr Try.fo_89_1 rfl) (.inl rfl) rfl rfl ?_; clear hf a; intro a hf
     refine mc_p rfl   hf (y_ia Try.ae_73 rfl rfl) (.inl rfl) rfl rfl ?_; clear hf a; intro a hf
     refine mc_q rfl rfl hh hf (y_ld Try.sc_71 rfl) (.inl rfl) rfl rfl ?_; clear hf a; intro a hf
     refine mc_p rfl   hf (yv_move rfl) (.inl rfl) rfl rfl ?_; clear hf a; intro a hf
     refine mc_p rfl   hf (yv_nilCheck rfl) (.inl rfl) rfl rfl ?_; clear hf a; intro a hf
     refine mc_p rfl   hf (yv_fieldAddr Try.fo_89_1 rfl) (.inl rfl) rfl rfl ?_; clear hf a; intro a hf
     refine mc_e rfl fun Q1 => ?_
     refine ops_buildSl hf hh Try.bl_178_2 rfl rfl (.inl rfl) rfl ?_; clear hf hh; clear a; intro B35 a w hf hh
     refine ops_end ?_
     refine then_n ⟨⟨fun _ _ => (hh.less (.cons _ (List.Sublist.refl _))), trivial⟩, ?_⟩
     refine mc_e rfl fun Q1 => ?_
     refine o_call hf Try.en_121 rfl rfl rfl (p121 (oAt j i) (xAt x i) B35 _ (by unfold oAt; split; exact hj.o1; exact hj.o2) (by unfold xAt; split; exact hx1; exact hx2) (hh.at (i := 0) rfl)) ?_; clear hf a; intro v a w hR hf
     obtain ⟨rfl, hx⟩ := hR; replace hh := hh.more hx; clear hx
     refine ops_end ?_
     refine then_n ⟨⟨fun _ _ => (hh.less (.cons _ (List.Sublist.refl _))), trivial⟩, ?_⟩
     refine mc_p rfl   hf (y_ia Try.ae_73 rfl rfl) (.inl rfl) rfl rfl ?_; clear hf a; intro a hf
     refine mc_e rfl fun Q1 => ?_
     refine o_store (i := 1) hf hh Try.sz_71 (hx := rfl) (hi := atI (i := 1) rfl) (hy := rfl) (hl := Nat.ble_eq_true_of_le (by rw [Int.toNat_natCast]; show _ ≤ 5; omega)) fun w hh => ?_
     replace hh := Hp.headEq (hh.less (.cons _ (.refl _))) (mid_half (j := j) (x := x) (show i < 2 by omega))
     refine ops_end ?_
     refine then_n ⟨⟨fun h => Bool.noConfusion (show true = false from h), trivial⟩, ?_⟩
     refine mc_end ?_
     refine then_n ?_
     have hav := half_a (j := j) (x := x) (show i < 2 by omega)
     have hba : aAt ⟨0, (0, 0), if j.n = 0 then x else j.a⟩ i < 65536 := by unfold aAt; dsimp only; split <;> split; exact hx1; exact hj.a1; exact hx2; exact hj.a2
     have hxa : xAt x i < 65536 := by unfold xAt; split; exact hx1; exact hx2
     refine sy_tree1 (.p 0 (.p 1 (.p 2 (.p 3 (.p 4 (.q 0 5 (.p 6 (.p 7 (.p 8 (.p 9 (.p 10 (.e1 11 (.fin))))))))))))) [11] Try.follows (by kernel_rfl) hh (fun w hh => ?_)
     refine mc_p rfl   hf (yv_move rfl) (.inl rfl) rfl rfl ?_; clear hf a; intro a hf
     refine mc_p rfl   hf (yv_move rfl) (.inl rfl) rfl rfl ?_; clear hf a; intro a hf
     refine mc_p rfl   hf (yv_nilCheck rfl) (.inl rfl) rfl rfl ?_; clear hf a; intro a hf
     refine mc_p rfl   hf (yv_fieldAddr Try.fo_89_2 rfl) (.inl rfl) rfl rfl ?_; clear hf a; intro a hf
     refine mc_p rfl   hf (y_ia Try.ae_73 rfl rfl) (.inl rfl) rfl rfl ?_; clear hf a; intro a hf
     refine mc_q rfl rfl hh hf (y_ld Try.sc_71 rfl) (.inl rfl) rfl rfl ?_; clear hf a; intro a hf
     refine mc_p rfl   hf (yv_move rfl) (.inl rfl) rfl rfl ?_; clear hf a; intro a hf
     refine mc_p rfl   hf (yv_cast (yv_and (.inr rfl) rfl rfl (by omega) (by simp only [IntKind.top]; omega) (by omega) (by simp only [IntKind.top]; omega)) (intv (b := ((aAt ⟨0, (0, 0), if j.n = 0 then x else j.a⟩ i &&& xAt x i : Nat) : Int)) (by rw [Int.toNat_natCast, Int.toNat_natCast]))) (.inl rfl) rfl rfl ?_; clear hf a; intro a hf
     refine mc_p rfl   hf (yv_nilCheck rfl) (.inl rfl) rfl rfl ?_; clear hf a; intro a hf
     refine mc_p rfl   hf (yv_fieldAddr Try.fo_89_2 rfl) (.inl rfl) rfl rfl ?_; clear hf a; intro a hf
     refine mc_p rfl   hf (y_ia Try.ae_73 rfl rfl) (.inl rfl) rfl rfl ?_; clear hf a; intro a hf
     refine mc_e rfl fun Q1 => ?_
     refine o_store (i := 0) hf hh Try.sz_71 (hx := rfl) (hi := atI (i := 0) rfl) (hy := rfl) (hl := Nat.ble_eq_true_of_le (by rw [Int.toNat_natCast]; show _ ≤ 5; omega)) fun w hh => ?_
     replace hh := Hp.headEq hh (half_mid (j := j) (x := x) (show i < 2 by omega))
     refine ops_end ?_
     refine then_n ⟨⟨fun h => Bool.noConfusion (show true = false from h), trivial⟩, ?_⟩
     refine mc_end ?_
     refine blk_n ?_
     refine then_n ?_
     refine sy_ops ?_
     refine o_v hf hh (y_add rfl rfl) ?_; clear hf a; intro a hf
     refine o_v hf hh (yv_move rfl) ?_; clear hf a; intro a hf
     refine ops_end ?_
     refine then_n ?_
     exact ⟨i + 1, ⟨⟨by omega, hh⟩, (hf.head (by repeat' (first | exact True.intro | refine And.intro rfl ?_)) (Keep.cons rfl (Keep.cons rfl (Keep.cons rfl (Keep.cons rfl (Keep.cons rfl (Keep.cons rfl (Keep.cons rfl (Keep.cons rfl (Keep.cons rfl (Keep.cons rfl (Keep.cons rfl (Keep.cons rfl (Keep.cons rfl (Keep.cons rfl (Keep.cons rfl (Keep.cons rfl (Keep.cons rfl (Keep.cons rfl (Keep.cons rfl (Keep.cons rfl (Keep.cons rfl (Keep.cons rfl (Keep.cons rfl (Keep.cons rfl (Keep.cons rfl (Keep.cons rfl (Keep.cons rfl (Keep.cons rfl (Keep.cons rfl (Keep.cons rfl (Keep.cons rfl (Keep.cons rfl (Keep.app rfl (Keep.rm rfl Keep.base)))))))))))))))))))))))))))))))))))⟩, by omega⟩
    ·have hG5 := hg5; try simp only [gS] at hG5
     refine sy_exit ?_
     refine then_e ?_
     refine then_e ?_
     refine blk_e ?_
     refine ret_n hf rfl rfl ?_
     obtain rfl : i = 2 := by omega
     rw [j.mid_end x] at hh
     exact hh
  ·have hG3 := hg3; try simp only [gS] at hG3
   refine sy_skip ?_
   refine then_n ?_
   refine sy_sq ?_
   refine o_v hf hh (y_lds Try.ag_73 rfl) ?_; clear hf a; intro a hf
   refine o_v hf hh (yv_move rfl) ?_; clear hf a; intro a hf
   refine o_end ?_
   refine sy_block ?_
   refine sy_loopH (σ := Nat) [4, 5, 22, 23, 24, 25, 26, 27, 28, 29, 30, 31, 32, 33, 34, 35, 36, 37, 38, 39, 40, 41, 42, 43, 44, 45, 46, 47, 48, 49, 50, 51] (fun i => [(22, .int .i64 (i : Nat))]) (fun i => fun w' => i ≤ 2 ∧ Hp u [Ba] [(Ba, .cells (j.mid x i).cells 89)] w') (fun i => 2 - i) (0) hf ?_ ?_ ?_
   · repeat' (first | exact True.intro | refine And.intro rfl ?_)
   · first
     | (have h0 : j.n = 0 := by omega
        rw [Jn.mid0p h0]
        exact ⟨Nat.zero_le _, hh.less (.cons _ (.refl _))⟩)
     | (have h0 : ¬ j.n = 0 := by omega
        rw [Jn.mid0n h0]
        exact ⟨Nat.zero_le _, hh.less (.cons _ (.refl _))⟩)
   ·rintro i a w ⟨hi, hh⟩ hf
    refine sy_sq ?_
    refine o_v hf hh (yv_bin rfl rfl rfl) ?_; clear hf a; intro a hf
    refine o_end ?_
    refine sy_seq ?_
    refine sy_cond hf rfl (fun hg10 => ?_) (fun hg10 => ?_)
    ·have hG10 := hg10; try simp only [gS] at hG10
     refine sy_skip ?_
     refine then_n ?_
     refine sy_seq ?_
     refine sy_block ?_
     refine sy_seq ?_
     have hxi : #[Value.int .u64 (x.1 : Nat), Value.int .u64 (x.2 : Nat)][((i : Nat) : Int).toNat * 1]? = some (.int .u64 (xAt x i : Nat)) := by rcases (show i = 0 ∨ i = 1 by omega) with rfl | rfl <;> rfl
     refine sy_ops ?_
     refine o_v hf hh (yv_move rfl) ?_; clear hf a; intro a hf
     refine o_v hf hh (yv_idxS Try.ae_73 Try.sc_71 rfl rfl hxi) ?_; clear hf a; intro a hf
     refine o_v hf hh (yv_assign rfl) ?_; clear hf a; intro a hf
     refine o_v hf hh (yv_assign rfl) ?_; clear hf a; intro a hf
     refine o_end ?_
     refine sy_seq ?_
     have hov := mid_o (j := j) (x := x) (show i < 2 by omega)
     refine sy_tree1 (.p 0 (.p 1 (.p 2 (.p 3 (.p 4 (.p 5 (.p 6 (.q 0 7 (.p 8 (.p 11 (.p 12 (.e1 9 (.e1 10 (.p 13 (.e1 14 (.fin)))))))))))))))) [14] Try.follows (by kernel_rfl) hh (fun w hh => ?_)
     refine mc_p rfl   hf (yv_move rfl) (.inl rfl) rfl rfl ?_; clear hf a; intro a hf
     refine mc_p rfl   hf (yv_move rfl) (.inl rfl) rfl rfl ?_; clear hf a; intro a hf
     refine mc_p rfl   hf (yv_move rfl) (.inl rfl) rfl rfl ?_; clear hf a; intro a hf
     refine mc_p rfl   hf (yv_move rfl) (.inl rfl) rfl rfl ?_; clear hf a; intro a hf
     refine mc_p rfl   hf (yv_nilCheck rfl) (.inl rfl) rfl rfl ?_; clear hf a; intro a hf
     refine mc_p rfl   hf (yv_fieldAddr Try.fo_89_1 rfl) (.inl rfl) rfl rfl ?_; clear hf a; intro a hf
     refine mc_p rfl   hf (y_ia Try.ae_73 rfl rfl) (.inl rfl) rfl rfl ?_; clear hf a; intro a hf
     refine mc_q rfl rfl hh hf (y_ld Try.sc_71 rfl) (.inl rfl) rfl rfl ?_; clear hf a; intro a hf
     refine mc_p rfl   hf (yv_move rfl) (.inl rfl) rfl rfl ?_; clear hf a; intro a hf
     refine mc_p rfl   hf (yv_nilCheck rfl) (.inl rfl) rfl rfl ?_; clear hf a; intro a hf
     refine mc_p rfl   hf (yv_fieldAddr Try.fo_89_1 rfl) (.inl rfl) rfl rfl ?_; clear hf a; intro a hf
     refine mc_e rfl fun Q1 => ?_
     refine ops_buildSl hf hh Try.bl_178_2 rfl rfl (.inl rfl) rfl ?_; clear hf hh; clear a; intro B35 a w hf hh
     refine ops_end ?_
     refine then_n ⟨⟨fun _ _ => (hh.less (.cons _ (List.Sublist.refl _))), trivial⟩, ?_⟩
     refine mc_e rfl fun Q1 => ?_
     refine o_call hf Try.en_121 rfl rfl rfl (p121 (oAt j i) (xAt x i) B35 _ (by unfold oAt; split; exact hj.o1; exact hj.o2) (by unfold xAt; split; exact hx1; exact hx2) (hh.at (i := 0) rfl)) ?_; clear hf a; intro v a w hR hf
     obtain ⟨rfl, hx⟩ := hR; replace hh := hh.more hx; clear hx
     refine ops_end ?_
     refine then_n ⟨⟨fun _ _ => (hh.less (.cons _ (List.Sublist.refl _))), trivial⟩, ?_⟩
     refine mc_p rfl   hf (y_ia Try.ae_73 rfl rfl) (.inl rfl) rfl rfl ?_; clear hf a; intro a hf
     refine mc_e rfl fun Q1 => ?_
     refine o_store (i := 1) hf hh Try.sz_71 (hx := rfl) (hi := atI (i := 1) rfl) (hy := rfl) (hl := Nat.ble_eq_true_of_le (by rw [Int.toNat_natCast]; show _ ≤ 5; omega)) fun w hh => ?_
     replace hh := Hp.headEq (hh.less (.cons _ (.refl _))) (mid_half (j := j) (x := x) (show i < 2 by omega))
     refine ops_end ?_
     refine then_n ⟨⟨fun h => Bool.noConfusion (show true = false from h), trivial⟩, ?_⟩
     refine mc_end ?_
     refine then_n ?_
     have hav := half_a (j := j) (x := x) (show i < 2 by omega)
     have hba : aAt ⟨0, (0, 0), if j.n = 0 then x else j.a⟩ i < 65536 := by unfold aAt; dsimp only; split <;> split; exact hx1; exact hj.a1; exact hx2; exact hj.a2
     have hxa : xAt x i < 65536 := by unfold xAt; split; exact hx1; exact hx2
     refine sy_tree1 (.p 0 (.p 1 (.p 2 (.p 3 (.p 4 (.q 0 5 (.p 6 (.p 7 (.p 8 (.p 9 (.p 10 (.e1 11 (.fin))))))))))))) [11] Try.follows (by kernel_rfl) hh (fun w hh => ?_)
     refine mc_p rfl   hf (yv_move rfl) (.inl rfl) rfl rfl ?_; clear hf a; intro a hf
     refine mc_p rfl   hf (yv_move rfl) (.inl rfl) rfl rfl ?_; clear hf a; intro a hf
     refine mc_p rfl   hf (yv_nilCheck rfl) (.inl rfl) rfl rfl ?_; clear hf a; intro a hf
     refine mc_p rfl   hf (yv_fieldAddr Try.fo_89_2 rfl) (.inl rfl) rfl rfl ?_; clear hf a; intro a hf
     refine mc_p rfl   hf (y_ia Try.ae_73 rfl rfl) (.inl rfl) rfl rfl ?_; clear hf a; intro a hf
     refine mc_q rfl rfl hh hf (y_ld Try.sc_71 rfl) (.inl rfl) rfl rfl ?_; clear hf a; intro a hf
     refine mc_p rfl   hf (yv_move rfl) (.inl rfl) rfl rfl ?_; clear hf a; intro a hf
     refine mc_p rfl   hf (yv_cast (yv_and (.inr rfl) rfl rfl (by omega) (by simp only [IntKind.top]; omega) (by omega) (by simp only [IntKind.top]; omega)) (intv (b := ((aAt ⟨0, (0, 0), if j.n = 0 then x else j.a⟩ i &&& xAt x i : Nat) : Int)) (by rw [Int.toNat_natCast, Int.toNat_natCast]))) (.inl rfl) rfl rfl ?_; clear hf a; intro a hf
     refine mc_p rfl   hf (yv_nilCheck rfl) (.inl rfl) rfl rfl ?_; clear hf a; intro a hf
     refine mc_p rfl   hf (yv_fieldAddr Try.fo_89_2 rfl) (.inl rfl) rfl rfl ?_; clear hf a; intro a hf
     refine mc_p rfl   hf (y_ia Try.ae_73 rfl rfl) (.inl rfl) rfl rfl ?_; clear hf a; intro a hf
     refine mc_e rfl fun Q1 => ?_
     refine o_store (i := 0) hf hh Try.sz_71 (hx := rfl) (hi := atI (i := 0) rfl) (hy := rfl) (hl := Nat.ble_eq_true_of_le (by rw [Int.toNat_natCast]; show _ ≤ 5; omega)) fun w hh => ?_
     replace hh := Hp.headEq hh (half_mid (j := j) (x := x) (show i < 2 by omega))
     refine ops_end ?_
     refine then_n ⟨⟨fun h => Bool.noConfusion (show true = false from h), trivial⟩, ?_⟩
     refine mc_end ?_
     refine blk_n ?_
     refine then_n ?_
     refine sy_ops ?_
     refine o_v hf hh (y_add rfl rfl) ?_; clear hf a; intro a hf
     refine o_v hf hh (yv_move rfl) ?_; clear hf a; intro a hf
     refine ops_end ?_
     refine then_n ?_
     exact ⟨i + 1, ⟨⟨by omega, hh⟩, (hf.head (by repeat' (first | exact True.intro | refine And.intro rfl ?_)) (Keep.cons rfl (Keep.cons rfl (Keep.cons rfl (Keep.cons rfl (Keep.cons rfl (Keep.cons rfl (Keep.cons rfl (Keep.cons rfl (Keep.cons rfl (Keep.cons rfl (Keep.cons rfl (Keep.cons rfl (Keep.cons rfl (Keep.cons rfl (Keep.cons rfl (Keep.cons rfl (Keep.cons rfl (Keep.cons rfl (Keep.cons rfl (Keep.cons rfl (Keep.cons rfl (Keep.cons rfl (Keep.cons rfl (Keep.cons rfl (Keep.cons rfl (Keep.cons rfl (Keep.cons rfl (Keep.cons rfl (Keep.cons rfl (Keep.cons rfl (Keep.cons rfl (Keep.cons rfl (Keep.app rfl (Keep.rm rfl Keep.base)))))))))))))))))))))))))))))))))))⟩, by omega⟩
    ·have hG10 := hg10; try simp only [gS] at hG10
     refine sy_exit ?_
     refine then_e ?_
     refine then_e ?_
     refine blk_e ?_
     refine ret_n hf rfl rfl ?_
     obtain rfl : i = 2 := by omega
     rw [j.mid_end x] at hh
     exact hh
end Go.Proofs.Ytidieepndphodaa
namespace Go.Proofs.Ytidieepndphodaa
open Go Go.Sy Go.MatM
theorem meth90 : methB Try.prog 90 "pairworks/paint.add" = some 123 := by kernel_rfl
theorem p20 (d : RowsD) (p : Int) (sa sb : Option Addr) (ca cb : Nat) (u : World) (hA : MkAt u sa d.l) (hB : MkAt u sb d.r) :
    Calls Try.prog 20 #[canV d p sa sb ca cb] u (Ret fun v w' => v = .tuple #[.int .i64 ((joinV d p).o.1 : Nat), .int .i64 ((joinV d p).o.2 : Nat), .int .i64 (gatE d p)] ∧ Ext [] u w') := by
  refine calls_ofM Try.func20 rfl rfl (fun a hf => ?_)
  have hh := Hp.init u []
  refine sy_sq ?_
  refine o_box hf hh ?_; clear hf hh a; intro B1 a w hf hh
  refine o_v hf hh (yv_assign rfl) ?_; clear hf a; intro a hf
  refine o_v hf hh (yv_assign rfl) ?_; clear hf a; intro a hf
  refine o_alloc hf hh Try.ze_22 ?_; clear hf hh a; intro B4 a w hf hh
  refine o_end ?_
  refine sy_sq ?_
  refine o_v hf hh (yv_makeFunc rfl rfl) ?_; clear hf a; intro a hf
  refine o_defer hf ?_; clear hf a; intro a hf
  refine o_end ?_
  refine sy_sq ?_
  refine o_alloc hf hh Try.ze_89 ?_; clear hf hh a; intro B5 a w hf hh
  refine o_end ?_
  refine sy_sq ?_
  refine o_v hf hh (y_lds Try.ag_31 rfl) ?_; clear hf a; intro a hf
  refine o_callX hf Try.en_35 rfl rfl rfl (p35 d p sa sb ca cb _ (hA.ext hh.ext) (hB.ext hh.ext) 42 _ true Try.en_42 (fun hok bm Bc w2 e hc => p42 (ptr Bc 0) w2)) ?_ ?_
  ·clear hf a; intro v a w hR hf
   obtain ⟨he, bm, Bc, rfl, hx⟩ := hR; replace hh := hh.join hx; clear hx
   obtain ⟨hok, hask⟩ := openE_zero.1 he
   obtain ⟨hV, hp0, hp3⟩ := okCan_valid hok
   have hlen := casesL_len (p := p) hV
   refine o_v hf hh (yv_makeIface (by kernel_rfl) rfl) ?_; clear hf a; intro a hf
   have hnd := hh.nodup
   have hNn : ∀ x ∈ [bm, B5], u.heap.size ≤ x := fun x hx => by
     simp only [List.mem_cons, List.not_mem_nil, or_false] at hx
     rcases hx with rfl | rfl
     · rcases hh.mine _ (.tail _ (.head _)) with h | h
       · exact h
       · cases h
     · rcases hh.mine _ (.tail _ (.tail _ (.head _))) with h | h
       · exact h
       · cases h
   have hne : B5 ≠ Bc := fun h => (List.nodup_cons.1 hnd).1 (h ▸ .tail _ (.head _))
   refine o_callX hf Try.en_46 rfl rfl rfl (p46 d p sa sb ca cb bm Bc B5 _ hV hp0 hp3 (hh.at (i := 0) rfl) (hh.at (i := 1) rfl) (MkN.new hA hh.ext hNn) (MkN.new hB hh.ext hNn) 90 89 123 (fun k => (joinL ((casesL d p).take k)).cells) (hh.at (i := 2) rfl) hne meth90 Try.en_123 (fun k x w2 hk h2 => by
     have hx := casesL_lt hV (List.mem_of_getElem? hk)
     have hk2 := (List.getElem?_eq_some_iff.1 hk).1
     have e := p123 (joinL ((casesL d p).take k)) x B5 w2 (by rw [joinL_n, List.length_take]; omega) (joinT_ok hV k) hx.1 hx.2 h2
     rw [← joinL_snoc, ← take_at hk] at e
     exact e)) ?_ ?_
   ·clear hf a; intro v a w hR hf
    obtain ⟨hpos, es, cm, hM, hx⟩ := hR
    rw [List.take_length] at hx
    replace hh := hh.swap' (X := [(bm, .map #[] 0), (B5, .cells #[.int .i64 ((0 : Nat) : Int), .int .u64 ((0 : Nat) : Int), .int .u64 ((0 : Nat) : Int), .int .u64 ((0 : Nat) : Int), .int .u64 ((0 : Nat) : Int)] 89)]) (Z := [(Bc, .cells (canC d p sa sb ca cb bm) 109), (B4, .cells #[.int .i64 0] 22), (B1, .cells (canV d p sa sb ca cb).cells 31)]) (by
      refine (List.Perm.swap _ _ _).trans (.cons _ ?_)
      exact List.Perm.swap _ _ _) hx
    clear hx
    have hjo := joinL_ok fun x hx => casesL_lt (p := p) hV hx
    have o1 := hjo.o1; have o2 := hjo.o2; have a1 := hjo.a1; have a2 := hjo.a2
    refine o_end ?_
    refine sy_seq ?_
    refine sy_tail (C := Hp _ _ _) 10 Try.follows (by kernel_rfl) rfl rfl (hh.drawn _) ?_
    refine oq_v hf (yv_fieldAddr Try.fo_89_1 rfl) ?_; clear hf a; intro a hf
    refine oq_v hf (y_ia Try.ae_73 rfl rfl) ?_; clear hf a; intro a hf
    refine oq_v hf (y_ld Try.sc_71 rfl) ?_; clear hf a; intro a hf
    refine q_v hf (yv_cast (yv_convx (.inl rfl) (by kernel_rfl) (by kernel_rfl) rfl (by omega) (by simp only [IntKind.top]; omega)) (intv (b := ((joinL (casesL d p)).o.1 : Nat)) rfl)) (.inl rfl) rfl rfl ?_; clear hf a; intro a hf
    refine oq_v hf (yv_fieldAddr Try.fo_89_1 rfl) ?_; clear hf a; intro a hf
    refine oq_v hf (y_ia Try.ae_73 rfl rfl) ?_; clear hf a; intro a hf
    refine oq_v hf (y_ld Try.sc_71 rfl) ?_; clear hf a; intro a hf
    refine q_v hf (yv_cast (yv_convx (.inl rfl) (by kernel_rfl) (by kernel_rfl) rfl (by omega) (by simp only [IntKind.top]; omega)) (intv (b := ((joinL (casesL d p)).o.2 : Nat)) rfl)) (.inl rfl) rfl rfl ?_; clear hf a; intro a hf
    refine oq_v hf (yv_assign rfl) ?_; clear hf a; intro a hf
    refine oq_v hf (yv_assign rfl) ?_; clear hf a; intro a hf
    refine q_end fun w hh => ?_
    refine o_store hf hh Try.sz_22 fun w hh => ?_
    refine o_end ?_
    refine sy_ret ?_
    exact ret_d (Ds := []) hf hh Try.en_54 (fun w' => d54r B4 w') fun w' hh => ⟨[.int .i64 ((joinL (casesL d p)).o.1 : Nat), .int .i64 ((joinL (casesL d p)).o.2 : Nat), .int .i64 0], ⟨rfl, rfl, ⟨B4, 0, _, _, _, rfl, hh.at (i := 3) rfl, .inl ⟨Try.sc_22, rfl⟩⟩, True.intro⟩, by
      have e1 := gatE_ok (show casesE d p = 0 from he) hpos
      unfold joinV; rw [e1, if_pos rfl]; rfl, hh.ext⟩
   ·intro ch w hX hf
    obtain ⟨rfl, hno, hx⟩ := hX
    replace hh := (hh.less (.cons _ (.cons _ (.cons _ (.refl _))))).others hx (fun x hx => ⟨fun h => by
      have h4 := (List.nodup_cons.1 (List.nodup_cons.1 (List.nodup_cons.1 hnd).2).2).1
      have hb4 := (List.nodup_cons.1 (List.nodup_cons.1 hnd).2).1
      rcases List.mem_cons.1 hx with rfl | hx
      · exact hb4 (.tail _ h)
      · rw [List.mem_singleton.1 hx] at h; exact h4 h, .inr (hNn x hx)⟩)
    clear hx
    refine then_p ?_
    exact pan_d (Ds := []) hf hh Try.en_54 (fun w' hh => d54p B4 _ 0 w' (hh.at (i := 0) rfl)) fun w' w'' hh h2 => ⟨[.int .i64 0, .int .i64 0, .int .i64 (4)], ⟨rfl, rfl, ⟨B4, 0, _, _, _, rfl, h2.at (i := 0) rfl, .inl ⟨Try.sc_22, rfl⟩⟩, True.intro⟩, by
      have e1 := gatE_4 (show casesE d p = 0 from he) hno
      unfold joinV; rw [e1, if_neg (by omega)]; rfl, (hh.turn (i := 0) rfl h2.ext (h2.at (i := 0) rfl)).ext⟩
  ·intro ch w hX hf
   obtain ⟨rfl, he, hx⟩ := hX; replace hh := hh.more hx; clear hx
   refine then_p ?_
   exact pan_d (Ds := []) hf hh Try.en_54 (fun w' hh => d54p B4 _ 0 w' (hh.at (i := 1) rfl)) fun w' w'' hh h2 => ⟨[.int .i64 0, .int .i64 0, .int .i64 (casesE d p)], ⟨rfl, rfl, ⟨B4, 0, _, _, _, rfl, h2.at (i := 0) rfl, .inl ⟨Try.sc_22, rfl⟩⟩, True.intro⟩, by
     have e1 := gatE_no (d := d) (p := p) he
     unfold joinV; rw [if_neg e1.2, e1.1]; rfl, (hh.turn (i := 1) rfl h2.ext (h2.at (i := 0) rfl)).ext⟩
theorem p15 (d : RowsD) (p : Int) (sa sb : Option Addr) (ca cb : Nat) (u : World) (hA : MkAt u sa d.l) (hB : MkAt u sb d.r) :
    Calls Try.prog 15 #[canV d p sa sb ca cb] u (Ret fun v w' => v = .tuple #[.int .i64 ((joinV d p).a.1 : Nat), .int .i64 ((joinV d p).a.2 : Nat), .int .i64 (gatE d p)] ∧ Ext [] u w') := by
  refine calls_ofM Try.func15 rfl rfl (fun a hf => ?_)
  have hh := Hp.init u []
  refine sy_sq ?_
  refine o_box hf hh ?_; clear hf hh a; intro B1 a w hf hh
  refine o_v hf hh (yv_assign rfl) ?_; clear hf a; intro a hf
  refine o_v hf hh (yv_assign rfl) ?_; clear hf a; intro a hf
  refine o_alloc hf hh Try.ze_22 ?_; clear hf hh a; intro B4 a w hf hh
  refine o_end ?_
  refine sy_sq ?_
  refine o_v hf hh (yv_makeFunc rfl rfl) ?_; clear hf a; intro a hf
  refine o_defer hf ?_; clear hf a; intro a hf
  refine o_end ?_
  refine sy_sq ?_
  refine o_alloc hf hh Try.ze_89 ?_; clear hf hh a; intro B5 a w hf hh
  refine o_end ?_
  refine sy_sq ?_
  refine o_v hf hh (y_lds Try.ag_31 rfl) ?_; clear hf a; intro a hf
  refine o_callX hf Try.en_35 rfl rfl rfl (p35 d p sa sb ca cb _ (hA.ext hh.ext) (hB.ext hh.ext) 42 _ true Try.en_42 (fun hok bm Bc w2 e hc => p42 (ptr Bc 0) w2)) ?_ ?_
  ·clear hf a; intro v a w hR hf
   obtain ⟨he, bm, Bc, rfl, hx⟩ := hR; replace hh := hh.join hx; clear hx
   obtain ⟨hok, hask⟩ := openE_zero.1 he
   obtain ⟨hV, hp0, hp3⟩ := okCan_valid hok
   have hlen := casesL_len (p := p) hV
   refine o_v hf hh (yv_makeIface (by kernel_rfl) rfl) ?_; clear hf a; intro a hf
   have hnd := hh.nodup
   have hNn : ∀ x ∈ [bm, B5], u.heap.size ≤ x := fun x hx => by
     simp only [List.mem_cons, List.not_mem_nil, or_false] at hx
     rcases hx with rfl | rfl
     · rcases hh.mine _ (.tail _ (.head _)) with h | h
       · exact h
       · cases h
     · rcases hh.mine _ (.tail _ (.tail _ (.head _))) with h | h
       · exact h
       · cases h
   have hne : B5 ≠ Bc := fun h => (List.nodup_cons.1 hnd).1 (h ▸ .tail _ (.head _))
   refine o_callX hf Try.en_46 rfl rfl rfl (p46 d p sa sb ca cb bm Bc B5 _ hV hp0 hp3 (hh.at (i := 0) rfl) (hh.at (i := 1) rfl) (MkN.new hA hh.ext hNn) (MkN.new hB hh.ext hNn) 90 89 123 (fun k => (joinL ((casesL d p).take k)).cells) (hh.at (i := 2) rfl) hne meth90 Try.en_123 (fun k x w2 hk h2 => by
     have hx := casesL_lt hV (List.mem_of_getElem? hk)
     have hk2 := (List.getElem?_eq_some_iff.1 hk).1
     have e := p123 (joinL ((casesL d p).take k)) x B5 w2 (by rw [joinL_n, List.length_take]; omega) (joinT_ok hV k) hx.1 hx.2 h2
     rw [← joinL_snoc, ← take_at hk] at e
     exact e)) ?_ ?_
   ·clear hf a; intro v a w hR hf
    obtain ⟨hpos, es, cm, hM, hx⟩ := hR
    rw [List.take_length] at hx
    replace hh := hh.swap' (X := [(bm, .map #[] 0), (B5, .cells #[.int .i64 ((0 : Nat) : Int), .int .u64 ((0 : Nat) : Int), .int .u64 ((0 : Nat) : Int), .int .u64 ((0 : Nat) : Int), .int .u64 ((0 : Nat) : Int)] 89)]) (Z := [(Bc, .cells (canC d p sa sb ca cb bm) 109), (B4, .cells #[.int .i64 0] 22), (B1, .cells (canV d p sa sb ca cb).cells 31)]) (by
      refine (List.Perm.swap _ _ _).trans (.cons _ ?_)
      exact List.Perm.swap _ _ _) hx
    clear hx
    have hjo := joinL_ok fun x hx => casesL_lt (p := p) hV hx
    have o1 := hjo.o1; have o2 := hjo.o2; have a1 := hjo.a1; have a2 := hjo.a2
    refine o_end ?_
    refine sy_seq ?_
    refine sy_tail (C := Hp _ _ _) 10 Try.follows (by kernel_rfl) rfl rfl (hh.drawn _) ?_
    refine oq_v hf (yv_fieldAddr Try.fo_89_2 rfl) ?_; clear hf a; intro a hf
    refine oq_v hf (y_ia Try.ae_73 rfl rfl) ?_; clear hf a; intro a hf
    refine oq_v hf (y_ld Try.sc_71 rfl) ?_; clear hf a; intro a hf
    refine q_v hf (yv_cast (yv_convx (.inl rfl) (by kernel_rfl) (by kernel_rfl) rfl (by omega) (by simp only [IntKind.top]; omega)) (intv (b := ((joinL (casesL d p)).a.1 : Nat)) rfl)) (.inl rfl) rfl rfl ?_; clear hf a; intro a hf
    refine oq_v hf (yv_fieldAddr Try.fo_89_2 rfl) ?_; clear hf a; intro a hf
    refine oq_v hf (y_ia Try.ae_73 rfl rfl) ?_; clear hf a; intro a hf
    refine oq_v hf (y_ld Try.sc_71 rfl) ?_; clear hf a; intro a hf
    refine q_v hf (yv_cast (yv_convx (.inl rfl) (by kernel_rfl) (by kernel_rfl) rfl (by omega) (by simp only [IntKind.top]; omega)) (intv (b := ((joinL (casesL d p)).a.2 : Nat)) rfl)) (.inl rfl) rfl rfl ?_; clear hf a; intro a hf
    refine oq_v hf (yv_assign rfl) ?_; clear hf a; intro a hf
    refine oq_v hf (yv_assign rfl) ?_; clear hf a; intro a hf
    refine q_end fun w hh => ?_
    refine o_store hf hh Try.sz_22 fun w hh => ?_
    refine o_end ?_
    refine sy_ret ?_
    exact ret_d (Ds := []) hf hh Try.en_48 (fun w' => d48r B4 w') fun w' hh => ⟨[.int .i64 ((joinL (casesL d p)).a.1 : Nat), .int .i64 ((joinL (casesL d p)).a.2 : Nat), .int .i64 0], ⟨rfl, rfl, ⟨B4, 0, _, _, _, rfl, hh.at (i := 3) rfl, .inl ⟨Try.sc_22, rfl⟩⟩, True.intro⟩, by
      have e1 := gatE_ok (show casesE d p = 0 from he) hpos
      unfold joinV; rw [e1, if_pos rfl]; rfl, hh.ext⟩
   ·intro ch w hX hf
    obtain ⟨rfl, hno, hx⟩ := hX
    replace hh := (hh.less (.cons _ (.cons _ (.cons _ (.refl _))))).others hx (fun x hx => ⟨fun h => by
      have h4 := (List.nodup_cons.1 (List.nodup_cons.1 (List.nodup_cons.1 hnd).2).2).1
      have hb4 := (List.nodup_cons.1 (List.nodup_cons.1 hnd).2).1
      rcases List.mem_cons.1 hx with rfl | hx
      · exact hb4 (.tail _ h)
      · rw [List.mem_singleton.1 hx] at h; exact h4 h, .inr (hNn x hx)⟩)
    clear hx
    refine then_p ?_
    exact pan_d (Ds := []) hf hh Try.en_48 (fun w' hh => d48p B4 _ 0 w' (hh.at (i := 0) rfl)) fun w' w'' hh h2 => ⟨[.int .i64 0, .int .i64 0, .int .i64 (4)], ⟨rfl, rfl, ⟨B4, 0, _, _, _, rfl, h2.at (i := 0) rfl, .inl ⟨Try.sc_22, rfl⟩⟩, True.intro⟩, by
      have e1 := gatE_4 (show casesE d p = 0 from he) hno
      unfold joinV; rw [e1, if_neg (by omega)]; rfl, (hh.turn (i := 0) rfl h2.ext (h2.at (i := 0) rfl)).ext⟩
  ·intro ch w hX hf
   obtain ⟨rfl, he, hx⟩ := hX; replace hh := hh.more hx; clear hx
   refine then_p ?_
   exact pan_d (Ds := []) hf hh Try.en_48 (fun w' hh => d48p B4 _ 0 w' (hh.at (i := 1) rfl)) fun w' w'' hh h2 => ⟨[.int .i64 0, .int .i64 0, .int .i64 (casesE d p)], ⟨rfl, rfl, ⟨B4, 0, _, _, _, rfl, h2.at (i := 0) rfl, .inl ⟨Try.sc_22, rfl⟩⟩, True.intro⟩, by
     have e1 := gatE_no (d := d) (p := p) he
     unfold joinV; rw [if_neg e1.2, e1.1]; rfl, (hh.turn (i := 1) rfl h2.ext (h2.at (i := 0) rfl)).ext⟩
end Go.Proofs.Ytidieepndphodaa
namespace Go.MatM
open Go Go.Sy Go.Proofs Go.RowKit
/-- What makes sets come before others: the lesser number. -/
def rk (i : Nat) (x : Nat × Nat) : Nat := if i = 0 then pc x.1 + pc x.2 else if i = 1 then pc x.2 else x.1 ||| x.2
def lessB (x y : Nat × Nat) : Bool := if rk 0 x = rk 0 y then (if rk 1 x = rk 1 y then decide (rk 2 x < rk 2 y) else decide (rk 1 x < rk 1 y)) else decide (rk 0 x < rk 0 y)
structure Fs where
  n : Nat
  b : Nat × Nat
def Fs.zero : Fs := ⟨0, (0, 0)⟩
def Fs.add (f : Fs) (x : Nat × Nat) : Fs := ⟨f.n + 1, if f.n = 0 then x else if lessB x f.b then x else f.b⟩
def firstL (l : List (Nat × Nat)) : Fs := l.foldl Fs.add Fs.zero
theorem firstL_snoc (l : List (Nat × Nat)) (x : Nat × Nat) : firstL (l ++ [x]) = (firstL l).add x := by simp [firstL]
abbrev Fs.cells (f : Fs) : Array Value := #[.int .i64 (f.n : Nat), .int .u64 (f.b.1 : Nat), .int .u64 (f.b.2 : Nat)]
abbrev Fs.Ok (f : Fs) : Prop := f.b.1 < 65536 ∧ f.b.2 < 65536
theorem Fs.add_n (f : Fs) (x : Nat × Nat) : (f.add x).n = f.n + 1 := rfl
theorem Fs.add_first {f : Fs} {x : Nat × Nat} (h : f.n = 0) : f.add x = ⟨f.n + 1, x⟩ := by unfold Fs.add; rw [if_pos h]
theorem Fs.add_less {f : Fs} {x : Nat × Nat} (h : f.n ≠ 0) (hl : lessB x f.b = true) : f.add x = ⟨f.n + 1, x⟩ := by unfold Fs.add; rw [if_neg h, if_pos hl]
theorem Fs.add_keep {f : Fs} {x : Nat × Nat} (h : f.n ≠ 0) (hl : lessB x f.b = false) : f.add x = ⟨f.n + 1, f.b⟩ := by unfold Fs.add; rw [if_neg h, if_neg (by rw [hl]; decide)]
theorem lessB_at {x y : Nat × Nat} {i : Nat} (hi : i < 3) (hb : ∀ k, k < i → rk k x = rk k y) (hne : rk i x ≠ rk i y) : lessB x y = decide (rk i x < rk i y) := by
  unfold lessB
  rcases (show i = 0 ∨ i = 1 ∨ i = 2 by omega) with rfl | rfl | rfl
  · rw [if_neg hne]
  · rw [if_pos (hb 0 (by omega)), if_neg hne]
  · rw [if_pos (hb 0 (by omega)), if_pos (hb 1 (by omega))]
theorem lessB_tie {x y : Nat × Nat} (hb : ∀ k, k < 3 → rk k x = rk k y) : lessB x y = false := by
  unfold lessB
  rw [if_pos (hb 0 (by omega)), if_pos (hb 1 (by omega)), hb 2 (by omega)]
  simp
theorem Fs.Ok.add {f : Fs} (h : f.Ok) {x : Nat × Nat} (h1 : x.1 < 65536) (h2 : x.2 < 65536) : (f.add x).Ok := by
  unfold Fs.add; dsimp only [Fs.Ok]; split
  · exact ⟨h1, h2⟩
  · split
    · exact ⟨h1, h2⟩
    · exact h
theorem firstL_ok {l : List (Nat × Nat)} (h : ∀ x ∈ l, x.1 < 65536 ∧ x.2 < 65536) : (firstL l).Ok := by
  have : ∀ (l : List (Nat × Nat)) (f : Fs), f.Ok → (∀ x ∈ l, x.1 < 65536 ∧ x.2 < 65536) → (l.foldl Fs.add f).Ok := by
    intro l
    induction l with
    | nil => intro f hf _; exact hf
    | cons x l ih => intro f hf h; exact ih _ (hf.add (h x (by simp)).1 (h x (by simp)).2) fun y hy => h y (by simp [hy])
  exact this l _ ⟨by decide, by decide⟩ h
theorem firstT_ok {d : RowsD} {p : Int} (hV : Valid d) (k : Nat) : (firstL ((casesL d p).take k)).Ok := firstL_ok fun x hx => casesL_lt hV (List.mem_of_mem_take hx)
theorem firstL_n (l : List (Nat × Nat)) : (firstL l).n = l.length := by
  have : ∀ (l : List (Nat × Nat)) (f : Fs), (l.foldl Fs.add f).n = f.n + l.length := by
    intro l
    induction l with
    | nil => intro f; rfl
    | cons x l ih => intro f; rw [List.foldl_cons, ih, Fs.add_n, List.length_cons]; omega
  rw [firstL, this]; simp [Fs.zero]
def firstV (d : RowsD) (p : Int) : Nat × Nat := if gatE d p = 0 then (firstL (casesL d p)).b else (0, 0)
theorem rk_lt {i : Nat} {x : Nat × Nat} (h1 : x.1 < 65536) (h2 : x.2 < 65536) : rk i x < 65536 := by
  have hp1 := pc_le x.1
  have hp2 := pc_le x.2
  have := or_lt16 h1 h2
  unfold rk; split
  · omega
  · split
    · omega
    · exact this
abbrev cmpI (a b : Nat) : Int := if (a : Int) < (b : Int) then -1 else if (b : Int) < (a : Int) then 1 else 0
theorem cmpL {a b : Nat} (h : cmpI a b < 0) : a < b := by
  unfold cmpI at h; split at h
  · omega
  · split at h <;> omega
theorem cmpG {a b : Nat} (h : ¬ cmpI a b = 0) (h2 : 0 ≤ cmpI a b) : b < a := by
  unfold cmpI at h h2; split at h
  · omega
  · split at h <;> omega
theorem cmpE {a b : Nat} (h : cmpI a b = 0) : a = b := by
  unfold cmpI at h; split at h
  · omega
  · split at h <;> omega
theorem Fs.step_new {f : Fs} {x : Nat × Nat} {i : Nat} (hi : i < 3) (ht : ∀ k, k < i → rk k x = rk k f.b) (h : f.n = 0 ∨ rk i x < rk i f.b) : f.add x = ⟨f.n + 1, x⟩ := by
  by_cases h0 : f.n = 0
  · exact Fs.add_first h0
  · have hl := h.resolve_left h0
    exact Fs.add_less h0 (by rw [lessB_at hi ht (by omega)]; exact decide_eq_true hl)
theorem Fs.step_keep {f : Fs} {x : Nat × Nat} {i : Nat} (hi : i < 3) (ht : ∀ k, k < i → rk k x = rk k f.b) (h0 : f.n ≠ 0) (h : rk i f.b < rk i x) : f.add x = ⟨f.n + 1, f.b⟩ :=
  Fs.add_keep h0 (by rw [lessB_at hi ht (by omega)]; exact decide_eq_false (by omega))
theorem Fs.step_tie {f : Fs} {x : Nat × Nat} (ht : ∀ k, k < 3 → rk k x = rk k f.b) (h0 : f.n ≠ 0) : f.add x = ⟨f.n + 1, f.b⟩ := Fs.add_keep h0 (lessB_tie ht)
end Go.MatM
namespace Go.Proofs.Ytidieepndphodaa
open Go Go.Sy Go.MatM
theorem p122 (x : Int) (u : World) : Calls Try.prog 122 #[.int .i64 x] u (Ret fun v w' => v = .bool false ∧ Ext [] u w') := by
  refine calls_of Try.func122 rfl rfl (fun a hf => ?_)
  have hh := Hp.init u []
  refine sy_sq ?_
  refine o_v hf hh (yv_assign rfl) ?_; clear hf a; intro a hf
  refine o_end ?_
  refine sy_sq ?_
  refine o_v hf hh (yv_move rfl) ?_; clear hf a; intro a hf
  refine o_v hf hh (yv_move rfl) ?_; clear hf a; intro a hf
  refine o_v hf hh (yv_bin rfl rfl rfl) ?_; clear hf a; intro a hf
  refine o_v hf hh (yv_assign rfl) ?_; clear hf a; intro a hf
  refine o_end ?_
  refine sy_ret ?_
  refine ret_r hf rfl rfl ?_
  exact ⟨by simp [tup], hh.ext⟩
theorem p117 (x y : Int) (u : World) : Calls Try.prog 117 #[.int .i64 x, .int .i64 y] u (Ret fun v w' => v = .int .i64 (if x < y then -1 else if y < x then 1 else 0) ∧ Ext [] u w') := by
  refine calls_of Try.func117 rfl rfl (fun a hf => ?_)
  have hh := Hp.init u []
  refine sy_sq ?_
  refine o_v hf hh (yv_assign rfl) ?_; clear hf a; intro a hf
  refine o_end ?_
  refine sy_sq ?_
  refine o_v hf hh (yv_move rfl) ?_; clear hf a; intro a hf
  refine o_call hf Try.en_122 rfl rfl rfl (p122 _ _) ?_; clear hf a; intro v a w hR hf
  obtain ⟨rfl, hx⟩ := hR; replace hh := hh.more hx; clear hx
  refine o_v hf hh (yv_assign rfl) ?_; clear hf a; intro a hf
  refine o_end ?_
  refine sy_sq ?_
  refine o_v hf hh (yv_move rfl) ?_; clear hf a; intro a hf
  refine o_call hf Try.en_122 rfl rfl rfl (p122 _ _) ?_; clear hf a; intro v a w hR hf
  obtain ⟨rfl, hx⟩ := hR; replace hh := hh.more hx; clear hx
  refine o_v hf hh (yv_assign rfl) ?_; clear hf a; intro a hf
  refine o_end ?_
  refine sy_seq ?_
  refine sy_sq ?_
  refine o_v hf hh (yv_move rfl) ?_; clear hf a; intro a hf
  refine o_end ?_
  refine c_f hf ?_
  refine sy_skip ?_
  refine then_n ?_
  refine sy_seq ?_
  refine sy_sq ?_
  refine o_v hf hh (yv_move rfl) ?_; clear hf a; intro a hf
  refine o_end ?_
  refine c_f hf ?_
  refine sy_skip ?_
  refine then_n ?_
  refine sy_seq ?_
  refine sy_sq ?_
  refine o_v hf hh (yv_move rfl) ?_; clear hf a; intro a hf
  refine o_v hf hh (yv_move rfl) ?_; clear hf a; intro a hf
  refine o_v hf hh (yv_bin rfl rfl rfl) ?_; clear hf a; intro a hf
  refine o_end ?_
  refine sy_cond hf rfl (fun hg4 => ?_) (fun hg4 => ?_)
  ·have hG4 := hg4; try simp only [gS] at hG4
   refine sy_sq ?_
   refine o_v hf hh (yv_assign rfl) ?_; clear hf a; intro a hf
   refine o_end ?_
   refine sy_ret ?_
   refine then_r ?_
   refine ret_r hf rfl rfl ?_
   first
     | (rw [if_pos (by assumption)]; exact ⟨rfl, hh.ext⟩)
     | (rw [if_neg (by omega), if_pos (by omega)]; exact ⟨rfl, hh.ext⟩)
     | (rw [if_neg (by omega), if_neg (by omega)]; exact ⟨rfl, hh.ext⟩)
  ·have hG4 := hg4; try simp only [gS] at hG4
   refine sy_skip ?_
   refine then_n ?_
   refine sy_seq ?_
   refine sy_sq ?_
   refine o_v hf hh (yv_move rfl) ?_; clear hf a; intro a hf
   refine o_v hf hh (yv_move rfl) ?_; clear hf a; intro a hf
   refine o_v hf hh (yv_bin rfl rfl rfl) ?_; clear hf a; intro a hf
   refine o_end ?_
   refine sy_cond hf rfl (fun hg6 => ?_) (fun hg6 => ?_)
   ·have hG6 := hg6; try simp only [gS] at hG6
    refine sy_sq ?_
    refine o_v hf hh (yv_assign rfl) ?_; clear hf a; intro a hf
    refine o_end ?_
    refine sy_ret ?_
    refine then_r ?_
    refine ret_r hf rfl rfl ?_
    first
      | (rw [if_pos (by assumption)]; exact ⟨rfl, hh.ext⟩)
      | (rw [if_neg (by omega), if_pos (by omega)]; exact ⟨rfl, hh.ext⟩)
      | (rw [if_neg (by omega), if_neg (by omega)]; exact ⟨rfl, hh.ext⟩)
   ·have hG6 := hg6; try simp only [gS] at hG6
    refine sy_skip ?_
    refine then_n ?_
    refine sy_sq ?_
    refine o_v hf hh (yv_assign rfl) ?_; clear hf a; intro a hf
    refine o_end ?_
    refine sy_ret ?_
    refine ret_r hf rfl rfl ?_
    first
      | (rw [if_pos (by assumption)]; exact ⟨rfl, hh.ext⟩)
      | (rw [if_neg (by omega), if_pos (by omega)]; exact ⟨rfl, hh.ext⟩)
      | (rw [if_neg (by omega), if_neg (by omega)]; exact ⟨rfl, hh.ext⟩)
theorem p118 (x : Nat × Nat) (hx1 : x.1 < 65536) (hx2 : x.2 < 65536) (u : World) : Calls Try.prog 118 #[enc2 x] u (Ret fun v w' => v = .int .i64 (rk 0 x : Nat) ∧ Ext [] u w') := by
  refine calls_of Try.func118 rfl rfl (fun a hf => ?_)
  have hh := Hp.init u []
  have hp1 := pc_le x.1
  have hp2 := pc_le x.2
  refine sy_sq ?_
  refine o_box hf hh ?_; clear hf hh a; intro B1 a w hf hh
  refine o_v hf hh (yv_assign rfl) ?_; clear hf a; intro a hf
  refine o_end ?_
  refine sy_seq ?_
  refine sy_quiet (C := Hp _ _ _) Try.follows (by kernel_rfl) (hh.drawn _) ?_
  refine oq_v hf (y_ia Try.ae_73 rfl rfl) ?_; clear hf a; intro a hf
  refine oq_v hf (y_ld Try.sc_71 rfl) ?_; clear hf a; intro a hf
  refine oq_call hf Try.en_68 rfl rfl rfl (fun w hh => p68 x.1 hx1 _) ?_; clear hf a; intro a hf
  refine oq_v hf (y_ia Try.ae_73 rfl rfl) ?_; clear hf a; intro a hf
  refine oq_v hf (y_ld Try.sc_71 rfl) ?_; clear hf a; intro a hf
  refine oq_call hf Try.en_68 rfl rfl rfl (fun w hh => p68 x.2 hx2 _) ?_; clear hf a; intro a hf
  refine q_v hf (yv_cast (yv_add rfl rfl (by omega) (by omega)) (intv (b := ((pc x.1 + pc x.2 : Nat) : Int)) (by omega))) (.inl rfl) rfl rfl ?_; clear hf a; intro a hf
  refine oq_v hf (yv_assign rfl) ?_; clear hf a; intro a hf
  refine q_end fun w hh => ?_
  refine then_n ?_
  refine sy_ret ?_
  refine ret_r hf rfl rfl ?_
  exact ⟨rfl, hh.ext⟩
theorem p119 (x : Nat × Nat) (hx1 : x.1 < 65536) (hx2 : x.2 < 65536) (u : World) : Calls Try.prog 119 #[enc2 x] u (Ret fun v w' => v = .int .i64 (rk 1 x : Nat) ∧ Ext [] u w') := by
  refine calls_of Try.func119 rfl rfl (fun a hf => ?_)
  have hh := Hp.init u []
  have hp1 := pc_le x.1
  have hp2 := pc_le x.2
  refine sy_sq ?_
  refine o_box hf hh ?_; clear hf hh a; intro B1 a w hf hh
  refine o_v hf hh (yv_assign rfl) ?_; clear hf a; intro a hf
  refine o_end ?_
  refine sy_sq ?_
  refine o_v hf hh (y_ia Try.ae_73 rfl rfl) ?_; clear hf a; intro a hf
  refine o_v hf hh (y_ld Try.sc_71 rfl) ?_; clear hf a; intro a hf
  refine o_call hf Try.en_68 rfl rfl rfl (p68 x.2 hx2 _) ?_; clear hf a; intro v a w hR hf
  obtain ⟨rfl, hx⟩ := hR; replace hh := hh.more hx; clear hx
  refine o_v hf hh (yv_assign rfl) ?_; clear hf a; intro a hf
  refine o_end ?_
  refine sy_ret ?_
  refine ret_r hf rfl rfl ?_
  exact ⟨rfl, hh.ext⟩
theorem p120 (x : Nat × Nat) (hx1 : x.1 < 65536) (hx2 : x.2 < 65536) (u : World) : Calls Try.prog 120 #[enc2 x] u (Ret fun v w' => v = .int .i64 (rk 2 x : Nat) ∧ Ext [] u w') := by
  refine calls_of Try.func120 rfl rfl (fun a hf => ?_)
  have hh := Hp.init u []
  have ho := or_lt16 hx1 hx2
  refine sy_sq ?_
  refine o_box hf hh ?_; clear hf hh a; intro B1 a w hf hh
  refine o_v hf hh (yv_assign rfl) ?_; clear hf a; intro a hf
  refine o_end ?_
  refine sy_sq ?_
  refine o_v hf hh (y_ia Try.ae_73 rfl rfl) ?_; clear hf a; intro a hf
  refine o_v hf hh (y_ld Try.sc_71 rfl) ?_; clear hf a; intro a hf
  refine o_v hf hh (y_ia Try.ae_73 rfl rfl) ?_; clear hf a; intro a hf
  refine o_v hf hh (y_ld Try.sc_71 rfl) ?_; clear hf a; intro a hf
  refine ops_buildSl hf hh Try.bl_178_2 rfl rfl (.inl rfl) rfl ?_; clear hf hh; clear a; intro B7 a w hf hh
  refine o_call hf Try.en_121 rfl rfl rfl (p121 x.1 x.2 B7 _ hx1 hx2 (hh.at (i := 0) rfl)) ?_; clear hf a; intro v a w hR hf
  obtain ⟨rfl, hx⟩ := hR; replace hh := hh.more hx; clear hx
  refine ops_v hf hh (yv_cast (yv_convx (.inl rfl) (by kernel_rfl) (by kernel_rfl) rfl (by omega) (by simp only [IntKind.top]; omega)) (intv (b := ((x.1 ||| x.2 : Nat) : Int)) rfl)) (.inl rfl) rfl rfl rfl ?_; clear hf a; intro a hf
  refine o_v hf hh (yv_assign rfl) ?_; clear hf a; intro a hf
  refine o_end ?_
  refine sy_ret ?_
  refine ret_r hf rfl rfl ?_
  exact ⟨rfl, hh.ext⟩
theorem p116 (u : World) : Calls Try.prog 116 #[] u (Ret fun v w' => ∃ B, v = .slice (some ⟨B, 0, none⟩) 3 3 ∧ Hp u [] [(B, .cells #[Value.func (.func 118) #[] #[], .func (.func 119) #[] #[], .func (.func 120) #[] #[]] 176)] w') := by
  refine calls_of Try.func116 rfl rfl (fun a hf => ?_)
  have hh := Hp.init u []
  refine sy_sq ?_
  refine o_v hf hh (yv_assign rfl) ?_; clear hf a; intro a hf
  refine o_end ?_
  refine sy_sq ?_
  refine o_v hf hh (yv_buildS Try.bs_176 rfl rfl) ?_; clear hf a; intro a hf
  refine o_v hf hh (yv_buildS Try.bs_176 rfl rfl) ?_; clear hf a; intro a hf
  refine o_v hf hh (yv_buildS Try.bs_176 rfl rfl) ?_; clear hf a; intro a hf
  refine ops_buildSl hf hh Try.bl_172_3 rfl rfl (.inl rfl) rfl ?_; clear hf hh; clear a; intro B4 a w hf hh
  refine o_v hf hh (yv_assign rfl) ?_; clear hf a; intro a hf
  refine o_end ?_
  refine sy_ret ?_
  refine ret_r hf rfl rfl ?_
  exact ⟨_, rfl, hh⟩
set_option maxRecDepth 100000 in
theorem p115 (f : Fs) (x : Nat × Nat) (Ba : Nat) (u : World) (hn : f.n ≤ 100000) (hf1 : f.Ok) (hx1 : x.1 < 65536) (hx2 : x.2 < 65536) (hb : u.heap[Ba]? = some (.cells f.cells 86 (0, 0))) : Calls Try.prog 115 #[ptr Ba 0, enc2 x] u (Ret fun _ w' => Hp u [Ba] [(Ba, .cells (f.add x).cells 86)] w') := by
  refine calls_of Try.func115 rfl rfl (fun a hf => ?_)
  have hh := Hp.init1 hb
  refine sy_sq ?_
  refine o_box hf hh ?_; clear hf hh a; intro B3 a w hf hh
  refine o_end ?_
  refine sy_seq ?_
  refine sy_tail (C := Hp _ _ _) 4 Try.follows (by kernel_rfl) rfl rfl (hh.drawn _) ?_
  refine oq_v hf (yv_move rfl) ?_; clear hf a; intro a hf
  refine oq_v hf (yv_nilCheck rfl) ?_; clear hf a; intro a hf
  refine oq_v hf (yv_fieldAddr Try.fo_86_0 rfl) ?_; clear hf a; intro a hf
  refine oq_v hf (y_lds Try.ag_73 rfl) ?_; clear hf a; intro a hf
  refine q_end fun w hh => ?_
  refine o_call hf Try.en_44 rfl rfl rfl (p44f Ba f.n _ _ x _ hn (hh.at (i := 1) rfl)) ?_; clear hf a; intro v a w hR hf
  replace hh := hh.turn (i := 1) rfl hR.ext (hR.at (i := 0) rfl); clear hR
  refine o_end ?_
  refine sy_sq ?_
  refine o_call hf Try.en_116 rfl rfl rfl (p116 _) ?_; clear hf a; intro v a w hR hf
  obtain ⟨Br, rfl, hx⟩ := hR; replace hh := hh.join hx; clear hx
  refine o_v hf hh (yv_len Try.se_172 rfl) ?_; clear hf a; intro a hf
  refine o_v hf hh (yv_move rfl) ?_; clear hf a; intro a hf
  refine o_end ?_
  refine sy_block ?_
  refine sy_loopH (σ := Nat) [5, 6, 14, 15, 16, 17, 18, 19, 20, 21, 22, 23, 24, 25, 26, 27, 28, 29, 30, 31, 32, 33, 34, 35, 36, 37, 38, 39, 40, 41, 42, 43, 44, 45, 46, 47, 48, 49, 50, 51, 52, 53, 54] (fun i => [(14, .int .i64 (i : Nat))]) (fun i => fun w' => i ≤ 3 ∧ (∀ k, k < i → rk k x = rk k f.b) ∧ (0 < i → f.n ≠ 0) ∧ Hp u [Ba] [(Br, .cells #[Value.func (.func 118) #[] #[], .func (.func 119) #[] #[], .func (.func 120) #[] #[]] 176), (B3, .cells (enc2 x).cells 73), (Ba, .cells #[.int .i64 ((f.n + 1 : Nat) : Int), .int .u64 (f.b.1 : Nat), .int .u64 (f.b.2 : Nat)] 86)] w') (fun i => 3 - i) (0) hf ?_ ?_ ?_
  · repeat' (first | exact True.intro | refine And.intro rfl ?_)
  · exact ⟨Nat.zero_le _, fun k h => absurd h (Nat.not_lt_zero _), fun h => absurd h (Nat.lt_irrefl _), hh⟩
  ·rintro i a w ⟨hi, htie, hnz, hh⟩ hf
   refine sy_sq ?_
   refine o_v hf hh (yv_bin rfl rfl rfl) ?_; clear hf a; intro a hf
   refine o_end ?_
   refine sy_seq ?_
   refine sy_cond hf rfl (fun hg4 => ?_) (fun hg4 => ?_)
   ·have hG4 := hg4; try simp only [gS] at hG4
    refine sy_skip ?_
    refine then_n ?_
    refine sy_seq ?_
    refine sy_block ?_
    refine sy_seq ?_
    obtain ⟨g, hcx, hEg, hcg⟩ : ∃ g : Nat, cellsAt #[Value.func (.func 118) #[] #[], .func (.func 119) #[] #[], .func (.func 120) #[] #[]] (0 + ((i : Nat) : Int).toNat * 1) 1 = some [Value.func (.func g) #[] #[]] ∧ Enters Try.prog g ∧ ∀ (y : Nat × Nat) w', y.1 < 65536 → y.2 < 65536 → Calls Try.prog g #[enc2 y] w' (Ret fun v w'' => v = .int .i64 (rk i y : Nat) ∧ Ext [] w' w'') := by
      rcases (show i = 0 ∨ i = 1 ∨ i = 2 by omega) with rfl | rfl | rfl
      · exact ⟨118, rfl, Try.en_118, fun y w' h1 h2 => p118 y h1 h2 w'⟩
      · exact ⟨119, rfl, Try.en_119, fun y w' h1 h2 => p119 y h1 h2 w'⟩
      · exact ⟨120, rfl, Try.en_120, fun y w' h1 h2 => p120 y h1 h2 w'⟩
    refine sy_ops ?_
    refine o_v hf hh (y_ix Try.se_172 rfl rfl) ?_; clear hf a; intro a hf
    refine o_v hf hh (y_lds Try.ag_176 rfl) ?_; clear hf a; intro a hf
    refine o_alloc hf hh Try.ze_176 ?_; clear hf hh a; intro B5 a w hf hh
    refine o_store hf hh Try.sz_176 fun w hh => ?_
    refine o_end ?_
    refine sy_seq ?_
    refine sy_quiet (C := Hp _ _ _) Try.follows (by kernel_rfl) (hh.drawn _) ?_
    refine oq_v hf (yv_fieldAddr Try.fo_176_0 rfl) ?_; clear hf a; intro a hf
    refine oq_v hf (y_ld Try.sc_174 rfl) ?_; clear hf a; intro a hf
    refine oq_v hf (y_lds Try.ag_73 rfl) ?_; clear hf a; intro a hf
    refine oq_call hf hEg rfl rfl rfl (fun w hh => hcg x _ hx1 hx2) ?_; clear hf a; intro a hf
    refine oq_v hf (yv_fieldAddr Try.fo_176_0 rfl) ?_; clear hf a; intro a hf
    refine oq_v hf (y_ld Try.sc_174 rfl) ?_; clear hf a; intro a hf
    refine oq_v hf (yv_move rfl) ?_; clear hf a; intro a hf
    refine oq_v hf (yv_nilCheck rfl) ?_; clear hf a; intro a hf
    refine oq_v hf (yv_fieldAddr Try.fo_86_1 rfl) ?_; clear hf a; intro a hf
    refine oq_v hf (y_lds Try.ag_73 rfl) ?_; clear hf a; intro a hf
    refine oq_call hf hEg rfl rfl rfl (fun w hh => hcg f.b _ hf1.1 hf1.2) ?_; clear hf a; intro a hf
    refine oq_call hf Try.en_117 rfl rfl rfl (fun w hh => p117 _ _ _) ?_; clear hf a; intro a hf
    refine oq_v hf (yv_assign rfl) ?_; clear hf a; intro a hf
    refine q_end fun w hh => ?_
    refine then_n ?_
    refine sy_sq ?_
    refine o_v hf hh (yv_move rfl) ?_; clear hf a; intro a hf
    refine o_v hf hh (yv_bin rfl rfl rfl) ?_; clear hf a; intro a hf
    refine o_v hf hh (yv_move rfl) ?_; clear hf a; intro a hf
    refine guard_split hf (t := 32) rfl (fun hg9 => ?_) (fun hg9 => ?_)
    ·have hG9 := hg9; try simp only [gS] at hG9
     refine o_off hf ?_; clear hf a; intro a hf
     refine o_off hf ?_; clear hf a; intro a hf
     refine o_off hf ?_; clear hf a; intro a hf
     refine o_off hf ?_; clear hf a; intro a hf
     refine o_off hf ?_; clear hf a; intro a hf
     refine o_off hf ?_; clear hf a; intro a hf
     refine o_v hf hh (y_pt rfl rfl) ?_; clear hf a; intro a hf
     refine o_end ?_
     refine c_t hf ?_
     refine sy_seq ?_
     refine sy_sq ?_
     refine o_v hf hh (yv_move rfl) ?_; clear hf a; intro a hf
     refine o_v hf hh (yv_bin rfl rfl rfl) ?_; clear hf a; intro a hf
     refine o_v hf hh (yv_move rfl) ?_; clear hf a; intro a hf
     refine guard_split hf (t := 42) rfl (fun hg11 => ?_) (fun hg11 => ?_)
     ·have hG11 := hg11; try simp only [gS] at hG11
      refine o_off hf ?_; clear hf a; intro a hf
      refine o_off hf ?_; clear hf a; intro a hf
      refine o_off hf ?_; clear hf a; intro a hf
      refine o_off hf ?_; clear hf a; intro a hf
      refine o_off hf ?_; clear hf a; intro a hf
      refine o_off hf ?_; clear hf a; intro a hf
      refine o_v hf hh (y_pt rfl rfl) ?_; clear hf a; intro a hf
      refine o_end ?_
      refine c_t hf ?_
      refine sy_ops ?_
      refine o_v hf hh (yv_move rfl) ?_; clear hf a; intro a hf
      refine o_v hf hh (y_lds Try.ag_73 rfl) ?_; clear hf a; intro a hf
      refine o_v hf hh (yv_nilCheck rfl) ?_; clear hf a; intro a hf
      refine o_v hf hh (yv_fieldAddr Try.fo_86_1 rfl) ?_; clear hf a; intro a hf
      refine o_store hf hh Try.sz_73 fun w hh => ?_
      refine o_end ?_
      refine sy_ret ?_
      refine blk_r ?_
      refine then_r ?_
      refine then_r ?_
      refine blk_r ?_
      refine ret_r hf rfl rfl ?_
      rw [Fs.step_new (i := i) (by omega) htie (.inr (cmpL (by assumption)))]
      exact hh.less (.cons _ (.cons _ (.cons _ (.refl _))))
     ·have hG11 := hg11; try simp only [gS] at hG11
      refine o_v hf hh (yv_move rfl) ?_; clear hf a; intro a hf
      refine o_v hf hh (yv_nilCheck rfl) ?_; clear hf a; intro a hf
      refine o_v hf hh (yv_fieldAddr Try.fo_86_0 rfl) ?_; clear hf a; intro a hf
      refine o_v hf hh (yv_fieldAddr Try.fo_76_0 rfl) ?_; clear hf a; intro a hf
      refine o_v hf hh (y_ld Try.sc_3 rfl) ?_; clear hf a; intro a hf
      refine o_v hf hh (yv_bin rfl rfl rfl) ?_; clear hf a; intro a hf
      refine o_v hf hh (y_pf rfl rfl) ?_; clear hf a; intro a hf
      refine o_end ?_
      refine sy_cond hf rfl (fun hg13 => ?_) (fun hg13 => ?_)
      ·have hG13 := hg13; try simp only [gS] at hG13
       refine sy_ops ?_
       refine o_v hf hh (yv_move rfl) ?_; clear hf a; intro a hf
       refine o_v hf hh (y_lds Try.ag_73 rfl) ?_; clear hf a; intro a hf
       refine o_v hf hh (yv_nilCheck rfl) ?_; clear hf a; intro a hf
       refine o_v hf hh (yv_fieldAddr Try.fo_86_1 rfl) ?_; clear hf a; intro a hf
       refine o_store hf hh Try.sz_73 fun w hh => ?_
       refine o_end ?_
       refine sy_ret ?_
       refine blk_r ?_
       refine then_r ?_
       refine then_r ?_
       refine blk_r ?_
       refine ret_r hf rfl rfl ?_
       rw [Fs.step_new (i := i) (by omega) htie (.inl (by omega))]
       exact hh.less (.cons _ (.cons _ (.cons _ (.refl _))))
      ·have hG13 := hg13; try simp only [gS] at hG13
       refine sy_skip ?_
       refine then_n ?_
       refine sy_ret ?_
       refine blk_r ?_
       refine then_r ?_
       refine then_r ?_
       refine blk_r ?_
       refine ret_r hf rfl rfl ?_
       rw [Fs.step_keep (i := i) (by omega) htie (by omega) (cmpG (by assumption) (by assumption))]
       exact hh.less (.cons _ (.cons _ (.cons _ (.refl _))))
    ·have hG9 := hg9; try simp only [gS] at hG9
     refine o_v hf hh (yv_move rfl) ?_; clear hf a; intro a hf
     refine o_v hf hh (yv_nilCheck rfl) ?_; clear hf a; intro a hf
     refine o_v hf hh (yv_fieldAddr Try.fo_86_0 rfl) ?_; clear hf a; intro a hf
     refine o_v hf hh (yv_fieldAddr Try.fo_76_0 rfl) ?_; clear hf a; intro a hf
     refine o_v hf hh (y_ld Try.sc_3 rfl) ?_; clear hf a; intro a hf
     refine o_v hf hh (yv_bin rfl rfl rfl) ?_; clear hf a; intro a hf
     refine o_v hf hh (y_pf rfl rfl) ?_; clear hf a; intro a hf
     refine o_end ?_
     refine sy_cond hf rfl (fun hg15 => ?_) (fun hg15 => ?_)
     ·have hG15 := hg15; try simp only [gS] at hG15
      refine sy_seq ?_
      refine sy_sq ?_
      refine o_v hf hh (yv_move rfl) ?_; clear hf a; intro a hf
      refine o_v hf hh (yv_bin rfl rfl rfl) ?_; clear hf a; intro a hf
      refine o_v hf hh (yv_move rfl) ?_; clear hf a; intro a hf
      refine guard_split hf (t := 42) rfl (fun hg17 => ?_) (fun hg17 => ?_)
      ·have hG17 := hg17; try simp only [gS] at hG17
       refine o_off hf ?_; clear hf a; intro a hf
       refine o_off hf ?_; clear hf a; intro a hf
       refine o_off hf ?_; clear hf a; intro a hf
       refine o_off hf ?_; clear hf a; intro a hf
       refine o_off hf ?_; clear hf a; intro a hf
       refine o_off hf ?_; clear hf a; intro a hf
       refine o_v hf hh (y_pt rfl rfl) ?_; clear hf a; intro a hf
       refine o_end ?_
       refine c_t hf ?_
       refine sy_ops ?_
       refine o_v hf hh (yv_move rfl) ?_; clear hf a; intro a hf
       refine o_v hf hh (y_lds Try.ag_73 rfl) ?_; clear hf a; intro a hf
       refine o_v hf hh (yv_nilCheck rfl) ?_; clear hf a; intro a hf
       refine o_v hf hh (yv_fieldAddr Try.fo_86_1 rfl) ?_; clear hf a; intro a hf
       refine o_store hf hh Try.sz_73 fun w hh => ?_
       refine o_end ?_
       refine sy_ret ?_
       refine blk_r ?_
       refine then_r ?_
       refine then_r ?_
       refine blk_r ?_
       refine ret_r hf rfl rfl ?_
       rw [Fs.step_new (i := i) (by omega) htie (.inl (by omega))]
       exact hh.less (.cons _ (.cons _ (.cons _ (.refl _))))
      ·have hG17 := hg17; try simp only [gS] at hG17
       refine o_v hf hh (yv_move rfl) ?_; clear hf a; intro a hf
       refine o_v hf hh (yv_nilCheck rfl) ?_; clear hf a; intro a hf
       refine o_v hf hh (yv_fieldAddr Try.fo_86_0 rfl) ?_; clear hf a; intro a hf
       refine o_v hf hh (yv_fieldAddr Try.fo_76_0 rfl) ?_; clear hf a; intro a hf
       refine o_v hf hh (y_ld Try.sc_3 rfl) ?_; clear hf a; intro a hf
       refine o_v hf hh (yv_bin rfl rfl rfl) ?_; clear hf a; intro a hf
       refine o_v hf hh (y_pf rfl rfl) ?_; clear hf a; intro a hf
       refine o_end ?_
       refine sy_cond hf rfl (fun hg19 => ?_) (fun hg19 => ?_)
       ·have hG19 := hg19; try simp only [gS] at hG19
        refine sy_ops ?_
        refine o_v hf hh (yv_move rfl) ?_; clear hf a; intro a hf
        refine o_v hf hh (y_lds Try.ag_73 rfl) ?_; clear hf a; intro a hf
        refine o_v hf hh (yv_nilCheck rfl) ?_; clear hf a; intro a hf
        refine o_v hf hh (yv_fieldAddr Try.fo_86_1 rfl) ?_; clear hf a; intro a hf
        refine o_store hf hh Try.sz_73 fun w hh => ?_
        refine o_end ?_
        refine sy_ret ?_
        refine blk_r ?_
        refine then_r ?_
        refine then_r ?_
        refine blk_r ?_
        refine ret_r hf rfl rfl ?_
        rw [Fs.step_new (i := i) (by omega) htie (.inl (by omega))]
        exact hh.less (.cons _ (.cons _ (.cons _ (.refl _))))
       ·have hG19 := hg19; try simp only [gS] at hG19
        refine sy_skip ?_
        refine then_n ?_
        refine sy_ret ?_
        refine blk_r ?_
        refine then_r ?_
        refine then_r ?_
        refine blk_r ?_
        refine ret_r hf rfl rfl ?_
        omega
     ·have hG15 := hg15; try simp only [gS] at hG15
      refine sy_skip ?_
      refine blk_n ?_
      refine then_n ?_
      refine sy_ops ?_
      refine o_v hf hh (y_add rfl rfl) ?_; clear hf a; intro a hf
      refine o_v hf hh (yv_move rfl) ?_; clear hf a; intro a hf
      refine ops_end ?_
      refine then_n ?_
      have c1 := cmpE (by assumption)
      exact ⟨i + 1, ⟨⟨by omega, fun k hk => by
        rcases (show k < i ∨ k = i by omega) with h | rfl
        · exact htie k h
        · exact c1, fun _ => by omega, hh.less (.cons _ (List.Sublist.refl _))⟩, (hf.head (by repeat' (first | exact True.intro | refine And.intro rfl ?_)) (Keep.cons rfl (Keep.cons rfl (Keep.cons rfl (Keep.cons rfl (Keep.cons rfl (Keep.cons rfl (Keep.cons rfl (Keep.cons rfl (Keep.cons rfl (Keep.cons rfl (Keep.cons rfl (Keep.cons rfl (Keep.cons rfl (Keep.cons rfl (Keep.cons rfl (Keep.cons rfl (Keep.cons rfl (Keep.cons rfl (Keep.cons rfl (Keep.cons rfl (Keep.cons rfl (Keep.cons rfl (Keep.cons rfl (Keep.cons rfl (Keep.cons rfl (Keep.cons rfl (Keep.cons rfl (Keep.cons rfl (Keep.cons rfl (Keep.app rfl (Keep.rm rfl Keep.base))))))))))))))))))))))))))))))))⟩, by omega⟩
   ·have hG4 := hg4; try simp only [gS] at hG4
    refine sy_exit ?_
    refine then_e ?_
    refine then_e ?_
    refine blk_e ?_
    refine ret_n hf rfl rfl ?_
    obtain rfl : i = 3 := by omega
    rw [Fs.step_tie htie (hnz (by omega))]
    exact hh.less (.cons _ (.cons _ (.refl _)))
end Go.Proofs.Ytidieepndphodaa
namespace Go.MatM
open Go Go.Sy Go.Proofs Go.RowKit
/-- How many sets have a mark; how many are left if a lens tells of it. -/
def yesN (l : List (Nat × Nat)) (row i : Nat) : Nat := l.countP fun x => (xAt x row).testBit i
def toldN (l : List (Nat × Nat)) (row i : Nat) : Nat := max (yesN l row i) (l.length - yesN l row i)
def ofN (row : Nat) : Nat := if row = 0 then 2 else 4
def lensR (l : List (Nat × Nat)) (row : Nat) : Nat → Nat × Nat × Nat → Nat × Nat × Nat
  | 0, s => s
  | i + 1, s => if toldN l row i < (lensR l row i s).2.2 then (ofN row, i, toldN l row i) else lensR l row i s
def lensAt (d : RowsD) (l : List (Nat × Nat)) : Nat → Nat × Nat × Nat
  | 0 => (0, 0, l.length + 1)
  | row + 1 => lensR l row (lenR d row) (lensAt d l row)
def lensE (d : RowsD) (p : Int) : Int := if gatE d p = 0 then (if (casesL d p).length ≤ 1 then 4 else 0) else gatE d p
def lensV (d : RowsD) (p : Int) : Nat × Nat × Nat := if lensE d p = 0 then lensAt d (casesL d p) 2 else (0, 0, 0)
theorem yesN_le (l : List (Nat × Nat)) (row i : Nat) : yesN l row i ≤ l.length := List.countP_le_length
theorem yesN_snoc {l : List (Nat × Nat)} {row i k : Nat} {x : Nat × Nat} (h : l[k]? = some x) : yesN (l.take (k + 1)) row i = yesN (l.take k) row i + if (xAt x row).testBit i then 1 else 0 := by
  unfold yesN
  rw [take_at h, List.countP_append, List.countP_singleton]
theorem toldN_le (l : List (Nat × Nat)) (row i : Nat) : toldN l row i ≤ l.length := by
  have := yesN_le l row i
  unfold toldN; omega
theorem lensR_bd {l : List (Nat × Nat)} {row : Nat} : ∀ {i : Nat} {s : Nat × Nat × Nat}, s.1 ≤ 4 → s.2.1 ≤ 100000 → s.2.2 ≤ l.length + 1 → i ≤ 100000 → (lensR l row i s).1 ≤ 4 ∧ (lensR l row i s).2.1 ≤ 100000 ∧ (lensR l row i s).2.2 ≤ l.length + 1
  | 0, _, h1, h2, h3, _ => ⟨h1, h2, h3⟩
  | i + 1, s, h1, h2, h3, h4 => by
    have ih := lensR_bd (l := l) (row := row) (i := i) h1 h2 h3 (by omega)
    have := toldN_le l row i
    rw [lensR]
    split
    · exact ⟨by unfold ofN; split <;> omega, by simp only; omega, by simp only; omega⟩
    · exact ih
theorem lensE_ok {d : RowsD} {p : Int} (h : gatE d p = 0) (h2 : 1 < (casesL d p).length) : lensE d p = 0 := by unfold lensE; rw [if_pos h, if_neg (by omega)]
theorem lensE_4 {d : RowsD} {p : Int} (h : gatE d p = 0) (h2 : (casesL d p).length ≤ 1) : lensE d p = 4 := by unfold lensE; rw [if_pos h, if_pos h2]
theorem lensE_no {d : RowsD} {p : Int} (h : gatE d p ≠ 0) : lensE d p = gatE d p ∧ lensE d p ≠ 0 := by unfold lensE; rw [if_neg h]; exact ⟨rfl, h⟩
end Go.MatM
namespace Go.MatM
open Go Go.Sy Go.Proofs Go.RowKit
def restD (d : RowsD) (p : Int) : RowsD := if gatE d p = 0 then woD d (joinL (casesL d p)).a else ⟨[], [], 0, 0, 0⟩
theorem restD_ok {d : RowsD} {p : Int} (h : gatE d p = 0) : restD d p = woD d (joinL (casesL d p)).a := if_pos h
theorem restD_no {d : RowsD} {p : Int} (h : gatE d p ≠ 0) : restD d p = ⟨[], [], 0, 0, 0⟩ := if_neg h
theorem joinV_a {d : RowsD} {p : Int} (h : gatE d p = 0) : (joinV d p).a = (joinL (casesL d p)).a := by unfold joinV; rw [if_pos h]
/-- What the iterator of sets looks at, where some sets have been looked at. -/
theorem ownC_mkM {d : RowsD} {p : Int} {sa sb : Option Addr} {ca cb bm Bc B1 cm : Nat} {es : Array MapEntry} {N : List Nat} {w : World} (hm : w.heap[bm]? = some (.map es cm)) (hM : MemoV enc2 (leftV d) es) (hc : w.heap[Bc]? = some (.cells (canC d p sa sb ca cb bm) 109 (0, 0))) (h1 : w.heap[B1]? = some (.cells #[ptr Bc 0] 66 (0, 0)))
    (n1 : bm ∉ N) (n2 : Bc ∉ N) (n3 : B1 ∉ N) (hA : MkN N w sa d.l) (hB : MkN N w sb d.r) : OwnC d p sa sb ca cb bm Bc [(B1, .cells #[ptr Bc 0] 66)] N w :=
  ⟨⟨_, _, hm, hM⟩, n1, Held.cons hc n2 (Held.cons h1 n3 (Held.nil _ _)), by
    simp only [List.map_cons, List.map_nil, List.mem_cons, List.not_mem_nil, or_false, not_or]
    exact ⟨fun h => (by rw [h, hc] at hm; cases hm), fun h => (by rw [h, h1] at hm; cases hm)⟩, hA, hB⟩
theorem MkN.off {u : World} {sa : Option Addr} {l : List Mk} {b : Nat} {es : Array MapEntry} {c : Nat} (h : MkAt u sa l) (hm : u.heap[b]? = some (.map es c)) : MkN [b] u sa l := fun i s hi => by
  obtain ⟨blk, off, c2, T, fr, h1, h2, h3⟩ := h i s hi
  exact ⟨blk, off, c2, T, fr, h1, h2, h3, fun hx => by rw [List.mem_singleton.1 hx, hm] at h2; cases h2⟩
theorem max_cast (a b : Nat) : max (a : Int) (b : Int) = ((max a b : Nat) : Int) := by omega
end Go.MatM
namespace Go.Proofs.Ytidieepndphodaa
open Go Go.Sy Go.MatM
theorem meth87 : methB Try.prog 87 "pairworks/paint.add" = some 115 := by kernel_rfl
theorem p14 (d : RowsD) (p : Int) (sa sb : Option Addr) (ca cb : Nat) (u : World) (hA : MkAt u sa d.l) (hB : MkAt u sb d.r) :
    Calls Try.prog 14 #[canV d p sa sb ca cb] u (Ret fun v w' => v = .tuple #[.int .i64 ((firstV d p).1 : Nat), .int .i64 ((firstV d p).2 : Nat), .int .i64 (gatE d p)] ∧ Ext [] u w') := by
  refine calls_ofM Try.func14 rfl rfl (fun a hf => ?_)
  have hh := Hp.init u []
  refine sy_sq ?_
  refine o_box hf hh ?_; clear hf hh a; intro B1 a w hf hh
  refine o_v hf hh (yv_assign rfl) ?_; clear hf a; intro a hf
  refine o_v hf hh (yv_assign rfl) ?_; clear hf a; intro a hf
  refine o_alloc hf hh Try.ze_22 ?_; clear hf hh a; intro B4 a w hf hh
  refine o_end ?_
  refine sy_sq ?_
  refine o_v hf hh (yv_makeFunc rfl rfl) ?_; clear hf a; intro a hf
  refine o_defer hf ?_; clear hf a; intro a hf
  refine o_end ?_
  refine sy_sq ?_
  refine o_alloc hf hh Try.ze_86 ?_; clear hf hh a; intro B5 a w hf hh
  refine o_end ?_
  refine sy_sq ?_
  refine o_v hf hh (y_lds Try.ag_31 rfl) ?_; clear hf a; intro a hf
  refine o_callX hf Try.en_35 rfl rfl rfl (p35 d p sa sb ca cb _ (hA.ext hh.ext) (hB.ext hh.ext) 42 _ true Try.en_42 (fun hok bm Bc w2 e hc => p42 (ptr Bc 0) w2)) ?_ ?_
  ·clear hf a; intro v a w hR hf
   obtain ⟨he, bm, Bc, rfl, hx⟩ := hR; replace hh := hh.join hx; clear hx
   obtain ⟨hok, hask⟩ := openE_zero.1 he
   obtain ⟨hV, hp0, hp3⟩ := okCan_valid hok
   have hlen := casesL_len (p := p) hV
   refine o_v hf hh (yv_makeIface (by kernel_rfl) rfl) ?_; clear hf a; intro a hf
   have hq : Hp u [] [(bm, .map #[] 0), (B5, .cells #[.int .i64 ((0 : Nat) : Int), .int .u64 ((0 : Nat) : Int), .int .u64 ((0 : Nat) : Int)] 86), (Bc, .cells (canC d p sa sb ca cb bm) 109), (B4, .cells #[.int .i64 0] 22), (B1, .cells (canV d p sa sb ca cb).cells 31)] w := hh.perm ((List.Perm.swap _ _ _).trans (.cons _ (List.Perm.swap _ _ _)))
   have hnq := hq.nodup
   have hNn : ∀ x ∈ [bm, B5], u.heap.size ≤ x := fun x hx => by
     simp only [List.mem_cons, List.not_mem_nil, or_false] at hx
     rcases hx with rfl | rfl
     · rcases hq.mine _ (.head _) with h | h
       · exact h
       · cases h
     · rcases hq.mine _ (.tail _ (.head _)) with h | h
       · exact h
       · cases h
   have hne : B5 ≠ Bc := fun h => (List.nodup_cons.1 (List.nodup_cons.1 hnq).2).1 (h ▸ .head _)
   refine o_callX hf Try.en_46 rfl rfl rfl (p46 d p sa sb ca cb bm Bc B5 _ hV hp0 hp3 (hq.at (i := 2) rfl) (hq.at (i := 0) rfl) (MkN.new hA hh.ext hNn) (MkN.new hB hh.ext hNn) 87 86 115 (fun k => (firstL ((casesL d p).take k)).cells) (hq.at (i := 1) rfl) hne meth87 Try.en_115 (fun k x w2 hk h2 => by
     have hx := casesL_lt hV (List.mem_of_getElem? hk)
     have hk2 := (List.getElem?_eq_some_iff.1 hk).1
     have e := p115 (firstL ((casesL d p).take k)) x B5 w2 (by rw [firstL_n, List.length_take]; omega) (firstT_ok hV k) hx.1 hx.2 h2
     rw [← firstL_snoc, ← take_at hk] at e
     exact e)) ?_ ?_
   ·clear hf a; intro v a w hR hf
    obtain ⟨hpos, es, cm, hM, hx⟩ := hR
    have hgat := gatE_ok (show casesE d p = 0 from he) hpos
    rw [List.take_length] at hx
    replace hh := hq.swap' (X := [(bm, .map #[] 0), (B5, .cells #[.int .i64 ((0 : Nat) : Int), .int .u64 ((0 : Nat) : Int), .int .u64 ((0 : Nat) : Int)] 86)]) (Z := [(Bc, .cells (canC d p sa sb ca cb bm) 109), (B4, .cells #[.int .i64 0] 22), (B1, .cells (canV d p sa sb ca cb).cells 31)]) (.refl _) hx
    clear hx hq
    have hfo := firstL_ok fun x hx => casesL_lt (p := p) hV hx
    have o1 := hfo.1; have o2 := hfo.2
    refine o_end ?_
    refine sy_seq ?_
    refine sy_tail (C := Hp _ _ _) 10 Try.follows (by kernel_rfl) rfl rfl (hh.drawn _) ?_
    refine oq_v hf (yv_fieldAddr Try.fo_86_1 rfl) ?_; clear hf a; intro a hf
    refine oq_v hf (y_ia Try.ae_73 rfl rfl) ?_; clear hf a; intro a hf
    refine oq_v hf (y_ld Try.sc_71 rfl) ?_; clear hf a; intro a hf
    refine q_v hf (yv_cast (yv_convx (.inl rfl) (by kernel_rfl) (by kernel_rfl) rfl (by omega) (by simp only [IntKind.top]; omega)) (intv (b := ((firstL (casesL d p)).b.1 : Nat)) rfl)) (.inl rfl) rfl rfl ?_; clear hf a; intro a hf
    refine oq_v hf (yv_fieldAddr Try.fo_86_1 rfl) ?_; clear hf a; intro a hf
    refine oq_v hf (y_ia Try.ae_73 rfl rfl) ?_; clear hf a; intro a hf
    refine oq_v hf (y_ld Try.sc_71 rfl) ?_; clear hf a; intro a hf
    refine q_v hf (yv_cast (yv_convx (.inl rfl) (by kernel_rfl) (by kernel_rfl) rfl (by omega) (by simp only [IntKind.top]; omega)) (intv (b := ((firstL (casesL d p)).b.2 : Nat)) rfl)) (.inl rfl) rfl rfl ?_; clear hf a; intro a hf
    refine oq_v hf (yv_assign rfl) ?_; clear hf a; intro a hf
    refine oq_v hf (yv_assign rfl) ?_; clear hf a; intro a hf
    refine q_end fun w hh => ?_
    refine o_store hf hh Try.sz_22 fun w hh => ?_
    refine o_end ?_
    refine sy_ret ?_
    exact ret_d (Ds := []) hf hh Try.en_47 (fun w' => d47r B4 w') fun w' hh => ⟨[.int .i64 ((firstL (casesL d p)).b.1 : Nat), .int .i64 ((firstL (casesL d p)).b.2 : Nat), .int .i64 0], ⟨rfl, rfl, ⟨B4, 0, _, _, _, rfl, hh.at (i := 3) rfl, .inl ⟨Try.sc_22, rfl⟩⟩, True.intro⟩, by
      unfold firstV; rw [hgat, if_pos rfl]; rfl, hh.ext⟩
   ·intro ch w hX hf
    obtain ⟨rfl, hno, hx⟩ := hX
    have hgat := gatE_4 (show casesE d p = 0 from he) hno
    replace hh := hh.less (.cons _ (.cons _ (.cons _ (.refl _))))
    replace hh := hh.others hx (fun x hx => ⟨fun h => by
      have hb4 := (List.nodup_cons.1 (List.nodup_cons.1 hnq).2).1
      have h4 := (List.nodup_cons.1 hnq).1
      rcases List.mem_cons.1 hx with rfl | hx
      · exact h4 (.tail _ (.tail _ h))
      · rw [List.mem_singleton.1 hx] at h; exact hb4 (.tail _ h), .inr (hNn x hx)⟩)
    clear hx
    refine then_p ?_
    exact pan_d (Ds := []) hf hh Try.en_47 (fun w' hh => d47p B4 _ 0 w' (hh.at (i := 0) rfl)) fun w' w'' hh h2 => ⟨[.int .i64 0, .int .i64 0, .int .i64 (4)], ⟨rfl, rfl, ⟨B4, 0, _, _, _, rfl, h2.at (i := 0) rfl, .inl ⟨Try.sc_22, rfl⟩⟩, True.intro⟩, by
      unfold firstV; rw [hgat, if_neg (by omega)]; rfl, (hh.turn (i := 0) rfl h2.ext (h2.at (i := 0) rfl)).ext⟩
  ·intro ch w hX hf
   obtain ⟨rfl, he, hx⟩ := hX; replace hh := hh.more hx; clear hx
   refine then_p ?_
   exact pan_d (Ds := []) hf hh Try.en_47 (fun w' hh => d47p B4 _ 0 w' (hh.at (i := 1) rfl)) fun w' w'' hh h2 => ⟨[.int .i64 0, .int .i64 0, .int .i64 (casesE d p)], ⟨rfl, rfl, ⟨B4, 0, _, _, _, rfl, h2.at (i := 0) rfl, .inl ⟨Try.sc_22, rfl⟩⟩, True.intro⟩, by
     have e1 := gatE_no (d := d) (p := p) he
     unfold firstV; rw [if_neg e1.2, e1.1]; rfl, (hh.turn (i := 1) rfl h2.ext (h2.at (i := 0) rfl)).ext⟩
theorem p23 (d : RowsD) (p : Int) (sa sb : Option Addr) (ca cb : Nat) (u : World) (hA : MkAt u sa d.l) (hB : MkAt u sb d.r) :
    Calls Try.prog 23 #[canV d p sa sb ca cb] u (Ret fun v w' => ∃ oa ob cpa cpb X1 X2, v = .tuple #[rowsV (restD d p) oa ob cpa cpb, .int .i64 (gatE d p)] ∧ OwnSl 54 4 (.slice oa (restD d p).l.length cpa) (restD d p).l.length (encM (restD d p).l) X1 ∧ OwnSl 54 4 (.slice ob (restD d p).r.length cpb) (restD d p).r.length (encM (restD d p).r) X2 ∧ Hp u [] (X1 ++ X2) w') := by
  refine calls_ofM Try.func23 rfl rfl (fun a hf => ?_)
  have hh := Hp.init u []
  refine sy_sq ?_
  refine o_box hf hh ?_; clear hf hh a; intro B1 a w hf hh
  refine o_alloc hf hh Try.ze_29 ?_; clear hf hh a; intro B2 a w hf hh
  refine o_alloc hf hh Try.ze_22 ?_; clear hf hh a; intro B3 a w hf hh
  refine o_end ?_
  refine sy_sq ?_
  refine o_v hf hh (yv_makeFunc rfl rfl) ?_; clear hf a; intro a hf
  refine o_defer hf ?_; clear hf a; intro a hf
  refine o_end ?_
  refine sy_sq ?_
  refine o_v hf hh (y_lds Try.ag_31 rfl) ?_; clear hf a; intro a hf
  refine o_callX hf Try.en_35 rfl rfl rfl (p35 d p sa sb ca cb _ (hA.ext hh.ext) (hB.ext hh.ext) 42 _ true Try.en_42 (fun hok bm Bc w2 e hc => p42 (ptr Bc 0) w2)) ?_ ?_
  ·clear hf a; intro v a w hR hf
   obtain ⟨he, bm, Bc, rfl, hx⟩ := hR; replace hh := hh.join hx; clear hx
   obtain ⟨hok, hask⟩ := openE_zero.1 he
   obtain ⟨hV, hp0, hp3⟩ := okCan_valid hok
   have hlen := casesL_len (p := p) hV
   refine o_v hf hh (yv_assign rfl) ?_; clear hf a; intro a hf
   refine o_end ?_
   refine sy_sq ?_
   refine o_alloc hf hh Try.ze_89 ?_; clear hf hh a; intro B5 a w hf hh
   refine o_end ?_
   refine sy_sq ?_
   refine o_v hf hh (yv_move rfl) ?_; clear hf a; intro a hf
   refine o_v hf hh (yv_makeIface (by kernel_rfl) rfl) ?_; clear hf a; intro a hf
   have hq : Hp u [] [(bm, .map #[] 0), (B5, .cells #[.int .i64 ((0 : Nat) : Int), .int .u64 ((0 : Nat) : Int), .int .u64 ((0 : Nat) : Int), .int .u64 ((0 : Nat) : Int), .int .u64 ((0 : Nat) : Int)] 89), (Bc, .cells (canC d p sa sb ca cb bm) 109), (B3, .cells #[.int .i64 0] 22), (B2, .cells #[.slice none 0 0, .slice none 0 0, .int .i64 0, .int .i64 0, .int .i64 0] 29), (B1, .cells (canV d p sa sb ca cb).cells 31)] w := hh.perm ((List.Perm.cons _ (List.Perm.swap _ _ _)).trans (List.Perm.swap _ _ _))
   have hnq := hq.nodup
   have hNn : ∀ x ∈ [bm, B5], u.heap.size ≤ x := fun x hx => by
     simp only [List.mem_cons, List.not_mem_nil, or_false] at hx
     rcases hx with rfl | rfl
     · rcases hq.mine _ (.head _) with h | h
       · exact h
       · cases h
     · rcases hq.mine _ (.tail _ (.head _)) with h | h
       · exact h
       · cases h
   have hne : B5 ≠ Bc := fun h => (List.nodup_cons.1 (List.nodup_cons.1 hnq).2).1 (h ▸ .head _)
   refine o_callX hf Try.en_46 rfl rfl rfl (p46 d p sa sb ca cb bm Bc B5 _ hV hp0 hp3 (hq.at (i := 2) rfl) (hq.at (i := 0) rfl) (MkN.new hA hh.ext hNn) (MkN.new hB hh.ext hNn) 90 89 123 (fun k => (joinL ((casesL d p).take k)).cells) (hq.at (i := 1) rfl) hne meth90 Try.en_123 (fun k x w2 hk h2 => by
     have hx := casesL_lt hV (List.mem_of_getElem? hk)
     have hk2 := (List.getElem?_eq_some_iff.1 hk).1
     have e := p123 (joinL ((casesL d p).take k)) x B5 w2 (by rw [joinL_n, List.length_take]; omega) (joinT_ok hV k) hx.1 hx.2 h2
     rw [← joinL_snoc, ← take_at hk] at e
     exact e)) ?_ ?_
   ·clear hf a; intro v a w hR hf
    obtain ⟨hpos, es, cm, hM, hx⟩ := hR
    have hgat := gatE_ok (show casesE d p = 0 from he) hpos
    rw [List.take_length] at hx
    replace hh := hq.swap' (X := [(bm, .map #[] 0), (B5, .cells #[.int .i64 ((0 : Nat) : Int), .int .u64 ((0 : Nat) : Int), .int .u64 ((0 : Nat) : Int), .int .u64 ((0 : Nat) : Int), .int .u64 ((0 : Nat) : Int)] 89)]) (Z := [(Bc, .cells (canC d p sa sb ca cb bm) 109), (B3, .cells #[.int .i64 0] 22), (B2, .cells #[.slice none 0 0, .slice none 0 0, .int .i64 0, .int .i64 0, .int .i64 0] 29), (B1, .cells (canV d p sa sb ca cb).cells 31)]) (.refl _) hx
    clear hx hq
    have hjo := joinL_ok fun x hx => casesL_lt (p := p) hV hx
    refine o_end ?_
    refine sy_sq ?_
    refine o_v hf hh (yv_move rfl) ?_; clear hf a; intro a hf
    refine o_v hf hh (yv_fieldAddr Try.fo_89_2 rfl) ?_; clear hf a; intro a hf
    refine o_v hf hh (y_lds Try.ag_73 rfl) ?_; clear hf a; intro a hf
    refine o_call hf Try.en_56 rfl rfl rfl (p56 d p sa sb ca cb bm Bc _ (hh.at (i := 2) rfl) (hA.ext hh.ext) (hB.ext hh.ext) hV (joinL (casesL d p)).a hjo.a1 hjo.a2) ?_; clear hf a; intro v a w hR hf
    obtain ⟨oa, ob, cpa, cpb, X1, X2, rfl, hO1, hO2, hx⟩ := hR; replace hh := (hh.join hx).perm List.perm_append_comm; clear hx
    refine o_store hf hh Try.sz_29 fun w hh => ?_
    refine o_store hf hh Try.sz_22 fun w hh => ?_
    refine o_end ?_
    refine sy_ret ?_
    exact ret_d (Ds := []) hf hh Try.en_55 (fun w' => d55r B3 w') fun w' hh => ⟨[rowsV (woD d (joinL (casesL d p)).a) oa ob cpa cpb, .int .i64 0], ⟨⟨B2, 0, _, 29, (0, 0), rfl, hh.at (i := 4) rfl, .inr ⟨5, _, Try.ag_29, rfl, rfl⟩⟩, ⟨B3, 0, _, _, _, rfl, hh.at (i := 3) rfl, .inl ⟨Try.sc_22, rfl⟩⟩, True.intro⟩, by
      rw [restD_ok hgat, hgat]
      exact ⟨oa, ob, cpa, cpb, X1, X2, rfl, hO1, hO2, hh.less (List.sublist_append_right [_, _, _, _, _, _] _)⟩⟩
   ·intro ch w hX hf
    obtain ⟨rfl, hno, hx⟩ := hX
    have hgat := gatE_4 (show casesE d p = 0 from he) hno
    replace hh := hh.less (.cons _ (.cons _ (.cons _ (.refl _))))
    replace hh := hh.others hx (fun x hx => ⟨fun h => by
      have hb4 := (List.nodup_cons.1 (List.nodup_cons.1 hnq).2).1
      have h4 := (List.nodup_cons.1 hnq).1
      rcases List.mem_cons.1 hx with rfl | hx
      · exact h4 (.tail _ (.tail _ h))
      · rw [List.mem_singleton.1 hx] at h; exact hb4 (.tail _ h), .inr (hNn x hx)⟩)
    clear hx
    refine then_p ?_
    exact pan_d (Ds := []) hf hh Try.en_55 (fun w' hh => d55p B3 _ 0 w' (hh.at (i := 0) rfl)) fun w' w'' hh h2 => by
      have h3 := hh.turn (i := 0) rfl h2.ext (h2.at (i := 0) rfl)
      have e1 : restD d p = ⟨[], [], 0, 0, 0⟩ ∧ gatE d p = 4 := by
        exact ⟨restD_no (by omega), hgat⟩
      refine ⟨[rowsV ⟨[], [], 0, 0, 0⟩ none none 0 0, .int .i64 (4)], ⟨⟨B2, 0, _, 29, (0, 0), rfl, h3.at (i := 1) rfl, .inr ⟨5, _, Try.ag_29, rfl, rfl⟩⟩, ⟨B3, 0, _, _, _, rfl, h3.at (i := 0) rfl, .inl ⟨Try.sc_22, rfl⟩⟩, True.intro⟩, none, none, 0, 0, [], [], ?_, ?_, ?_, h3.less (List.nil_sublist _)⟩
      · rw [e1.1, e1.2]; rfl
      · rw [e1.1]; exact OwnSl.nil _ _
      · rw [e1.1]; exact OwnSl.nil _ _
  ·intro ch w hX hf
   obtain ⟨rfl, he, hx⟩ := hX; replace hh := hh.more hx; clear hx
   refine then_p ?_
   exact pan_d (Ds := []) hf hh Try.en_55 (fun w' hh => d55p B3 _ 0 w' (hh.at (i := 0) rfl)) fun w' w'' hh h2 => by
     have h3 := hh.turn (i := 0) rfl h2.ext (h2.at (i := 0) rfl)
     have e1 : restD d p = ⟨[], [], 0, 0, 0⟩ ∧ gatE d p = casesE d p := by
       have e1 := gatE_no (d := d) (p := p) he
       exact ⟨restD_no e1.2, e1.1⟩
     refine ⟨[rowsV ⟨[], [], 0, 0, 0⟩ none none 0 0, .int .i64 (casesE d p)], ⟨⟨B2, 0, _, 29, (0, 0), rfl, h3.at (i := 1) rfl, .inr ⟨5, _, Try.ag_29, rfl, rfl⟩⟩, ⟨B3, 0, _, _, _, rfl, h3.at (i := 0) rfl, .inl ⟨Try.sc_22, rfl⟩⟩, True.intro⟩, none, none, 0, 0, [], [], ?_, ?_, ?_, h3.less (List.nil_sublist _)⟩
     · rw [e1.1, e1.2]; rfl
     · rw [e1.1]; exact OwnSl.nil _ _
     · rw [e1.1]; exact OwnSl.nil _ _
end Go.Proofs.Ytidieepndphodaa
namespace Go.Proofs.Ytidieepndphodaa
open Go Go.Sy Go.MatM
set_option maxRecDepth 100000 in
theorem p51 (d : RowsD) (p : Int) (sa sb : Option Addr) (ca cb bm Bc Bp Bj cm : Nat) (es : Array MapEntry) (u : World) (hV : Valid d) (hp0 : 0 ≤ p) (hp3 : p ≤ 3) (hc : u.heap[Bc]? = some (.cells (canC d p sa sb ca cb bm) 109 (0, 0))) (hm : u.heap[bm]? = some (.map es cm)) (hM : MemoV enc2 (leftV d) es) (hA : MkAt u sa d.l) (hB : MkAt u sb d.r)
    (row mk : Nat) (hrow : row < 2) (hmk : mk ≤ 60) (o1 o2 a1 a2 : Value) (hp : u.heap[Bp]? = some (.cells #[ptr Bc 0] 66 (0, 0))) (hj : u.heap[Bj]? = some (.cells #[.int .i64 ((casesL d p).length : Nat), o1, o2, a1, a2] 89 (0, 0))) :
    Calls Try.prog 51 #[.int .i64 (row : Nat), .int .i64 (mk : Nat), ptr Bp 0, ptr Bj 0] u (Ret fun v w' => v = .int .i64 (toldN (casesL d p) row mk : Nat) ∧ ∃ es' cm', MemoV enc2 (leftV d) es' ∧ Hp u [bm] [(bm, .map es' cm')] w') := by
  refine calls_ofM Try.func51 rfl rfl (fun a hf => ?_)
  have hh := Hp.init u []
  have hlen := casesL_len (p := p) hV
  have hjm : Bj ∉ [bm] := fun h => by rw [List.mem_singleton.1 h, hm] at hj; cases hj
  refine sy_sq ?_
  refine o_box hf hh ?_; clear hf hh a; intro B4 a w hf hh
  refine o_box hf hh ?_; clear hf hh a; intro B5 a w hf hh
  refine o_v hf hh (yv_assign rfl) ?_; clear hf a; intro a hf
  refine o_end ?_
  refine sy_sq ?_
  refine o_alloc hf hh Try.ze_3 ?_; clear hf hh a; intro B7 a w hf hh
  refine o_store hf hh Try.sz_3 fun w hh => ?_
  refine o_end ?_
  refine sy_seq ?_
  refine sy_sq ?_
  refine o_v hf hh (y_ld Try.sc_66 rfl) ?_; clear hf a; intro a hf
  refine o_call hf Try.en_43 rfl rfl rfl (p43 Bc _) ?_; clear hf a; intro v a w hR hf
  obtain ⟨Bi, rfl, hx⟩ := hR; replace hh := hh.join hx; clear hx
  have hq : Hp u [] [(Bi, .cells #[ptr Bc 0] 66), (B7, .cells #[.int .i64 ((0 : Nat) : Nat)] 3), (B5, .cells #[.int .i64 (mk : Nat)] 3), (B4, .cells #[.int .i64 (row : Nat)] 3)] w := hh
  replace hh := hq.less (.cons _ (.refl _))
  replace hh : Hp u [bm] [(B7, .cells #[.int .i64 ((0 : Nat) : Nat)] 3), (B5, .cells #[.int .i64 (mk : Nat)] 3), (B4, .cells #[.int .i64 (row : Nat)] 3)] w := ⟨hh.ext.mono (by simp), hh.get, hh.nodup, fun q h => (hh.mine q h).imp id (fun h => by cases h)⟩
  refine o_end ?_
  refine sy_block ?_
  refine sy_rangeH (I := fun k H => H = [(B7, .cells #[.int .i64 (yesN ((casesL d p).take k) row mk : Nat)] 3), (B5, .cells #[.int .i64 (mk : Nat)] 3), (B4, .cells #[.int .i64 (row : Nat)] 3)]) (X := fun _ _ _ => False) hf hh Try.en_70 rfl (it70 d p sa sb ca cb bm Bc Bi hV hp0 hp3) (fun x hx => .inl (by rw [List.mem_singleton.1 hx]; simp)) rfl (by intro x hx; obtain ⟨y, _, rfl⟩ := List.mem_map.1 hx; rfl) ?_ ?_ ?_ ?_ ?_ ?_
  · rfl
  · intro N1 w1 e1 g1
    have hbm := hq.old hm
    have hnd := hq.nodup
    have k1 : Bi ∉ [B7, B5, B4] := (List.nodup_cons.1 hnd).1
    have fr : ∀ x ∈ [B7, B5, B4], u.heap.size ≤ x := fun x hx => by
      have h2 : x ∈ [(Bi, Obj.cells #[ptr Bc 0] 66), (B7, .cells #[.int .i64 ((0 : Nat) : Nat)] 3), (B5, .cells #[.int .i64 (mk : Nat)] 3), (B4, .cells #[.int .i64 (row : Nat)] 3)].map Prod.fst := .tail _ hx
      obtain ⟨q, hq1, rfl⟩ := List.mem_map.1 h2
      rcases hq.mine q hq1 with h | h
      · exact h
      · cases h
    have lc := (Array.getElem?_eq_some_iff.1 hc).1
    have lm := (Array.getElem?_eq_some_iff.1 hm).1
    have off : ∀ x, x < u.heap.size → x ∉ [B7, B5, B4] := fun x hx h => by
      have := fr x h
      omega
    exact (ownC_mkM hbm hM (hq.old hc) (hq.at (i := 0) rfl) (off bm lm) (off Bc lc) k1 (MkN.new hA hq.ext fr) (MkN.new hB hq.ext fr)).step (e1.mono (by simp)) g1
  ·rintro k x fn D l H w a tm hx rfl hv hh hf
   obtain ⟨x, hxk, rfl⟩ : ∃ y, (casesL d p)[k]? = some y ∧ x = cA y := by
     rw [List.getElem?_map] at hx
     cases e : (casesL d p)[k]? with
     | none => rw [e] at hx; cases hx
     | some y => rw [e] at hx; cases hx; exact ⟨y, rfl, rfl⟩
   have hkl := (List.getElem?_eq_some_iff.1 hxk).1
   refine sy_ops ?_
   refine o_alloc hf hh Try.ze_73 ?_; clear hf hh a; intro B8 a w hf hh
   refine o_store hf hh Try.sz_73 fun w hh => ?_
   refine ops_end ?_
   refine then_n (Go.Sy.begun (i := 1) hh rfl fun w hh => ?_)
   refine sy_block ?_
   refine sy_seq ?_
   have hxi : #[Value.int .u64 (x.1 : Nat), Value.int .u64 (x.2 : Nat)][((row : Nat) : Int).toNat * 1]? = some (.int .u64 (xAt x row : Nat)) := by rcases (show row = 0 ∨ row = 1 by omega) with rfl | rfl <;> rfl
   have hx0 : #[Value.int .u64 (x.1 : Nat), Value.int .u64 (x.2 : Nat)][0 + ((row : Nat) : Int).toNat * 1]? = some (.int .u64 (xAt x row : Nat)) := by rcases (show row = 0 ∨ row = 1 by omega) with rfl | rfl <;> rfl
   have hxl : xAt x row < 65536 := by
     have := casesL_lt hV (List.mem_of_getElem? hxk)
     unfold xAt; split
     · exact this.1
     · exact this.2
   have hyl := yesN_le ((casesL d p).take k) row mk
   rw [List.length_take] at hyl
   have hys := yesN_snoc (row := row) (i := mk) hxk
   refine sy_quiet (C := Hp _ _ _) Try.follows (by kernel_rfl) (hh.drawn _) ?_
   refine oq_v hf (y_ld Try.sc_3 rfl) ?_; clear hf a; intro a hf
   refine oq_v hf (y_ia Try.ae_73 rfl rfl) ?_; clear hf a; intro a hf
   refine oq_v hf (y_ld Try.sc_71 rfl) ?_; clear hf a; intro a hf
   refine oq_v hf (y_ld Try.sc_3 rfl) ?_; clear hf a; intro a hf
   refine oq_call hf Try.en_52 rfl rfl rfl (fun w hh => p52 (xAt x row) mk hxl hmk _) ?_; clear hf a; intro a hf
   refine q_end fun w hh => ?_
   refine then_n ?_
   refine sy_cond hf rfl (fun hg4 => ?_) (fun hg4 => ?_)
   ·have hG4 := hg4; try simp only [gS] at hG4
    refine sy_ops ?_
    refine o_v hf hh (y_ld Try.sc_3 rfl) ?_; clear hf a; intro a hf
    refine o_v hf hh (y_add rfl rfl) ?_; clear hf a; intro a hf
    refine o_store hf hh Try.sz_3 fun w hh => ?_
    refine ops_end ?_
    refine blk_n ?_
    first
      | (rw [if_pos (by assumption)] at hys
         exact ⟨_, by rw [hys]; rfl, (hh.less (.cons _ (List.Sublist.refl _)))⟩)
      | (rw [if_neg (by simp_all)] at hys
         exact ⟨_, by rw [hys]; rfl, (hh.less (.cons _ (List.Sublist.refl _)))⟩)
      | omega
   ·have hG4 := hg4; try simp only [gS] at hG4
    refine sy_skip ?_
    refine blk_n ?_
    first
      | (rw [if_pos (by assumption)] at hys
         exact ⟨_, by rw [hys]; rfl, (hh.less (.cons _ (List.Sublist.refl _)))⟩)
      | (rw [if_neg (by simp_all)] at hys
         exact ⟨_, by rw [hys]; rfl, (hh.less (.cons _ (List.Sublist.refl _)))⟩)
      | omega
  ·rintro D H N2 a w rfl hOw hf hh
   rw [List.length_map, List.take_length] at hh
   obtain ⟨es2, cm2, hbm, hM2⟩ := hOw.memo
   have hyl := yesN_le (casesL d p) row mk
   refine blk_n ?_
   refine then_n ?_
   refine sy_sq ?_
   refine o_v hf hh (y_ld Try.sc_3 rfl) ?_; clear hf a; intro a hf
   refine o_v hf hh (yv_fieldAddr Try.fo_89_0 rfl) ?_; clear hf a; intro a hf
   refine o_v hf hh (yv_fieldAddr Try.fo_76_0 rfl) ?_; clear hf a; intro a hf
   refine o_v hf hh (y_ld Try.sc_3 rfl) ?_; clear hf a; intro a hf
   refine o_v hf hh (y_ld Try.sc_3 rfl) ?_; clear hf a; intro a hf
   refine o_v hf hh (y_sub rfl rfl) ?_; clear hf a; intro a hf
   refine o_v hf hh (yv_max rfl rfl) ?_; clear hf a; intro a hf
   refine o_v hf hh (yv_assign rfl) ?_; clear hf a; intro a hf
   refine o_end ?_
   refine sy_ret ?_
   have hbn : bm ∉ [D] := fun h => by
     have := hh.at (i := 0) rfl
     rw [← List.mem_singleton.1 h, hbm] at this; cases this
   have h3 := (Hp.addM (hh.less (.cons_cons _ (List.nil_sublist _))) hbm (.head _) hbn).perm (List.perm_append_comm (l₁ := [(bm, Obj.map es2 cm2)]) (l₂ := [(D, Obj.deferred (some []))]))
   exact ret_m (Ds := [D]) hf h3 fun w' hh => ⟨[_], ⟨rfl, True.intro⟩, by
     show Value.int _ _ = _
     unfold toldN; congr 1; omega, es2, cm2, hM2, hh⟩
  ·rintro k c D H N2 a w hX hOw hf hh
   exact hX.elim
  · rintro N v v' b h hb e; exact h.step (e.mono (by simpa using hb)) (.refl _ _)
end Go.Proofs.Ytidieepndphodaa
namespace Go.Proofs.Ytidieepndphodaa
open Go Go.Sy Go.MatM
theorem p38i (d : RowsD) (p : Int) (sa sb : Option Addr) (ca cb bm Bc : Nat) (u : World) (hc : u.heap[Bc]? = some (.cells (canC d p sa sb ca cb bm) 109 (0, 0))) (hl : d.l.length ≤ 1000) (hr : d.r.length ≤ 1000) (row : Nat) (hrow : row < 2) : Calls Try.prog 38 #[ptr Bc 0, .int .i64 (row : Nat)] u (Ret fun v w' => v = .int .i64 ((lenR d row : Nat) : Int) ∧ Ext [] u w') := by
  rcases (show row = 0 ∨ row = 1 by omega) with rfl | rfl
  · exact p38l d p sa sb ca cb bm Bc u hc hl hr
  · exact p38r d p sa sb ca cb bm Bc u hc hl hr
set_option maxRecDepth 100000 in
theorem p16 (d : RowsD) (p : Int) (sa sb : Option Addr) (ca cb : Nat) (u : World) (hA : MkAt u sa d.l) (hB : MkAt u sb d.r) :
    Calls Try.prog 16 #[canV d p sa sb ca cb] u (Ret fun v w' => v = .tuple #[.int .i64 ((lensV d p).1 : Nat), .int .i64 ((lensV d p).2.1 : Nat), .int .i64 ((lensV d p).2.2 : Nat), .int .i64 (lensE d p)] ∧ Ext [] u w') := by
  refine calls_ofM Try.func16 rfl rfl (fun a hf => ?_)
  have hh := Hp.init u []
  refine sy_sq ?_
  refine o_box hf hh ?_; clear hf hh a; intro B1 a w hf hh
  refine o_v hf hh (yv_assign rfl) ?_; clear hf a; intro a hf
  refine o_v hf hh (yv_assign rfl) ?_; clear hf a; intro a hf
  refine o_v hf hh (yv_assign rfl) ?_; clear hf a; intro a hf
  refine o_alloc hf hh Try.ze_22 ?_; clear hf hh a; intro B5 a w hf hh
  refine o_end ?_
  refine sy_sq ?_
  refine o_v hf hh (yv_makeFunc rfl rfl) ?_; clear hf a; intro a hf
  refine o_defer hf ?_; clear hf a; intro a hf
  refine o_end ?_
  refine sy_sq ?_
  refine o_v hf hh (y_lds Try.ag_31 rfl) ?_; clear hf a; intro a hf
  refine o_callX hf Try.en_35 rfl rfl rfl (p35 d p sa sb ca cb _ (hA.ext hh.ext) (hB.ext hh.ext) 42 _ true Try.en_42 (fun hok bm Bc w2 e hc => p42 (ptr Bc 0) w2)) ?_ ?_
  ·clear hf a; intro v a w hR hf
   obtain ⟨he, bm, Bc, rfl, hx⟩ := hR; replace hh := hh.join hx; clear hx
   obtain ⟨hok, hask⟩ := openE_zero.1 he
   obtain ⟨hV, hp0, hp3⟩ := okCan_valid hok
   have hlen := casesL_len (p := p) hV
   refine o_alloc hf hh Try.ze_66 ?_; clear hf hh a; intro B6 a w hf hh
   refine o_store hf hh Try.sz_66 fun w hh => ?_
   refine o_end ?_
   refine sy_sq ?_
   refine o_alloc hf hh Try.ze_89 ?_; clear hf hh a; intro B7 a w hf hh
   refine o_end ?_
   refine sy_sq ?_
   refine o_v hf hh (y_ld Try.sc_66 rfl) ?_; clear hf a; intro a hf
   refine o_v hf hh (yv_makeIface (by kernel_rfl) rfl) ?_; clear hf a; intro a hf
   have hq : Hp u [] [(bm, .map #[] 0), (B7, .cells #[.int .i64 ((0 : Nat) : Int), .int .u64 ((0 : Nat) : Int), .int .u64 ((0 : Nat) : Int), .int .u64 ((0 : Nat) : Int), .int .u64 ((0 : Nat) : Int)] 89), (Bc, .cells (canC d p sa sb ca cb bm) 109), (B6, .cells #[ptr Bc 0] 66), (B5, .cells #[.int .i64 0] 22), (B1, .cells (canV d p sa sb ca cb).cells 31)] w := hh.perm ((List.Perm.cons _ (List.Perm.swap _ _ _)).trans ((List.Perm.cons _ (List.Perm.cons _ (List.Perm.swap _ _ _))).trans ((List.Perm.cons _ (List.Perm.swap _ _ _)).trans (List.Perm.swap _ _ _))))
   have hnq := hq.nodup
   have hNn : ∀ x ∈ [bm, B7], u.heap.size ≤ x := fun x hx => by
     simp only [List.mem_cons, List.not_mem_nil, or_false] at hx
     rcases hx with rfl | rfl
     · rcases hq.mine _ (.head _) with h | h
       · exact h
       · cases h
     · rcases hq.mine _ (.tail _ (.head _)) with h | h
       · exact h
       · cases h
   have hne : B7 ≠ Bc := fun h => (List.nodup_cons.1 (List.nodup_cons.1 hnq).2).1 (h ▸ .head _)
   refine o_callX hf Try.en_46 rfl rfl rfl (p46 d p sa sb ca cb bm Bc B7 _ hV hp0 hp3 (hq.at (i := 2) rfl) (hq.at (i := 0) rfl) (MkN.new hA hh.ext hNn) (MkN.new hB hh.ext hNn) 90 89 123 (fun k => (joinL ((casesL d p).take k)).cells) (hq.at (i := 1) rfl) hne meth90 Try.en_123 (fun k x w2 hk h2 => by
     have hx := casesL_lt hV (List.mem_of_getElem? hk)
     have hk2 := (List.getElem?_eq_some_iff.1 hk).1
     have e := p123 (joinL ((casesL d p).take k)) x B7 w2 (by rw [joinL_n, List.length_take]; omega) (joinT_ok hV k) hx.1 hx.2 h2
     rw [← joinL_snoc, ← take_at hk] at e
     exact e)) ?_ ?_
   ·clear hf a; intro v a w hR hf
    obtain ⟨hpos, es, cm, hM, hx⟩ := hR
    have hgat := gatE_ok (show casesE d p = 0 from he) hpos
    rw [List.take_length] at hx
    replace hh := hq.swap' (X := [(bm, .map #[] 0), (B7, .cells #[.int .i64 ((0 : Nat) : Int), .int .u64 ((0 : Nat) : Int), .int .u64 ((0 : Nat) : Int), .int .u64 ((0 : Nat) : Int), .int .u64 ((0 : Nat) : Int)] 89)]) (Z := [(Bc, .cells (canC d p sa sb ca cb bm) 109), (B6, .cells #[ptr Bc 0] 66), (B5, .cells #[.int .i64 0] 22), (B1, .cells (canV d p sa sb ca cb).cells 31)]) (.refl _) hx
    clear hx hq
    refine o_end ?_
    refine sy_sq ?_
    refine o_v hf hh (yv_fieldAddr Try.fo_89_0 rfl) ?_; clear hf a; intro a hf
    refine o_v hf hh (yv_fieldAddr Try.fo_76_0 rfl) ?_; clear hf a; intro a hf
    refine o_v hf hh (y_ld Try.sc_3 rfl) ?_; clear hf a; intro a hf
    refine o_v hf hh (yv_bin rfl rfl rfl) ?_; clear hf a; intro a hf
    refine o_callX hf Try.en_50 rfl rfl rfl (p50 _ 4 _) ?_ ?_
    ·clear hf a; intro v a w hR hf
     obtain ⟨hb2, hx⟩ := hR; replace hh := hh.more hx; clear hx
     have hn1 : 1 < (casesL d p).length := by have := of_decide_eq_true hb2; rw [joinL_n] at this; omega
     have hle := lensE_ok hgat hn1
     have hjn := joinL_n (casesL d p)
     have hjc : (joinL (casesL d p)).cells = #[.int .i64 ((casesL d p).length : Nat), .int .u64 ((joinL (casesL d p)).o.1 : Nat), .int .u64 ((joinL (casesL d p)).o.2 : Nat), .int .u64 ((joinL (casesL d p)).a.1 : Nat), .int .u64 ((joinL (casesL d p)).a.2 : Nat)] := by unfold Jn.cells; rw [hjn]
     refine o_end ?_
     refine sy_sq ?_
     refine o_v hf hh (yv_makeFunc rfl rfl) ?_; clear hf a; intro a hf
     refine o_v hf hh (yv_assign rfl) ?_; clear hf a; intro a hf
     refine o_end ?_
     refine sy_sq ?_
     refine o_v hf hh (yv_fieldAddr Try.fo_89_0 rfl) ?_; clear hf a; intro a hf
     refine o_v hf hh (yv_fieldAddr Try.fo_76_0 rfl) ?_; clear hf a; intro a hf
     refine o_v hf hh (y_ld Try.sc_3 rfl) ?_; clear hf a; intro a hf
     refine ops_v hf hh (yv_cast (yv_add rfl rfl (by omega) (by omega)) (intv (b := (((casesL d p).length + 1 : Nat) : Int)) (by omega))) (.inl rfl) rfl rfl rfl ?_; clear hf a; intro a hf
     refine o_v hf hh (yv_assign rfl) ?_; clear hf a; intro a hf
     refine o_end ?_
     refine sy_seq ?_
     refine sy_sq ?_
     refine ops_buildSl hf hh Try.bl_93_2 rfl rfl (.inl rfl) rfl ?_; clear hf hh; clear a; intro B29 a w hf hh
     refine o_v hf hh (yv_len Try.se_93 rfl) ?_; clear hf a; intro a hf
     refine o_v hf hh (yv_move rfl) ?_; clear hf a; intro a hf
     refine o_end ?_
     refine sy_block ?_
     refine sy_loopH (σ := Nat × Nat × Nat × Nat) [2, 3, 4, 9, 10, 11, 12, 31, 32, 33, 34, 35, 36, 37, 38, 39, 40, 41, 42, 43, 44, 45, 46, 47, 48, 49, 50, 51, 52, 53] (fun q => [(31, .int .i64 (q.1 : Nat)), (2, .int .i64 (q.2.1 : Nat)), (3, .int .i64 (q.2.2.1 : Nat)), (4, .int .i64 (q.2.2.2 : Nat))]) (fun q => fun w' => q.1 ≤ 2 ∧ q.2 = lensAt d (casesL d p) q.1 ∧ ∃ es cm, MemoV enc2 (leftV d) es ∧ Hp u [] [(B29, .cells #[.int .i64 2, .int .i64 4] 3), (B7, .cells (joinL (casesL d p)).cells 89), (bm, .map es cm), (Bc, .cells (canC d p sa sb ca cb bm) 109), (B6, .cells #[ptr Bc 0] 66), (B5, .cells #[.int .i64 0] 22), (B1, .cells (canV d p sa sb ca cb).cells 31)] w') (fun q => 2 - q.1) ((0, 0, 0, (casesL d p).length + 1)) hf ?_ ?_ ?_
     · repeat' (first | exact True.intro | refine And.intro rfl ?_)
     · exact ⟨Nat.zero_le _, rfl, es, cm, hM, hh⟩
     ·rintro q a w ⟨hi, hs, es, cm, hM1, hh⟩ hf
      obtain ⟨row, s1, s2, s3⟩ := q; simp only at hi hs hh hf ⊢
      refine sy_sq ?_
      refine o_v hf hh (yv_bin rfl rfl rfl) ?_; clear hf a; intro a hf
      refine o_end ?_
      refine sy_seq ?_
      refine sy_cond hf rfl (fun hg8 => ?_) (fun hg8 => ?_)
      ·have hG8 := hg8; try simp only [gS] at hG8
       refine sy_skip ?_
       refine then_n ?_
       refine sy_seq ?_
       refine sy_block ?_
       refine sy_seq ?_
       have hcx : #[Value.int .i64 2, Value.int .i64 4][0 + ((row : Nat) : Int).toNat * 1]? = some (.int .i64 (ofN row : Nat)) := by rcases (show row = 0 ∨ row = 1 by omega) with rfl | rfl <;> rfl
       have hll : lenR d row ≤ 10 := by unfold lenR; split; exact hV.nl; exact hV.nr
       refine sy_ops ?_
       refine o_v hf hh (yv_move rfl) ?_; clear hf a; intro a hf
       refine o_v hf hh (y_ix Try.se_93 rfl rfl) ?_; clear hf a; intro a hf
       refine o_v hf hh (y_ld Try.sc_3 rfl) ?_; clear hf a; intro a hf
       refine o_v hf hh (yv_assign rfl) ?_; clear hf a; intro a hf
       refine o_v hf hh (yv_assign rfl) ?_; clear hf a; intro a hf
       refine o_end ?_
       refine sy_sq ?_
       refine o_v hf hh (y_ld Try.sc_66 rfl) ?_; clear hf a; intro a hf
       refine o_v hf hh (yv_move rfl) ?_; clear hf a; intro a hf
       refine o_call hf Try.en_38 rfl rfl rfl (p38i d p sa sb ca cb bm Bc _ (hh.at (i := 3) rfl) (Nat.le_trans hV.nl (by decide)) (Nat.le_trans hV.nr (by decide)) row (by omega)) ?_; clear hf a; intro v a w hR hf
       obtain ⟨rfl, hx⟩ := hR; replace hh := hh.more hx; clear hx
       refine o_v hf hh (yv_move rfl) ?_; clear hf a; intro a hf
       refine o_end ?_
       refine sy_block ?_
       refine sy_loopH (σ := Nat × Nat × Nat × Nat) [2, 3, 4, 11, 12, 39, 40, 41, 42, 43, 44, 45, 46, 47, 48, 49, 50, 51, 52] (fun q => [(39, .int .i64 (q.1 : Nat)), (2, .int .i64 (q.2.1 : Nat)), (3, .int .i64 (q.2.2.1 : Nat)), (4, .int .i64 (q.2.2.2 : Nat))]) (fun q => fun w' => q.1 ≤ lenR d row ∧ q.2 = lensR (casesL d p) row q.1 (lensAt d (casesL d p) row) ∧ ∃ es cm, MemoV enc2 (leftV d) es ∧ Hp u [] [(B29, .cells #[.int .i64 2, .int .i64 4] 3), (B7, .cells (joinL (casesL d p)).cells 89), (bm, .map es cm), (Bc, .cells (canC d p sa sb ca cb bm) 109), (B6, .cells #[ptr Bc 0] 66), (B5, .cells #[.int .i64 0] 22), (B1, .cells (canV d p sa sb ca cb).cells 31)] w') (fun q => lenR d row - q.1) ((0, s1, s2, s3)) hf ?_ ?_ ?_
       · repeat' (first | exact True.intro | refine And.intro rfl ?_)
       · exact ⟨Nat.zero_le _, hs, es, cm, hM1, hh⟩
       ·rintro q a w ⟨hj, ht, es, cm, hM2, hh⟩ hf
        obtain ⟨i, r1, r2, r3⟩ := q; simp only at hj ht hh hf ⊢
        refine sy_sq ?_
        refine o_v hf hh (yv_bin rfl rfl rfl) ?_; clear hf a; intro a hf
        refine o_end ?_
        refine sy_seq ?_
        refine sy_cond hf rfl (fun hg11 => ?_) (fun hg11 => ?_)
        ·have hG11 := hg11; try simp only [gS] at hG11
         refine sy_skip ?_
         refine then_n ?_
         refine sy_seq ?_
         refine sy_block ?_
         refine sy_sq ?_
         refine o_v hf hh (yv_move rfl) ?_; clear hf a; intro a hf
         refine o_v hf hh (yv_assign rfl) ?_; clear hf a; intro a hf
         refine o_end ?_
         refine sy_sq ?_
         refine o_v hf hh (yv_move rfl) ?_; clear hf a; intro a hf
         refine o_v hf hh (yv_move rfl) ?_; clear hf a; intro a hf
         refine o_v hf hh (yv_move rfl) ?_; clear hf a; intro a hf
         have h7 := hh.at (i := 1) rfl
         rw [hjc] at h7
         refine o_call hf Try.en_51 rfl rfl rfl (p51 d p sa sb ca cb bm Bc B6 B7 cm es _ hV hp0 hp3 (hh.at (i := 3) rfl) (hh.at (i := 2) rfl) hM2 (hA.ext hh.ext) (hB.ext hh.ext) row i (by omega) (by omega) _ _ _ _ (hh.at (i := 4) rfl) h7) ?_; clear hf a; intro v a w hR hf
         obtain ⟨rfl, es3, cm3, hM3, hx⟩ := hR
         replace hh := hh.turn (i := 2) rfl hx.ext (hx.at (i := 0) rfl); clear hx
         refine o_v hf hh (yv_assign rfl) ?_; clear hf a; intro a hf
         refine o_end ?_
         refine sy_sq ?_
         refine o_v hf hh (yv_move rfl) ?_; clear hf a; intro a hf
         refine o_v hf hh (yv_move rfl) ?_; clear hf a; intro a hf
         refine o_v hf hh (yv_bin rfl rfl rfl) ?_; clear hf a; intro a hf
         refine o_end ?_
         refine sy_cond hf rfl (fun hg14 => ?_) (fun hg14 => ?_)
         ·have hG14 := hg14; try simp only [gS] at hG14
          refine sy_ops ?_
          refine o_v hf hh (yv_move rfl) ?_; clear hf a; intro a hf
          refine o_v hf hh (yv_move rfl) ?_; clear hf a; intro a hf
          refine o_v hf hh (yv_move rfl) ?_; clear hf a; intro a hf
          refine o_v hf hh (yv_assign rfl) ?_; clear hf a; intro a hf
          refine o_v hf hh (yv_assign rfl) ?_; clear hf a; intro a hf
          refine o_v hf hh (yv_assign rfl) ?_; clear hf a; intro a hf
          refine ops_end ?_
          refine blk_n ?_
          refine then_n ?_
          refine sy_ops ?_
          refine o_v hf hh (y_add rfl rfl) ?_; clear hf a; intro a hf
          refine o_v hf hh (yv_move rfl) ?_; clear hf a; intro a hf
          refine ops_end ?_
          refine then_n ?_
          have hl3 : (lensR (casesL d p) row i (lensAt d (casesL d p) row)).2.2 = r3 := by rw [← ht]
          first
            | (exact ⟨(i + 1, ofN row, i, toldN (casesL d p) row i), ⟨⟨by simp only; omega, by simp only; rw [lensR, if_pos (by omega)], es3, cm3, hM3, hh⟩, (hf.head (by repeat' (first | exact True.intro | refine And.intro rfl ?_)) (Keep.cons rfl (Keep.cons rfl (Keep.cons rfl (Keep.cons rfl (Keep.cons rfl (Keep.cons rfl (Keep.cons rfl (Keep.cons rfl (Keep.cons rfl (Keep.cons rfl (Keep.cons rfl (Keep.cons rfl (Keep.cons rfl (Keep.cons rfl (Keep.cons rfl (Keep.cons rfl (Keep.cons rfl (Keep.cons rfl (Keep.cons rfl (Keep.app rfl (Keep.rm rfl Keep.base))))))))))))))))))))))⟩, by simp only; omega⟩)
            | (exact ⟨(i + 1, r1, r2, r3), ⟨⟨by simp only; omega, by simp only; rw [lensR, if_neg (by omega)]; exact ht, es3, cm3, hM3, hh⟩, (hf.head (by repeat' (first | exact True.intro | refine And.intro rfl ?_)) (Keep.cons rfl (Keep.cons rfl (Keep.cons rfl (Keep.cons rfl (Keep.cons rfl (Keep.cons rfl (Keep.cons rfl (Keep.cons rfl (Keep.cons rfl (Keep.cons rfl (Keep.cons rfl (Keep.cons rfl (Keep.cons rfl (Keep.cons rfl (Keep.cons rfl (Keep.cons rfl (Keep.cons rfl (Keep.cons rfl (Keep.cons rfl (Keep.app rfl (Keep.rm rfl Keep.base))))))))))))))))))))))⟩, by simp only; omega⟩)
            | omega
         ·have hG14 := hg14; try simp only [gS] at hG14
          refine sy_skip ?_
          refine blk_n ?_
          refine then_n ?_
          refine sy_ops ?_
          refine o_v hf hh (y_add rfl rfl) ?_; clear hf a; intro a hf
          refine o_v hf hh (yv_move rfl) ?_; clear hf a; intro a hf
          refine ops_end ?_
          refine then_n ?_
          have hl3 : (lensR (casesL d p) row i (lensAt d (casesL d p) row)).2.2 = r3 := by rw [← ht]
          first
            | (exact ⟨(i + 1, ofN row, i, toldN (casesL d p) row i), ⟨⟨by simp only; omega, by simp only; rw [lensR, if_pos (by omega)], es3, cm3, hM3, hh⟩, (hf.head (by repeat' (first | exact True.intro | refine And.intro rfl ?_)) (Keep.cons rfl (Keep.cons rfl (Keep.cons rfl (Keep.cons rfl (Keep.cons rfl (Keep.cons rfl (Keep.cons rfl (Keep.cons rfl (Keep.cons rfl (Keep.cons rfl (Keep.cons rfl (Keep.cons rfl (Keep.cons rfl (Keep.app rfl (Keep.rm rfl Keep.base))))))))))))))))⟩, by simp only; omega⟩)
            | (exact ⟨(i + 1, r1, r2, r3), ⟨⟨by simp only; omega, by simp only; rw [lensR, if_neg (by omega)]; exact ht, es3, cm3, hM3, hh⟩, (hf.head (by repeat' (first | exact True.intro | refine And.intro rfl ?_)) (Keep.cons rfl (Keep.cons rfl (Keep.cons rfl (Keep.cons rfl (Keep.cons rfl (Keep.cons rfl (Keep.cons rfl (Keep.cons rfl (Keep.cons rfl (Keep.cons rfl (Keep.cons rfl (Keep.cons rfl (Keep.cons rfl (Keep.app rfl (Keep.rm rfl Keep.base))))))))))))))))⟩, by simp only; omega⟩)
            | omega
        ·have hG11 := hg11; try simp only [gS] at hG11
         refine sy_exit ?_
         refine then_e ?_
         refine then_e ?_
         refine blk_e ?_
         refine blk_n ?_
         refine then_n ?_
         refine sy_ops ?_
         refine o_v hf hh (y_add rfl rfl) ?_; clear hf a; intro a hf
         refine o_v hf hh (yv_move rfl) ?_; clear hf a; intro a hf
         refine ops_end ?_
         refine then_n ?_
         exact ⟨(row + 1, r1, r2, r3), ⟨⟨by simp only; omega, by simp only; rw [ht, show i = lenR d row by omega]; rfl, es, cm, hM2, hh⟩, (hf.head (by repeat' (first | exact True.intro | refine And.intro rfl ?_)) (Keep.cons rfl (Keep.cons rfl (Keep.cons rfl (Keep.app rfl (Keep.rm rfl (Keep.cons rfl (Keep.cons rfl (Keep.cons rfl (Keep.cons rfl (Keep.cons rfl (Keep.cons rfl (Keep.cons rfl (Keep.cons rfl (Keep.cons rfl (Keep.cons rfl (Keep.app rfl (Keep.rm rfl Keep.base))))))))))))))))))⟩, by simp only; omega⟩
      ·have hG8 := hg8; try simp only [gS] at hG8
       refine sy_exit ?_
       refine then_e ?_
       refine then_e ?_
       refine blk_e ?_
       refine then_n ?_
       refine sy_sq ?_
       refine o_v hf hh (yv_move rfl) ?_; clear hf a; intro a hf
       refine o_v hf hh (yv_move rfl) ?_; clear hf a; intro a hf
       refine o_v hf hh (yv_move rfl) ?_; clear hf a; intro a hf
       refine o_v hf hh (yv_assign rfl) ?_; clear hf a; intro a hf
       refine o_v hf hh (yv_assign rfl) ?_; clear hf a; intro a hf
       refine o_v hf hh (yv_assign rfl) ?_; clear hf a; intro a hf
       refine o_store hf hh Try.sz_22 fun w hh => ?_
       refine o_end ?_
       refine sy_ret ?_
       exact ret_d (Ds := []) hf hh Try.en_49 (fun w' => d49r B5 w') fun w' hh => ⟨[.int .i64 (s1 : Nat), .int .i64 (s2 : Nat), .int .i64 (s3 : Nat), .int .i64 0], ⟨rfl, rfl, rfl, ⟨B5, 0, _, _, _, rfl, hh.at (i := 5) rfl, .inl ⟨Try.sc_22, rfl⟩⟩, True.intro⟩, by
         have h2 : row = 2 := by omega
         subst h2
         unfold lensV; rw [hle, if_pos rfl, ← hs]; rfl, hh.ext⟩
    ·intro ch w hX hf
     obtain ⟨hb2, rfl, hx⟩ := hX; replace hh := hh.more hx; clear hx
     have hn1 : (casesL d p).length ≤ 1 := by have := of_decide_eq_false hb2; rw [joinL_n] at this; omega
     have hle := lensE_4 hgat hn1
     refine then_p ?_
     exact pan_d (Ds := []) hf hh Try.en_49 (fun w' hh => d49p B5 _ 0 w' (hh.at (i := 4) rfl)) fun w' w'' hh h2 => ⟨[.int .i64 0, .int .i64 0, .int .i64 0, .int .i64 (4)], ⟨rfl, rfl, rfl, ⟨B5, 0, _, _, _, rfl, h2.at (i := 0) rfl, .inl ⟨Try.sc_22, rfl⟩⟩, True.intro⟩, by
       unfold lensV; rw [hle, if_neg (by omega)]; rfl, (hh.turn (i := 4) rfl h2.ext (h2.at (i := 0) rfl)).ext⟩
   ·intro ch w hX hf
    obtain ⟨rfl, hno, hx⟩ := hX
    have hgat := gatE_4 (show casesE d p = 0 from he) hno
    replace hh := hq.less (.cons _ (.cons _ (.refl _)))
    replace hh := hh.others hx (fun x hx => ⟨fun h => by
      have hb4 := (List.nodup_cons.1 (List.nodup_cons.1 hnq).2).1
      have h4 := (List.nodup_cons.1 hnq).1
      rcases List.mem_cons.1 hx with rfl | hx
      · exact h4 (.tail _ h)
      · rw [List.mem_singleton.1 hx] at h; exact hb4 h, .inr (hNn x hx)⟩)
    clear hx
    refine then_p ?_
    exact pan_d (Ds := []) hf hh Try.en_49 (fun w' hh => d49p B5 _ 0 w' (hh.at (i := 2) rfl)) fun w' w'' hh h2 => ⟨[.int .i64 0, .int .i64 0, .int .i64 0, .int .i64 (4)], ⟨rfl, rfl, rfl, ⟨B5, 0, _, _, _, rfl, h2.at (i := 0) rfl, .inl ⟨Try.sc_22, rfl⟩⟩, True.intro⟩, by
      have e2 := lensE_no (d := d) (p := p) (by omega)
      unfold lensV; rw [if_neg e2.2, e2.1, hgat]; rfl, (hh.turn (i := 2) rfl h2.ext (h2.at (i := 0) rfl)).ext⟩
  ·intro ch w hX hf
   obtain ⟨rfl, he, hx⟩ := hX; replace hh := hh.more hx; clear hx
   refine then_p ?_
   exact pan_d (Ds := []) hf hh Try.en_49 (fun w' hh => d49p B5 _ 0 w' (hh.at (i := 0) rfl)) fun w' w'' hh h2 => ⟨[.int .i64 0, .int .i64 0, .int .i64 0, .int .i64 (casesE d p)], ⟨rfl, rfl, rfl, ⟨B5, 0, _, _, _, rfl, h2.at (i := 0) rfl, .inl ⟨Try.sc_22, rfl⟩⟩, True.intro⟩, by
     have e1 := gatE_no (d := d) (p := p) he
     have e2 := lensE_no e1.2
     unfold lensV; rw [if_neg e2.2, e2.1, e1.1]; rfl, (hh.turn (i := 0) rfl h2.ext (h2.at (i := 0) rfl)).ext⟩
end Go.Proofs.Ytidieepndphodaa
namespace Go.MatM
open Go Go.Sy Go.Proofs Go.RowKit
def smpD (h t : Int) : RowsD := { l := [⟨100, 102, 10, 12⟩, ⟨200, 202, 50, 55⟩, ⟨300, 301, 10, 13⟩], r := [⟨90, 92, 11, 12⟩, ⟨185, 190, 52, 60⟩, ⟨280, 282, 9, 10⟩, ⟨292, 294, t, 14⟩], lo := 5, hi := 20, hid := h }
theorem sc_fitsV : fitsCV (smpD 0 12) 1 0 4 = true := by kernel_rfl
theorem sc_fitsE : fitsCE (smpD 0 12) 1 0 4 = 0 := by kernel_rfl
theorem sc_fitsV2 : fitsCV (smpD 0 12) 1 2 0 = false := by kernel_rfl
theorem sc_fitsE2 : fitsCE (smpD 0 12) 1 2 0 = 0 := by kernel_rfl
theorem sc_fitsV3 : fitsCV (smpD 1 12) 1 0 0 = true := by kernel_rfl
theorem sc_fitsE3 : fitsCE (smpD 1 12) 1 0 0 = 0 := by kernel_rfl
theorem sc_E12 : casesE (smpD 1 12) 1 = 0 := by kernel_rfl
theorem sc_E02 : casesE (smpD 0 12) 1 = 0 := by kernel_rfl
theorem sc_E04 : casesE (smpD 0 14) 1 = 0 := by kernel_rfl
theorem sc_L12 : casesL (smpD 1 12) 1 = [(0, 0), (0, 4), (0, 8)] := by kernel_rfl
theorem sc_L02 : casesL (smpD 0 12) 1 = [(0, 4), (0, 8)] := by kernel_rfl
theorem sc_L04 : casesL (smpD 0 14) 1 = [(0, 8)] := by kernel_rfl
theorem sc_G12 : gatE (smpD 1 12) 1 = 0 := by unfold gatE; rw [sc_E12, sc_L12]; rfl
theorem sc_G02 : gatE (smpD 0 12) 1 = 0 := by unfold gatE; rw [sc_E02, sc_L02]; rfl
theorem sc_G04 : gatE (smpD 0 14) 1 = 0 := by unfold gatE; rw [sc_E04, sc_L04]; rfl
theorem sc_C12 : casesC (smpD 1 12) 1 = 3 := by unfold casesC; rw [sc_E12, sc_L12]; rfl
theorem sc_C02 : casesC (smpD 0 12) 1 = 2 := by unfold casesC; rw [sc_E02, sc_L02]; rfl
theorem sc_C04 : casesC (smpD 0 14) 1 = 1 := by unfold casesC; rw [sc_E04, sc_L04]; rfl
theorem sc_S12 : sidesV (smpD 1 12) 1 = 5 := by unfold sidesV; rw [sc_G12, sc_L12]; rfl
theorem sc_S02 : sidesV (smpD 0 12) 1 = 4 := by unfold sidesV; rw [sc_G02, sc_L02]; rfl
theorem sc_F02 : firstV (smpD 0 12) 1 = (0, 4) := by unfold firstV; rw [sc_G02, sc_L02]; kernel_rfl
theorem sc_F12 : firstV (smpD 1 12) 1 = (0, 0) := by unfold firstV; rw [sc_G12, sc_L12]; kernel_rfl
theorem sc_J02 : joinV (smpD 0 12) 1 = ⟨2, (0, 12), (0, 0)⟩ := by unfold joinV; rw [sc_G02, sc_L02]; kernel_rfl
theorem sc_J04 : joinV (smpD 0 14) 1 = ⟨1, (0, 8), (0, 8)⟩ := by unfold joinV; rw [sc_G04, sc_L04]; kernel_rfl
theorem sc_LE02 : lensE (smpD 0 12) 1 = 0 := by unfold lensE; rw [sc_G02, sc_L02]; rfl
theorem sc_LE04 : lensE (smpD 0 14) 1 = 4 := by unfold lensE; rw [sc_G04, sc_L04]; rfl
theorem sc_LV02 : lensV (smpD 0 12) 1 = (4, 2, 1) := by unfold lensV; rw [sc_LE02, sc_L02]; kernel_rfl
theorem sc_LV04 : lensV (smpD 0 14) 1 = (0, 0, 0) := by unfold lensV; rw [sc_LE04]; rfl
theorem sc_R04 : restD (smpD 0 14) 1 = woD (smpD 0 14) (0, 8) := by unfold restD; rw [sc_G04, sc_L04]; rfl
theorem sc_R04l : (woD (smpD 0 14) (0, 8)).l.length = 3 := by kernel_rfl
theorem sc_R04r : (woD (smpD 0 14) (0, 8)).r.length = 3 := by kernel_rfl
end Go.MatM
namespace Go.Proofs.Ytidieepndphodaa
open Go Go.Sy Go.MatM
theorem p27 (x y : Int) (w : World) : Calls Try.prog 27 #[.int .i64 x, .int .i64 y] w (Ret fun v w' => v = .agg #[.int .i64 x, .int .i64 y] ∧ Ext [] w w') := by
  refine calls_of Try.func27 rfl rfl (fun a hf => ?_)
  have hh := Hp.init w []
  refine sy_sq ?_
  refine o_alloc hf hh Try.ze_27 ?_; clear hf hh a; intro B4 a w hf hh
  refine o_end ?_
  refine sy_sq ?_
  refine o_v hf hh (yv_move rfl) ?_; clear hf a; intro a hf
  refine o_v hf hh (yv_move rfl) ?_; clear hf a; intro a hf
  refine o_v hf hh (yv_buildS Try.bs_27 rfl rfl) ?_; clear hf a; intro a hf
  refine o_store hf hh Try.sz_27 fun w hh => ?_
  refine o_end ?_
  refine sy_ret ?_
  refine ret_c (vs := [.agg #[.int .i64 x, .int .i64 y]]) hf ?_ ?_
  · exact ⟨⟨B4, 0, _, _, _, rfl, hh.at (i := 0) rfl, .inr ⟨2, _, Try.ag_27, rfl, rfl⟩⟩, True.intro⟩
  · exact ⟨rfl, hh.ext⟩
theorem p40 (x y z t : Int) (w : World) : Calls Try.prog 40 #[.int .i64 x, .int .i64 y, .int .i64 z, .int .i64 t] w (Ret fun v w' => v = mkV ⟨x, y, z, t⟩ ∧ Ext [] w w') := by
  refine calls_of Try.func40 rfl rfl (fun a hf => ?_)
  have hh := Hp.init w []
  refine sy_sq ?_
  refine o_alloc hf hh Try.ze_54 ?_; clear hf hh a; intro B8 a w hf hh
  refine o_end ?_
  refine sy_sq ?_
  refine o_v hf hh (yv_move rfl) ?_; clear hf a; intro a hf
  refine o_v hf hh (yv_move rfl) ?_; clear hf a; intro a hf
  refine o_call hf Try.en_27 rfl rfl rfl (p27 _ _ _) ?_; clear hf a; intro v a w hR hf
  obtain ⟨rfl, hx⟩ := hR; replace hh := hh.more hx; clear hx
  refine o_v hf hh (yv_move rfl) ?_; clear hf a; intro a hf
  refine o_v hf hh (yv_move rfl) ?_; clear hf a; intro a hf
  refine o_call hf Try.en_27 rfl rfl rfl (p27 _ _ _) ?_; clear hf a; intro v a w hR hf
  obtain ⟨rfl, hx⟩ := hR; replace hh := hh.more hx; clear hx
  refine o_v hf hh (yv_buildS Try.bs_54 rfl rfl) ?_; clear hf a; intro a hf
  refine o_store hf hh Try.sz_54 fun w hh => ?_
  refine o_end ?_
  refine sy_ret ?_
  refine ret_c (vs := [mkV ⟨x, y, z, t⟩]) hf ?_ ?_
  · exact ⟨⟨B8, 0, _, _, _, rfl, hh.at (i := 0) rfl, .inr ⟨4, _, Try.ag_54, rfl, rfl⟩⟩, True.intro⟩
  · exact ⟨rfl, hh.ext⟩
theorem p11 (h t : Int) (u : World) : Calls Try.prog 11 #[.int .i64 h, .int .i64 t] u (Ret fun v w' => ∃ sa sb, v = canV (smpD h t) 1 sa sb 3 4 ∧ MkAt w' sa (smpD h t).l ∧ MkAt w' sb (smpD h t).r ∧ Ext [] u w') := by
  refine calls_of Try.func11 rfl rfl (fun a hf => ?_)
  have hh := Hp.init u []
  refine sy_sq ?_
  refine o_alloc hf hh Try.ze_31 ?_; clear hf hh a; intro B4 a w hf hh
  refine o_end ?_
  refine sy_sq ?_
  refine o_call hf Try.en_40 rfl rfl rfl (p40 _ _ _ _ _) ?_; clear hf a; intro v a w hR hf
  obtain ⟨rfl, hx⟩ := hR; replace hh := hh.more hx; clear hx
  refine o_call hf Try.en_40 rfl rfl rfl (p40 _ _ _ _ _) ?_; clear hf a; intro v a w hR hf
  obtain ⟨rfl, hx⟩ := hR; replace hh := hh.more hx; clear hx
  refine o_call hf Try.en_40 rfl rfl rfl (p40 _ _ _ _ _) ?_; clear hf a; intro v a w hR hf
  obtain ⟨rfl, hx⟩ := hR; replace hh := hh.more hx; clear hx
  refine ops_buildSl hf hh Try.bl_25_3 rfl rfl (.inl rfl) rfl ?_; clear hf hh; clear a; intro B9 a w hf hh
  refine o_call hf Try.en_40 rfl rfl rfl (p40 _ _ _ _ _) ?_; clear hf a; intro v a w hR hf
  obtain ⟨rfl, hx⟩ := hR; replace hh := hh.more hx; clear hx
  refine o_call hf Try.en_40 rfl rfl rfl (p40 _ _ _ _ _) ?_; clear hf a; intro v a w hR hf
  obtain ⟨rfl, hx⟩ := hR; replace hh := hh.more hx; clear hx
  refine o_call hf Try.en_40 rfl rfl rfl (p40 _ _ _ _ _) ?_; clear hf a; intro v a w hR hf
  obtain ⟨rfl, hx⟩ := hR; replace hh := hh.more hx; clear hx
  refine o_v hf hh (yv_move rfl) ?_; clear hf a; intro a hf
  refine o_call hf Try.en_40 rfl rfl rfl (p40 _ _ _ _ _) ?_; clear hf a; intro v a w hR hf
  obtain ⟨rfl, hx⟩ := hR; replace hh := hh.more hx; clear hx
  refine ops_buildSl hf hh Try.bl_25_4 rfl rfl (.inl rfl) rfl ?_; clear hf hh; clear a; intro B15 a w hf hh
  refine o_call hf Try.en_27 rfl rfl rfl (p27 _ _ _) ?_; clear hf a; intro v a w hR hf
  obtain ⟨rfl, hx⟩ := hR; replace hh := hh.more hx; clear hx
  refine o_v hf hh (yv_move rfl) ?_; clear hf a; intro a hf
  refine o_v hf hh (yv_buildS Try.bs_29 rfl rfl) ?_; clear hf a; intro a hf
  refine o_alloc hf hh Try.ze_29 ?_; clear hf hh a; intro B5 a w hf hh
  refine o_store hf hh Try.sz_29 fun w hh => ?_
  refine o_end ?_
  refine sy_sq ?_
  refine o_v hf hh (y_lds Try.ag_29 rfl) ?_; clear hf a; intro a hf
  refine o_v hf hh (yv_buildS Try.bs_31 rfl rfl) ?_; clear hf a; intro a hf
  refine o_store hf hh Try.sz_31 fun w hh => ?_
  refine o_end ?_
  refine sy_ret ?_
  refine ret_c (vs := [canV (smpD h t) 1 (some ⟨B9, 0, none⟩) (some ⟨B15, 0, none⟩) 3 4]) hf ?_ ?_
  · exact ⟨⟨B4, 0, _, _, _, rfl, hh.at (i := 3) rfl, .inr ⟨6, _, Try.ag_31, rfl, rfl⟩⟩, True.intro⟩
  · exact ⟨_, _, rfl, mkAt_of (cap := 3) (X := [(B9, .cells (encM (smpD h t).l).toArray 54)]) ⟨rfl, .inr ⟨B9, 3, _, rfl, rfl, Nat.le_refl _, by simp only [maxLen]; omega, rfl, rfl⟩⟩ (fun x hx => by rw [List.mem_singleton] at hx; subst hx; exact hh.at (i := 2) rfl),
     mkAt_of (cap := 4) (X := [(B15, .cells (encM (smpD h t).r).toArray 54)]) ⟨rfl, .inr ⟨B15, 4, _, rfl, rfl, Nat.le_refl _, by simp only [maxLen]; omega, rfl, rfl⟩⟩ (fun x hx => by rw [List.mem_singleton] at hx; subst hx; exact hh.at (i := 1) rfl), hh.ext⟩
theorem p17 (u : World) : Calls Try.prog 17 #[] u (Ret fun v w' => v = .bool true ∧ Ext [] u w') := by
  refine calls_of Try.func17 rfl rfl (fun a hf => ?_)
  have hh := Hp.init u []
  refine sy_sq ?_
  refine o_v hf hh (yv_assign rfl) ?_; clear hf a; intro a hf
  refine o_end ?_
  refine sy_sq ?_
  refine o_call hf Try.en_11 rfl rfl rfl (p11 0 12 _) ?_; clear hf a; intro v a w hR hf
  obtain ⟨sa1, sb1, rfl, hA1, hB1, hx⟩ := hR; replace hh := hh.more hx; clear hx
  refine o_call hf Try.en_10 rfl rfl rfl (p10 (smpD 0 12) 1 sa1 sb1 3 4 _ hA1 hB1 0 4) ?_; clear hf a; intro v a w hR hf
  rw [sc_fitsV, sc_fitsE] at hR
  obtain ⟨rfl, hx⟩ := hR; replace hh := hh.more hx; clear hx
  refine o_v hf hh (yv_move rfl) ?_; clear hf a; intro a hf
  refine o_v hf hh (yv_extract rfl rfl) ?_; clear hf a; intro a hf
  refine o_v hf hh (yv_extract rfl rfl) ?_; clear hf a; intro a hf
  refine o_v hf hh (yv_assign rfl) ?_; clear hf a; intro a hf
  refine o_v hf hh (yv_assign rfl) ?_; clear hf a; intro a hf
  refine o_end ?_
  refine sy_sq ?_
  refine o_call hf Try.en_11 rfl rfl rfl (p11 1 12 _) ?_; clear hf a; intro v a w hR hf
  obtain ⟨sa2, sb2, rfl, hA2, hB2, hx⟩ := hR; replace hh := hh.more hx; clear hx
  refine o_call hf Try.en_12 rfl rfl rfl (p12 (smpD 1 12) 1 sa2 sb2 3 4 _ hA2 hB2) ?_; clear hf a; intro v a w hR hf
  rw [sc_C12, sc_E12] at hR
  obtain ⟨rfl, hx⟩ := hR; replace hh := hh.more hx; clear hx
  refine o_v hf hh (yv_move rfl) ?_; clear hf a; intro a hf
  refine o_v hf hh (yv_extract rfl rfl) ?_; clear hf a; intro a hf
  refine o_v hf hh (yv_extract rfl rfl) ?_; clear hf a; intro a hf
  refine o_v hf hh (yv_assign rfl) ?_; clear hf a; intro a hf
  refine o_v hf hh (yv_assign rfl) ?_; clear hf a; intro a hf
  refine o_end ?_
  refine sy_sq ?_
  refine o_call hf Try.en_11 rfl rfl rfl (p11 1 12 _) ?_; clear hf a; intro v a w hR hf
  obtain ⟨sa3, sb3, rfl, hA3, hB3, hx⟩ := hR; replace hh := hh.more hx; clear hx
  refine o_call hf Try.en_13 rfl rfl rfl (p13 (smpD 1 12) 1 sa3 sb3 3 4 _ hA3 hB3) ?_; clear hf a; intro v a w hR hf
  rw [sc_S12, sc_G12] at hR
  obtain ⟨rfl, hx⟩ := hR; replace hh := hh.more hx; clear hx
  refine o_v hf hh (yv_move rfl) ?_; clear hf a; intro a hf
  refine o_v hf hh (yv_extract rfl rfl) ?_; clear hf a; intro a hf
  refine o_v hf hh (yv_extract rfl rfl) ?_; clear hf a; intro a hf
  refine o_v hf hh (yv_assign rfl) ?_; clear hf a; intro a hf
  refine o_v hf hh (yv_assign rfl) ?_; clear hf a; intro a hf
  refine o_end ?_
  refine sy_sq ?_
  refine o_call hf Try.en_11 rfl rfl rfl (p11 0 12 _) ?_; clear hf a; intro v a w hR hf
  obtain ⟨sa4, sb4, rfl, hA4, hB4, hx⟩ := hR; replace hh := hh.more hx; clear hx
  refine o_call hf Try.en_14 rfl rfl rfl (p14 (smpD 0 12) 1 sa4 sb4 3 4 _ hA4 hB4) ?_; clear hf a; intro v a w hR hf
  rw [sc_F02, sc_G02] at hR
  obtain ⟨rfl, hx⟩ := hR; replace hh := hh.more hx; clear hx
  refine o_v hf hh (yv_move rfl) ?_; clear hf a; intro a hf
  refine o_v hf hh (yv_extract rfl rfl) ?_; clear hf a; intro a hf
  refine o_v hf hh (yv_extract rfl rfl) ?_; clear hf a; intro a hf
  refine o_v hf hh (yv_extract rfl rfl) ?_; clear hf a; intro a hf
  refine o_v hf hh (yv_assign rfl) ?_; clear hf a; intro a hf
  refine o_v hf hh (yv_assign rfl) ?_; clear hf a; intro a hf
  refine o_v hf hh (yv_assign rfl) ?_; clear hf a; intro a hf
  refine o_end ?_
  refine sy_sq ?_
  refine o_call hf Try.en_11 rfl rfl rfl (p11 0 12 _) ?_; clear hf a; intro v a w hR hf
  obtain ⟨sa5, sb5, rfl, hA5, hB5, hx⟩ := hR; replace hh := hh.more hx; clear hx
  refine o_call hf Try.en_20 rfl rfl rfl (p20 (smpD 0 12) 1 sa5 sb5 3 4 _ hA5 hB5) ?_; clear hf a; intro v a w hR hf
  rw [sc_J02, sc_G02] at hR
  obtain ⟨rfl, hx⟩ := hR; replace hh := hh.more hx; clear hx
  refine o_v hf hh (yv_move rfl) ?_; clear hf a; intro a hf
  refine o_v hf hh (yv_extract rfl rfl) ?_; clear hf a; intro a hf
  refine o_v hf hh (yv_extract rfl rfl) ?_; clear hf a; intro a hf
  refine o_v hf hh (yv_extract rfl rfl) ?_; clear hf a; intro a hf
  refine o_v hf hh (yv_assign rfl) ?_; clear hf a; intro a hf
  refine o_v hf hh (yv_assign rfl) ?_; clear hf a; intro a hf
  refine o_v hf hh (yv_assign rfl) ?_; clear hf a; intro a hf
  refine o_end ?_
  refine sy_sq ?_
  refine o_call hf Try.en_11 rfl rfl rfl (p11 0 14 _) ?_; clear hf a; intro v a w hR hf
  obtain ⟨sa6, sb6, rfl, hA6, hB6, hx⟩ := hR; replace hh := hh.more hx; clear hx
  refine o_call hf Try.en_15 rfl rfl rfl (p15 (smpD 0 14) 1 sa6 sb6 3 4 _ hA6 hB6) ?_; clear hf a; intro v a w hR hf
  rw [sc_J04, sc_G04] at hR
  obtain ⟨rfl, hx⟩ := hR; replace hh := hh.more hx; clear hx
  refine o_v hf hh (yv_move rfl) ?_; clear hf a; intro a hf
  refine o_v hf hh (yv_extract rfl rfl) ?_; clear hf a; intro a hf
  refine o_v hf hh (yv_extract rfl rfl) ?_; clear hf a; intro a hf
  refine o_v hf hh (yv_extract rfl rfl) ?_; clear hf a; intro a hf
  refine o_v hf hh (yv_assign rfl) ?_; clear hf a; intro a hf
  refine o_v hf hh (yv_assign rfl) ?_; clear hf a; intro a hf
  refine o_v hf hh (yv_assign rfl) ?_; clear hf a; intro a hf
  refine o_end ?_
  refine sy_sq ?_
  refine o_call hf Try.en_11 rfl rfl rfl (p11 0 12 _) ?_; clear hf a; intro v a w hR hf
  obtain ⟨sa7, sb7, rfl, hA7, hB7, hx⟩ := hR; replace hh := hh.more hx; clear hx
  refine o_call hf Try.en_16 rfl rfl rfl (p16 (smpD 0 12) 1 sa7 sb7 3 4 _ hA7 hB7) ?_; clear hf a; intro v a w hR hf
  rw [sc_LV02, sc_LE02] at hR
  obtain ⟨rfl, hx⟩ := hR; replace hh := hh.more hx; clear hx
  refine o_v hf hh (yv_move rfl) ?_; clear hf a; intro a hf
  refine o_v hf hh (yv_extract rfl rfl) ?_; clear hf a; intro a hf
  refine o_v hf hh (yv_extract rfl rfl) ?_; clear hf a; intro a hf
  refine o_v hf hh (yv_extract rfl rfl) ?_; clear hf a; intro a hf
  refine o_v hf hh (yv_extract rfl rfl) ?_; clear hf a; intro a hf
  refine o_v hf hh (yv_assign rfl) ?_; clear hf a; intro a hf
  refine o_v hf hh (yv_assign rfl) ?_; clear hf a; intro a hf
  refine o_v hf hh (yv_assign rfl) ?_; clear hf a; intro a hf
  refine o_v hf hh (yv_assign rfl) ?_; clear hf a; intro a hf
  refine o_end ?_
  refine sy_sq ?_
  refine o_call hf Try.en_11 rfl rfl rfl (p11 0 14 _) ?_; clear hf a; intro v a w hR hf
  obtain ⟨sa8, sb8, rfl, hA8, hB8, hx⟩ := hR; replace hh := hh.more hx; clear hx
  refine o_call hf Try.en_23 rfl rfl rfl (p23 (smpD 0 14) 1 sa8 sb8 3 4 _ hA8 hB8) ?_; clear hf a; intro v a w hR hf
  rw [sc_G04] at hR
  obtain ⟨oa, ob, cpa, cpb, X1, X2, rfl, hO1, hO2, hx⟩ := hR; rw [sc_R04] at hf
  replace hh := (hh.join hx).perm List.perm_append_comm; clear hx
  refine o_v hf hh (yv_move rfl) ?_; clear hf a; intro a hf
  refine o_v hf hh (yv_extract rfl rfl) ?_; clear hf a; intro a hf
  refine o_v hf hh (yv_extract rfl rfl) ?_; clear hf a; intro a hf
  refine o_alloc hf hh Try.ze_29 ?_; clear hf hh a; intro B20 a w hf hh
  refine o_store hf hh Try.sz_29 fun w hh => ?_
  refine o_v hf hh (yv_assign rfl) ?_; clear hf a; intro a hf
  refine o_end ?_
  refine sy_seq ?_
  refine sy_sq ?_
  refine o_v hf hh (yv_move rfl) ?_; clear hf a; intro a hf
  refine o_v hf hh (yv_not rfl) ?_; clear hf a; intro a hf
  refine o_v hf hh (yv_move rfl) ?_; clear hf a; intro a hf
  refine o_v hf hh (yv_move rfl) ?_; clear hf a; intro a hf
  refine o_v hf hh (yv_bin rfl rfl rfl) ?_; clear hf a; intro a hf
  refine o_v hf hh (y_pf rfl rfl) ?_; clear hf a; intro a hf
  refine o_v hf hh (yv_move rfl) ?_; clear hf a; intro a hf
  refine o_v hf hh (yv_move rfl) ?_; clear hf a; intro a hf
  refine o_v hf hh (yv_bin rfl rfl rfl) ?_; clear hf a; intro a hf
  refine o_v hf hh (y_pf rfl rfl) ?_; clear hf a; intro a hf
  refine o_v hf hh (yv_move rfl) ?_; clear hf a; intro a hf
  refine o_v hf hh (yv_move rfl) ?_; clear hf a; intro a hf
  refine o_v hf hh (yv_bin rfl rfl rfl) ?_; clear hf a; intro a hf
  refine o_v hf hh (y_pf rfl rfl) ?_; clear hf a; intro a hf
  refine o_v hf hh (yv_move rfl) ?_; clear hf a; intro a hf
  refine o_v hf hh (yv_move rfl) ?_; clear hf a; intro a hf
  refine o_v hf hh (yv_bin rfl rfl rfl) ?_; clear hf a; intro a hf
  refine o_v hf hh (y_pf rfl rfl) ?_; clear hf a; intro a hf
  refine o_v hf hh (yv_move rfl) ?_; clear hf a; intro a hf
  refine o_v hf hh (yv_move rfl) ?_; clear hf a; intro a hf
  refine o_v hf hh (yv_bin rfl rfl rfl) ?_; clear hf a; intro a hf
  refine o_v hf hh (y_pf rfl rfl) ?_; clear hf a; intro a hf
  refine o_v hf hh (yv_move rfl) ?_; clear hf a; intro a hf
  refine o_v hf hh (yv_move rfl) ?_; clear hf a; intro a hf
  refine o_v hf hh (yv_bin rfl rfl rfl) ?_; clear hf a; intro a hf
  refine o_v hf hh (y_pf rfl rfl) ?_; clear hf a; intro a hf
  refine o_v hf hh (yv_move rfl) ?_; clear hf a; intro a hf
  refine o_v hf hh (yv_move rfl) ?_; clear hf a; intro a hf
  refine o_v hf hh (yv_bin rfl rfl rfl) ?_; clear hf a; intro a hf
  refine o_v hf hh (y_pf rfl rfl) ?_; clear hf a; intro a hf
  refine o_v hf hh (yv_move rfl) ?_; clear hf a; intro a hf
  refine o_v hf hh (yv_move rfl) ?_; clear hf a; intro a hf
  refine o_v hf hh (yv_bin rfl rfl rfl) ?_; clear hf a; intro a hf
  refine o_v hf hh (y_pf rfl rfl) ?_; clear hf a; intro a hf
  refine o_v hf hh (yv_move rfl) ?_; clear hf a; intro a hf
  refine o_v hf hh (yv_move rfl) ?_; clear hf a; intro a hf
  refine o_v hf hh (yv_bin rfl rfl rfl) ?_; clear hf a; intro a hf
  refine o_v hf hh (y_pf rfl rfl) ?_; clear hf a; intro a hf
  refine o_v hf hh (yv_move rfl) ?_; clear hf a; intro a hf
  refine o_v hf hh (yv_move rfl) ?_; clear hf a; intro a hf
  refine o_v hf hh (yv_bin rfl rfl rfl) ?_; clear hf a; intro a hf
  refine o_v hf hh (y_pf rfl rfl) ?_; clear hf a; intro a hf
  refine o_v hf hh (yv_move rfl) ?_; clear hf a; intro a hf
  refine o_v hf hh (yv_move rfl) ?_; clear hf a; intro a hf
  refine o_v hf hh (yv_bin rfl rfl rfl) ?_; clear hf a; intro a hf
  refine o_v hf hh (y_pf rfl rfl) ?_; clear hf a; intro a hf
  refine o_end ?_
  refine c_f hf ?_
  refine sy_skip ?_
  refine then_n ?_
  refine sy_sq ?_
  refine o_v hf hh (yv_move rfl) ?_; clear hf a; intro a hf
  refine o_v hf hh (yv_bin rfl rfl rfl) ?_; clear hf a; intro a hf
  refine o_v hf hh (yv_move rfl) ?_; clear hf a; intro a hf
  refine o_v hf hh (yv_move rfl) ?_; clear hf a; intro a hf
  refine o_v hf hh (yv_bin rfl rfl rfl) ?_; clear hf a; intro a hf
  refine o_v hf hh (y_pt rfl rfl) ?_; clear hf a; intro a hf
  refine o_v hf hh (yv_move rfl) ?_; clear hf a; intro a hf
  refine o_v hf hh (yv_move rfl) ?_; clear hf a; intro a hf
  refine o_v hf hh (yv_bin rfl rfl rfl) ?_; clear hf a; intro a hf
  refine o_v hf hh (y_pt rfl rfl) ?_; clear hf a; intro a hf
  refine o_v hf hh (yv_move rfl) ?_; clear hf a; intro a hf
  refine o_v hf hh (yv_move rfl) ?_; clear hf a; intro a hf
  refine o_v hf hh (yv_bin rfl rfl rfl) ?_; clear hf a; intro a hf
  refine o_v hf hh (y_pt rfl rfl) ?_; clear hf a; intro a hf
  refine o_v hf hh (yv_move rfl) ?_; clear hf a; intro a hf
  refine o_v hf hh (yv_move rfl) ?_; clear hf a; intro a hf
  refine o_v hf hh (yv_bin rfl rfl rfl) ?_; clear hf a; intro a hf
  refine o_v hf hh (y_pt rfl rfl) ?_; clear hf a; intro a hf
  refine o_v hf hh (yv_move rfl) ?_; clear hf a; intro a hf
  refine o_v hf hh (yv_move rfl) ?_; clear hf a; intro a hf
  refine o_v hf hh (yv_bin rfl rfl rfl) ?_; clear hf a; intro a hf
  refine o_v hf hh (y_pt rfl rfl) ?_; clear hf a; intro a hf
  refine o_v hf hh (yv_move rfl) ?_; clear hf a; intro a hf
  refine o_v hf hh (yv_move rfl) ?_; clear hf a; intro a hf
  refine o_v hf hh (yv_bin rfl rfl rfl) ?_; clear hf a; intro a hf
  refine o_v hf hh (y_pt rfl rfl) ?_; clear hf a; intro a hf
  refine o_v hf hh (yv_move rfl) ?_; clear hf a; intro a hf
  refine o_v hf hh (yv_fieldAddr Try.fo_29_0 rfl) ?_; clear hf a; intro a hf
  refine o_v hf hh (y_ld Try.sc_25 rfl) ?_; clear hf a; intro a hf
  refine o_v hf hh (yv_len Try.se_25 rfl) ?_; clear hf a; intro a hf
  refine o_v hf hh (yv_bin rfl rfl rfl) ?_; clear hf a; intro a hf
  refine o_v hf hh (y_pt rfl rfl) ?_; clear hf a; intro a hf
  refine o_v hf hh (yv_move rfl) ?_; clear hf a; intro a hf
  refine o_v hf hh (yv_fieldAddr Try.fo_29_1 rfl) ?_; clear hf a; intro a hf
  refine o_v hf hh (y_ld Try.sc_25 rfl) ?_; clear hf a; intro a hf
  refine o_v hf hh (yv_len Try.se_25 rfl) ?_; clear hf a; intro a hf
  refine o_v hf hh (yv_bin rfl rfl rfl) ?_; clear hf a; intro a hf
  refine o_v hf hh (y_pt rfl rfl) ?_; clear hf a; intro a hf
  refine o_v hf hh (yv_move rfl) ?_; clear hf a; intro a hf
  refine o_v hf hh (yv_move rfl) ?_; clear hf a; intro a hf
  refine o_v hf hh (yv_bin rfl rfl rfl) ?_; clear hf a; intro a hf
  refine o_v hf hh (y_pt rfl rfl) ?_; clear hf a; intro a hf
  refine o_v hf hh (yv_assign rfl) ?_; clear hf a; intro a hf
  refine o_end ?_
  refine sy_ret ?_
  refine ret_r hf rfl rfl ?_
  exact ⟨rfl, hh.ext⟩
end Go.Proofs.Ytidieepndphodaa
namespace Go.Proofs.Ytidieepndphodaa
open Go Go.Sy Go.MatM
theorem p53 (n l h : Int) (w : World) : Calls Try.prog 53 #[.int .i64 n, .int .i64 l, .int .i64 h] w (Ret fun v w' => v = .bool (decide (l ≤ n) && decide (n ≤ h)) ∧ Ext [] w w') := by
  refine calls_of Try.func53 rfl rfl (fun a hf => ?_)
  have hh := Hp.init w []
  refine sy_sq ?_
  refine o_v hf hh (yv_assign rfl) ?_; clear hf a; intro a hf
  refine o_end ?_
  refine sy_sq ?_
  refine o_v hf hh (yv_move rfl) ?_; clear hf a; intro a hf
  refine o_v hf hh (yv_move rfl) ?_; clear hf a; intro a hf
  refine o_v hf hh (yv_bin rfl rfl rfl) ?_; clear hf a; intro a hf
  refine o_v hf hh (yv_move rfl) ?_; clear hf a; intro a hf
  refine guard_split hf (t := 10) rfl (fun hg2 => ?_) (fun hg2 => ?_)
  ·have hG2 := hg2; try simp only [gS] at hG2
   refine o_v hf hh (yv_move rfl) ?_; clear hf a; intro a hf
   refine o_v hf hh (yv_move rfl) ?_; clear hf a; intro a hf
   refine o_v hf hh (yv_bin rfl rfl rfl) ?_; clear hf a; intro a hf
   refine o_v hf hh (y_pt rfl rfl) ?_; clear hf a; intro a hf
   refine o_v hf hh (yv_assign rfl) ?_; clear hf a; intro a hf
   refine o_end ?_
   refine sy_ret ?_
   refine ret_r hf rfl rfl ?_
   exact ⟨by simp [tup, *], hh.ext⟩
  ·have hG2 := hg2; try simp only [gS] at hG2
   refine o_off hf ?_; clear hf a; intro a hf
   refine o_off hf ?_; clear hf a; intro a hf
   refine o_off hf ?_; clear hf a; intro a hf
   refine o_v hf hh (y_pf rfl rfl) ?_; clear hf a; intro a hf
   refine o_v hf hh (yv_assign rfl) ?_; clear hf a; intro a hf
   refine o_end ?_
   refine sy_ret ?_
   refine ret_r hf rfl rfl ?_
   exact ⟨by simp [tup, *], hh.ext⟩
theorem p66 (n : Nat) (hn : n ≤ 60) (u : World) : Calls Try.prog 66 #[.int .i64 (n : Nat)] u (Ret fun v w' => v = .int .i64 ((2 ^ n : Nat) : Int) ∧ Ext [] u w') := by
  refine calls_of Try.func66 rfl rfl (fun a hf => ?_)
  have hh := Hp.init u []
  refine sy_sq ?_
  refine o_v hf hh (yv_assign rfl) ?_; clear hf a; intro a hf
  refine o_end ?_
  refine sy_sq ?_
  refine o_v hf hh (yv_assign rfl) ?_; clear hf a; intro a hf
  refine o_end ?_
  refine sy_seq ?_
  refine sy_sq ?_
  refine o_v hf hh (yv_assign rfl) ?_; clear hf a; intro a hf
  refine o_end ?_
  refine sy_block ?_
  refine sy_loopF (σ := Nat) [3, 4, 5, 6, 7, 8, 9, 10, 11] (fun i => [(4, .int .i64 (i : Nat)), (3, .int .i64 ((2 ^ i : Nat) : Int))]) (fun i => i ≤ n) (fun i => n - i) (0) hf hh ?_ ?_ ?_
  · repeat' (first | exact True.intro | refine And.intro rfl ?_)
  · exact Nat.zero_le _
  ·rintro i a w hi hf hh
   refine sy_seq ?_
   refine sy_sq ?_
   refine o_v hf hh (yv_move rfl) ?_; clear hf a; intro a hf
   refine o_v hf hh (yv_move rfl) ?_; clear hf a; intro a hf
   refine o_v hf hh (yv_bin rfl rfl rfl) ?_; clear hf a; intro a hf
   refine o_end ?_
   refine sy_cond hf rfl (fun hg2 => ?_) (fun hg2 => ?_)
   ·have hG2 := hg2; try simp only [gS] at hG2
    refine sy_skip ?_
    refine then_n ?_
    refine sy_seq ?_
    refine sy_block ?_
    have hz2 : 2 ^ (i + 1) = 2 * 2 ^ i := by rw [Nat.pow_succ]; omega
    have hzb : 2 ^ i ≤ 2 ^ 60 := Nat.pow_le_pow_right (by decide) (by omega)
    obtain ⟨z, hz⟩ : ∃ z : Nat, z = 2 ^ i := ⟨_, rfl⟩
    rw [← hz] at hf hz2 hzb
    refine sy_ops ?_
    refine o_v hf hh (yv_move rfl) ?_; clear hf a; intro a hf
    refine ops_v hf hh (yv_cast (yv_mul rfl rfl (by omega) (by omega)) (intv (b := ((2 ^ (i + 1) : Nat) : Int)) (by rw [hz2]; omega))) (.inl rfl) rfl rfl rfl ?_; clear hf a; intro a hf
    refine o_v hf hh (yv_assign rfl) ?_; clear hf a; intro a hf
    refine ops_end ?_
    refine blk_n ?_
    refine then_n ?_
    refine sy_ops ?_
    refine o_v hf hh (yv_move rfl) ?_; clear hf a; intro a hf
    refine o_v hf hh (y_add rfl rfl) ?_; clear hf a; intro a hf
    refine o_v hf hh (yv_assign rfl) ?_; clear hf a; intro a hf
    refine ops_end ?_
    refine then_n ?_
    exact ⟨i + 1, ⟨by omega, (hf.head (by repeat' (first | exact True.intro | refine And.intro rfl ?_)) (Keep.cons rfl (Keep.cons rfl (Keep.cons rfl (Keep.cons rfl (Keep.cons rfl (Keep.cons rfl (Keep.cons rfl (Keep.cons rfl (Keep.cons rfl (Keep.app rfl (Keep.rm rfl Keep.base)))))))))))), hh⟩, by omega⟩
   ·have hG2 := hg2; try simp only [gS] at hG2
    refine sy_exit ?_
    refine then_e ?_
    refine then_e ?_
    refine blk_e ?_
    refine then_n ?_
    refine sy_sq ?_
    refine o_v hf hh (yv_move rfl) ?_; clear hf a; intro a hf
    refine o_v hf hh (yv_assign rfl) ?_; clear hf a; intro a hf
    refine o_end ?_
    refine sy_ret ?_
    refine ret_r hf rfl rfl ?_
    rw [show n = i by omega]
    exact ⟨rfl, hh.ext⟩
theorem p22 (s : Nat) (hs : s ≤ 9223372036854775807) (w : World) : Calls Try.prog 22 #[.int .i64 (s : Nat)] w (Ret fun v w' => v = .int .i64 (pc s : Nat) ∧ Ext [] w w') := by
  refine calls_of Try.func22 rfl rfl (fun a hf => ?_)
  have hh := Hp.init w []
  have hle := pc_le s
  refine sy_sq ?_
  refine o_v hf hh (yv_assign rfl) ?_; clear hf a; intro a hf
  refine o_end ?_
  refine sy_sq ?_
  refine o_v hf hh (yv_assign rfl) ?_; clear hf a; intro a hf
  refine o_end ?_
  refine sy_seq ?_
  refine sy_block ?_
  refine sy_loopF (σ := Nat × Nat) [0, 3, 4, 5, 6, 7, 8, 9, 10, 11] (fun k => [(3, .int .i64 k.2), (0, .int .i64 k.1)]) (fun k => k.2 + pc k.1 = pc s ∧ k.1 ≤ s) (fun k => k.1) ((s, 0)) hf hh ?_ ?_ ?_
  · repeat' (first | exact True.intro | refine And.intro rfl ?_)
  · exact ⟨by simp, Nat.le_refl _⟩
  ·rintro k a w ⟨hp1, hp2⟩ hf hh
   obtain ⟨t, m⟩ := k
   simp only at hp1 hp2
   have hst := pc_step (n := t) (by omega)
   have hr0 : (0 : Int) ≤ (t : Int) % 2 := Int.emod_nonneg _ (by omega)
   have hr2 : (t : Int) % 2 < 2 := Int.emod_lt_of_pos _ (by omega)
   refine sy_seq ?_
   refine sy_sq ?_
   refine o_v hf hh (yv_move rfl) ?_; clear hf a; intro a hf
   refine o_v hf hh (yv_bin rfl rfl rfl) ?_; clear hf a; intro a hf
   refine o_end ?_
   refine sy_cond hf rfl (fun hg2 => ?_) (fun hg2 => ?_)
   ·have hG2 := hg2; try simp only [gS] at hG2
    refine sy_skip ?_
    refine then_n ?_
    refine sy_block ?_
    refine sy_sq ?_
    refine o_v hf hh (yv_move rfl) ?_; clear hf a; intro a hf
    refine o_v hf hh (yv_move rfl) ?_; clear hf a; intro a hf
    refine o_v hf hh (yv_rem rfl rfl (by omega) (by omega)) ?_; clear hf a; intro a hf
    refine o_v hf hh (y_add rfl rfl) ?_; clear hf a; intro a hf
    refine o_v hf hh (yv_assign rfl) ?_; clear hf a; intro a hf
    refine o_end ?_
    refine sy_ops ?_
    refine o_v hf hh (yv_move rfl) ?_; clear hf a; intro a hf
    refine o_v hf hh (yv_quo rfl rfl (by omega) (by omega) (by omega)) ?_; clear hf a; intro a hf
    refine o_v hf hh (yv_assign rfl) ?_; clear hf a; intro a hf
    refine ops_end ?_
    refine blk_n ?_
    refine then_n ?_
    refine ⟨(t / 2, m + t % 2), ⟨⟨by simp only; omega, by simp only; omega⟩, hf.head ⟨congrArg (fun z => some (Value.int IntKind.i64 z)) (by push_cast; omega), congrArg (fun z => some (Value.int IntKind.i64 z)) (by push_cast; omega), True.intro⟩ (Keep.cons rfl (Keep.cons rfl (Keep.cons rfl (Keep.cons rfl (Keep.cons rfl (Keep.cons rfl (Keep.cons rfl (Keep.cons rfl (Keep.cons rfl (Keep.cons rfl (Keep.app rfl (Keep.rm rfl Keep.base)))))))))))), hh⟩, by simp only; omega⟩
   ·have hG2 := hg2; try simp only [gS] at hG2
    refine sy_exit ?_
    refine then_e ?_
    refine then_e ?_
    refine blk_e ?_
    refine then_n ?_
    refine sy_sq ?_
    refine o_v hf hh (yv_move rfl) ?_; clear hf a; intro a hf
    refine o_v hf hh (yv_assign rfl) ?_; clear hf a; intro a hf
    refine o_end ?_
    refine sy_ret ?_
    refine ret_r hf rfl rfl ?_
    refine ⟨?_, hh.ext⟩
    have : t = 0 := by omega
    subst this
    rw [pc_zero] at hp1
    exact congrArg (Value.int IntKind.i64) (by omega)
theorem p32 (d : RowsD) (p : Int) (sa sb : Option Addr) (ca cb : Nat) (u : World) (hA : MkAt u sa d.l) (hB : MkAt u sb d.r) (hL : d.l.length ≤ 24) (hR : d.r.length ≤ 24) (l r : Int) : Calls Try.prog 32 #[canV d p sa sb ca cb, .int .i64 l, .int .i64 r] u (Ret fun v w' => v = .bool (askS d l r) ∧ Ext [] u w') := by
  refine calls_of Try.func32 rfl rfl (fun a hf => ?_)
  have hh := Hp.init u []
  have hp1 : 2 ^ d.l.length ≤ 2 ^ 24 := Nat.pow_le_pow_right (by omega) hL
  have hp2 : 2 ^ d.r.length ≤ 2 ^ 24 := Nat.pow_le_pow_right (by omega) hR
  have hask : askS d l r = ((decide (0 ≤ l) && decide (l ≤ ((2 ^ d.l.length : Nat) : Int) - 1)) && (decide (0 ≤ r) && decide (r ≤ ((2 ^ d.r.length : Nat) : Int) - 1))) := rfl
  have k1 := fun w => p66 d.l.length (by omega) w
  have k2 := fun w => p66 d.r.length (by omega) w
  obtain ⟨q1, hq1⟩ : ∃ q : Nat, q = 2 ^ d.l.length := ⟨_, rfl⟩
  obtain ⟨q2, hq2⟩ : ∃ q : Nat, q = 2 ^ d.r.length := ⟨_, rfl⟩
  rw [← hq1] at k1 hp1 hask; rw [← hq2] at k2 hp2 hask
  refine sy_sq ?_
  refine o_box hf hh ?_; clear hf hh a; intro B3 a w hf hh
  refine o_v hf hh (yv_assign rfl) ?_; clear hf a; intro a hf
  refine o_end ?_
  refine sy_sq ?_
  refine o_v hf hh (yv_move rfl) ?_; clear hf a; intro a hf
  refine o_v hf hh (yv_fieldAddr Try.fo_31_0 rfl) ?_; clear hf a; intro a hf
  refine o_v hf hh (yv_fieldAddr Try.fo_29_0 rfl) ?_; clear hf a; intro a hf
  refine o_v hf hh (y_ld Try.sc_25 rfl) ?_; clear hf a; intro a hf
  refine o_v hf hh (yv_len Try.se_25 rfl) ?_; clear hf a; intro a hf
  refine o_call hf Try.en_66 rfl rfl rfl (k1 _) ?_; clear hf a; intro v a w hR hf
  obtain ⟨rfl, hx⟩ := hR; replace hh := hh.more hx; clear hx
  refine o_v hf hh (y_sub rfl rfl) ?_; clear hf a; intro a hf
  refine o_call hf Try.en_53 rfl rfl rfl (p53 _ _ _ _) ?_; clear hf a; intro v a w hR hf
  obtain ⟨rfl, hx⟩ := hR; replace hh := hh.more hx; clear hx
  refine o_v hf hh (yv_move rfl) ?_; clear hf a; intro a hf
  refine guard_split hf (t := 15) rfl (fun hg3 => ?_) (fun hg3 => ?_)
  ·have hG3 := hg3; try simp only [gS] at hG3
   refine o_v hf hh (yv_move rfl) ?_; clear hf a; intro a hf
   refine o_v hf hh (yv_fieldAddr Try.fo_31_0 rfl) ?_; clear hf a; intro a hf
   refine o_v hf hh (yv_fieldAddr Try.fo_29_1 rfl) ?_; clear hf a; intro a hf
   refine o_v hf hh (y_ld Try.sc_25 rfl) ?_; clear hf a; intro a hf
   refine o_v hf hh (yv_len Try.se_25 rfl) ?_; clear hf a; intro a hf
   refine o_call hf Try.en_66 rfl rfl rfl (k2 _) ?_; clear hf a; intro v a w hR hf
   obtain ⟨rfl, hx⟩ := hR; replace hh := hh.more hx; clear hx
   refine o_v hf hh (y_sub rfl rfl) ?_; clear hf a; intro a hf
   refine o_call hf Try.en_53 rfl rfl rfl (p53 _ _ _ _) ?_; clear hf a; intro v a w hR hf
   obtain ⟨rfl, hx⟩ := hR; replace hh := hh.more hx; clear hx
   refine o_v hf hh (y_pt rfl rfl) ?_; clear hf a; intro a hf
   refine o_v hf hh (yv_assign rfl) ?_; clear hf a; intro a hf
   refine o_end ?_
   refine sy_ret ?_
   refine ret_r hf rfl rfl ?_
   refine ⟨congrArg Value.bool ?_, hh.ext⟩
   first
     | (have h9 : (decide (0 ≤ l) && decide (l ≤ (q1 : Int) - 1)) = true := by assumption
        rw [hask, h9, Bool.true_and])
     | (have h9 : (decide (0 ≤ l) && decide (l ≤ (q1 : Int) - 1)) = false := by assumption
        rw [hask, h9, Bool.false_and])
  ·have hG3 := hg3; try simp only [gS] at hG3
   refine o_off hf ?_; clear hf a; intro a hf
   refine o_off hf ?_; clear hf a; intro a hf
   refine o_off hf ?_; clear hf a; intro a hf
   refine o_off hf ?_; clear hf a; intro a hf
   refine o_off hf ?_; clear hf a; intro a hf
   refine o_off hf ?_; clear hf a; intro a hf
   refine o_off hf ?_; clear hf a; intro a hf
   refine o_off hf ?_; clear hf a; intro a hf
   refine o_v hf hh (y_pf rfl rfl) ?_; clear hf a; intro a hf
   refine o_v hf hh (yv_assign rfl) ?_; clear hf a; intro a hf
   refine o_end ?_
   refine sy_ret ?_
   refine ret_r hf rfl rfl ?_
   refine ⟨congrArg Value.bool ?_, hh.ext⟩
   first
     | (have h9 : (decide (0 ≤ l) && decide (l ≤ (q1 : Int) - 1)) = true := by assumption
        rw [hask, h9, Bool.true_and])
     | (have h9 : (decide (0 ≤ l) && decide (l ≤ (q1 : Int) - 1)) = false := by assumption
        rw [hask, h9, Bool.false_and])
theorem p19 (d : RowsD) (p : Int) (sa sb : Option Addr) (ca cb : Nat) (u : World) (hA : MkAt u sa d.l) (hB : MkAt u sb d.r) (hla : d.l.length ≤ 1000000) (hlb : d.r.length ≤ 1000000) : Calls Try.prog 19 #[canV d p sa sb ca cb] u (Ret fun v w' => v = .bool (okCan d p) ∧ Ext [] u w') := by
  refine calls_of Try.func19 rfl rfl (fun a hf => ?_)
  have hh := Hp.init u []
  refine sy_sq ?_
  refine o_box hf hh ?_; clear hf hh a; intro B1 a w hf hh
  refine o_v hf hh (yv_assign rfl) ?_; clear hf a; intro a hf
  refine o_end ?_
  refine sy_sq ?_
  refine o_v hf hh (yv_fieldAddr Try.fo_31_0 rfl) ?_; clear hf a; intro a hf
  refine o_v hf hh (y_lds Try.ag_29 rfl) ?_; clear hf a; intro a hf
  refine o_call hf Try.en_28 rfl rfl rfl (c26 d sa sb ca cb _ (hA.ext hh.ext) (hB.ext hh.ext) hla hlb) ?_; clear hf a; intro v a w hR hf
  obtain ⟨rfl, hx⟩ := hR; replace hh := hh.more hx; clear hx
  refine o_v hf hh (yv_move rfl) ?_; clear hf a; intro a hf
  refine guard_split hf (t := 6) rfl (fun hg2 => ?_) (fun hg2 => ?_)
  ·have hG2 := hg2; try simp only [gS] at hG2
   refine o_v hf hh (yv_fieldAddr Try.fo_31_1 rfl) ?_; clear hf a; intro a hf
   refine o_v hf hh (y_ld Try.sc_3 rfl) ?_; clear hf a; intro a hf
   refine o_call hf Try.en_53 rfl rfl rfl (p53 _ _ _ _) ?_; clear hf a; intro v a w hR hf
   obtain ⟨rfl, hx⟩ := hR; replace hh := hh.more hx; clear hx
   refine o_v hf hh (y_pt rfl rfl) ?_; clear hf a; intro a hf
   refine o_v hf hh (yv_assign rfl) ?_; clear hf a; intro a hf
   refine o_end ?_
   refine sy_ret ?_
   refine ret_r hf rfl rfl ?_
   refine ⟨congrArg Value.bool ?_, hh.ext⟩
   unfold okCan; simp_all
  ·have hG2 := hg2; try simp only [gS] at hG2
   refine o_off hf ?_; clear hf a; intro a hf
   refine o_off hf ?_; clear hf a; intro a hf
   refine o_off hf ?_; clear hf a; intro a hf
   refine o_v hf hh (y_pf rfl rfl) ?_; clear hf a; intro a hf
   refine o_v hf hh (yv_assign rfl) ?_; clear hf a; intro a hf
   refine o_end ?_
   refine sy_ret ?_
   refine ret_r hf rfl rfl ?_
   refine ⟨congrArg Value.bool ?_, hh.ext⟩
   unfold okCan; simp_all
theorem p18 (d : RowsD) (p : Int) (sa sb : Option Addr) (ca cb : Nat) (u : World) (hA : MkAt u sa d.l) (hB : MkAt u sb d.r) (m : Int) : Calls Try.prog 18 #[canV d p sa sb ca cb, .int .i64 m] u (Ret fun v w' => v = .bool (decide (24 < d.l.length ∨ 24 < d.r.length) || (decide (m < d.l.length ∨ m < d.r.length) && okCan d p)) ∧ Ext [] u w') := by
  refine calls_of Try.func18 rfl rfl (fun a hf => ?_)
  have hh := Hp.init u []
  refine sy_sq ?_
  refine o_box hf hh ?_; clear hf hh a; intro B2 a w hf hh
  refine o_v hf hh (yv_assign rfl) ?_; clear hf a; intro a hf
  refine o_end ?_
  refine sy_sq ?_
  refine o_v hf hh (yv_fieldAddr Try.fo_31_0 rfl) ?_; clear hf a; intro a hf
  refine o_v hf hh (yv_fieldAddr Try.fo_29_0 rfl) ?_; clear hf a; intro a hf
  refine o_v hf hh (y_ld Try.sc_25 rfl) ?_; clear hf a; intro a hf
  refine o_v hf hh (yv_len Try.se_25 rfl) ?_; clear hf a; intro a hf
  refine o_v hf hh (yv_fieldAddr Try.fo_31_0 rfl) ?_; clear hf a; intro a hf
  refine o_v hf hh (yv_fieldAddr Try.fo_29_1 rfl) ?_; clear hf a; intro a hf
  refine o_v hf hh (y_ld Try.sc_25 rfl) ?_; clear hf a; intro a hf
  refine o_v hf hh (yv_len Try.se_25 rfl) ?_; clear hf a; intro a hf
  refine o_v hf hh (yv_max rfl rfl) ?_; clear hf a; intro a hf
  refine o_v hf hh (yv_assign rfl) ?_; clear hf a; intro a hf
  refine o_end ?_
  refine sy_sq ?_
  refine o_v hf hh (yv_move rfl) ?_; clear hf a; intro a hf
  refine o_v hf hh (yv_bin rfl rfl rfl) ?_; clear hf a; intro a hf
  refine o_v hf hh (yv_move rfl) ?_; clear hf a; intro a hf
  refine guard_split hf (t := 17) rfl (fun hg2 => ?_) (fun hg2 => ?_)
  ·have hG2 := hg2; try simp only [gS] at hG2
   refine o_off hf ?_; clear hf a; intro a hf
   refine o_off hf ?_; clear hf a; intro a hf
   refine o_off hf ?_; clear hf a; intro a hf
   refine o_off hf ?_; clear hf a; intro a hf
   refine o_off hf ?_; clear hf a; intro a hf
   refine o_off hf ?_; clear hf a; intro a hf
   refine o_off hf ?_; clear hf a; intro a hf
   refine o_v hf hh (y_pt rfl rfl) ?_; clear hf a; intro a hf
   refine o_v hf hh (yv_assign rfl) ?_; clear hf a; intro a hf
   refine o_end ?_
   refine sy_ret ?_
   refine ret_r hf rfl rfl ?_
   have hX := hh.ext
   refine ⟨congrArg Value.bool ?_, hX⟩
   clear hX hh hf
   first
     | (rw [decide_eq_true (p := 24 < d.l.length ∨ 24 < d.r.length) (by omega)]; simp_all; done)
     | (rw [decide_eq_false (p := 24 < d.l.length ∨ 24 < d.r.length) (by omega), decide_eq_true (p := m < d.l.length ∨ m < d.r.length) (by omega)]; simp_all; done)
     | (rw [decide_eq_false (p := 24 < d.l.length ∨ 24 < d.r.length) (by omega), decide_eq_false (p := m < d.l.length ∨ m < d.r.length) (by omega)]; simp_all; done)
  ·have hG2 := hg2; try simp only [gS] at hG2
   refine o_v hf hh (yv_move rfl) ?_; clear hf a; intro a hf
   refine o_v hf hh (yv_move rfl) ?_; clear hf a; intro a hf
   refine o_v hf hh (yv_bin rfl rfl rfl) ?_; clear hf a; intro a hf
   refine o_v hf hh (yv_move rfl) ?_; clear hf a; intro a hf
   refine guard_split hf (t := 21) rfl (fun hg4 => ?_) (fun hg4 => ?_)
   ·have hG4 := hg4; try simp only [gS] at hG4
    refine o_v hf hh (y_lds Try.ag_31 rfl) ?_; clear hf a; intro a hf
    refine o_call hf Try.en_19 rfl rfl rfl (p19 d p sa sb ca cb _ (hA.ext hh.ext) (hB.ext hh.ext) (by omega) (by omega)) ?_; clear hf a; intro v a w hR hf
    obtain ⟨rfl, hx⟩ := hR; replace hh := hh.more hx; clear hx
    refine o_v hf hh (y_pt rfl rfl) ?_; clear hf a; intro a hf
    refine o_v hf hh (y_pf rfl rfl) ?_; clear hf a; intro a hf
    refine o_v hf hh (yv_assign rfl) ?_; clear hf a; intro a hf
    refine o_end ?_
    refine sy_ret ?_
    refine ret_r hf rfl rfl ?_
    have hX := hh.ext
    refine ⟨congrArg Value.bool ?_, hX⟩
    clear hX hh hf
    first
      | (rw [decide_eq_true (p := 24 < d.l.length ∨ 24 < d.r.length) (by omega)]; simp_all; done)
      | (rw [decide_eq_false (p := 24 < d.l.length ∨ 24 < d.r.length) (by omega), decide_eq_true (p := m < d.l.length ∨ m < d.r.length) (by omega)]; simp_all; done)
      | (rw [decide_eq_false (p := 24 < d.l.length ∨ 24 < d.r.length) (by omega), decide_eq_false (p := m < d.l.length ∨ m < d.r.length) (by omega)]; simp_all; done)
   ·have hG4 := hg4; try simp only [gS] at hG4
    refine o_off hf ?_; clear hf a; intro a hf
    refine o_off hf ?_; clear hf a; intro a hf
    refine o_v hf hh (y_pf rfl rfl) ?_; clear hf a; intro a hf
    refine o_v hf hh (y_pf rfl rfl) ?_; clear hf a; intro a hf
    refine o_v hf hh (yv_assign rfl) ?_; clear hf a; intro a hf
    refine o_end ?_
    refine sy_ret ?_
    refine ret_r hf rfl rfl ?_
    have hX := hh.ext
    refine ⟨congrArg Value.bool ?_, hX⟩
    clear hX hh hf
    first
      | (rw [decide_eq_true (p := 24 < d.l.length ∨ 24 < d.r.length) (by omega)]; simp_all; done)
      | (rw [decide_eq_false (p := 24 < d.l.length ∨ 24 < d.r.length) (by omega), decide_eq_true (p := m < d.l.length ∨ m < d.r.length) (by omega)]; simp_all; done)
      | (rw [decide_eq_false (p := 24 < d.l.length ∨ 24 < d.r.length) (by omega), decide_eq_false (p := m < d.l.length ∨ m < d.r.length) (by omega)]; simp_all; done)
end Go.Proofs.Ytidieepndphodaa
namespace Go.MatM
open Go Go.Sy Go.Proofs Go.RowKit
theorem woD_l (d : RowsD) (x : Nat × Nat) : (woD d x).l = keepL d.l x.1 := rfl
theorem woD_r (d : RowsD) (x : Nat × Nat) : (woD d x).r = keepL d.r x.2 := rfl
end Go.MatM
namespace Go.Proofs.Ytidieepndphodaa
open Go Go.Sy Go.MatM
theorem p57 (l : List Mk) (sa : Option Addr) (ca : Nat) (s : Nat) (u : World) (hA : MkAt u sa l) (hl : l.length ≤ 60) (hs : s ≤ 2305843009213693952) : Calls Try.prog 57 #[.slice sa l.length ca, .int .i64 (s : Nat)] u (Ret fun v w' => ∃ X, OwnSl 54 4 v (keepL l s).length (encM (keepL l s)) X ∧ Hp u [] X w') := by
  refine calls_of Try.func57 rfl rfl (fun a hf => ?_)
  have hh := Hp.init u []
  refine sy_sq ?_
  refine o_v hf hh (yv_assign rfl) ?_; clear hf a; intro a hf
  refine o_end ?_
  refine sy_sq ?_
  refine o_v hf hh (yv_assign rfl) ?_; clear hf a; intro a hf
  refine o_end ?_
  refine sy_seq ?_
  refine sy_sq ?_
  refine o_v hf hh (yv_assign rfl) ?_; clear hf a; intro a hf
  refine o_end ?_
  refine sy_block ?_
  refine sy_loopH (σ := Nat × Value × List (Nat × Obj)) [5, 6, 7, 8, 9, 10, 11, 12, 13, 14, 15, 16, 17, 18, 19, 20, 21, 22, 23] (fun q => [(6, .int .i64 (q.1 : Nat)), (5, q.2.1)]) (fun q => fun w => q.1 ≤ l.length ∧ OwnSl 54 4 q.2.1 (keepL (l.take q.1) s).length (encM (keepL (l.take q.1) s)) q.2.2 ∧ Hp u [] q.2.2 w) (fun q => l.length - q.1) ((0, .slice none 0 0, [])) hf ?_ ?_ ?_
  · exact ⟨rfl, rfl, True.intro⟩
  · exact ⟨Nat.zero_le _, OwnSl.nil _ _, hh⟩
  ·rintro q a w ⟨hi, hO, hh⟩ hf
   obtain ⟨i, v0, X⟩ := q; simp only at hi hO hh hf ⊢
   refine sy_seq ?_
   refine sy_sq ?_
   refine o_v hf hh (yv_move rfl) ?_; clear hf a; intro a hf
   refine o_v hf hh (yv_move rfl) ?_; clear hf a; intro a hf
   refine o_v hf hh (yv_len Try.se_25 rfl) ?_; clear hf a; intro a hf
   refine o_v hf hh (yv_bin rfl rfl rfl) ?_; clear hf a; intro a hf
   refine o_end ?_
   refine sy_cond hf rfl (fun hg2 => ?_) (fun hg2 => ?_)
   ·have hG2 := hg2; try simp only [gS] at hG2
    refine sy_skip ?_
    refine then_n ?_
    refine sy_seq ?_
    refine sy_block ?_
    refine sy_seq ?_
    obtain ⟨m, hm⟩ := ex_of (l := l) (i := i) (by omega)
    obtain ⟨blk, off, c, Tx, fr, e1, hbx, hcx⟩ := hA i m hm
    subst e1
    replace hcx : cellsAt c (off + ((i : Nat) : Int).toNat * 4) 4 = some (mkC m) := by rw [Int.toNat_natCast]; exact hcx
    have hsn := keepL_snoc (s := s) hm
    have hkl := keepL_len (l.take i) s
    rw [List.length_take] at hkl
    refine sy_ops ?_
    refine o_v hf hh (yv_move rfl) ?_; clear hf a; intro a hf
    refine o_v hf hh (yv_move rfl) ?_; clear hf a; intro a hf
    refine o_call hf Try.en_73 rfl rfl rfl (c71 s i hs (by omega) _) ?_; clear hf a; intro v a w hR hf
    obtain ⟨rfl, hx⟩ := hR; replace hh := hh.more hx; clear hx
    refine o_v hf hh (yv_not rfl) ?_; clear hf a; intro a hf
    refine o_end ?_
    refine sy_cond hf rfl (fun hg4 => ?_) (fun hg4 => ?_)
    ·have hG4 := hg4; try simp only [gS] at hG4
     refine sy_ops ?_
     refine o_v hf hh (yv_move rfl) ?_; clear hf a; intro a hf
     refine o_v hf hh (yv_move rfl) ?_; clear hf a; intro a hf
     refine o_v hf hh (yv_move rfl) ?_; clear hf a; intro a hf
     refine o_v hf hh (y_ix Try.se_25 rfl rfl) ?_; clear hf a; intro a hf
     refine o_v hf hh (y_lds Try.ag_54 rfl) ?_; clear hf a; intro a hf
     refine ops_buildSl hf hh Try.bl_25_1 rfl rfl (.inl rfl) rfl ?_; clear hf hh; clear a; intro B22 a w hf hh
     refine ops_append (e := 54) (size := 4) (xs := encM (keepL (l.take i) s)) (X := X) (Z := []) (m := (keepL (l.take i) s).length) (q := 1) hf (by rw [List.append_nil]; exact hh) Try.eb_25 rfl rfl hO rfl rfl rfl (by simp only [maxLen]; omega) (by omega) (.inl rfl) rfl ?_; clear hf hh a; intro v1 X1 a w hO1 hf hh
     rw [List.append_nil] at hh
     refine o_v hf hh (yv_assign rfl) ?_; clear hf a; intro a hf
     refine ops_end ?_
     refine blk_n ?_
     refine then_n ?_
     refine sy_ops ?_
     refine o_v hf hh (yv_move rfl) ?_; clear hf a; intro a hf
     refine o_v hf hh (y_add rfl rfl) ?_; clear hf a; intro a hf
     refine o_v hf hh (yv_assign rfl) ?_; clear hf a; intro a hf
     refine ops_end ?_
     refine then_n ?_
     first
       | (rw [if_pos (by simp_all)] at hsn
          exact ⟨(i + 1, v0, X), ⟨⟨by simp only; omega, by simp only [hsn]; exact hO, hh.less (.cons _ (List.Sublist.refl _))⟩, hf.head ⟨rfl, rfl, True.intro⟩ (Keep.cons rfl (Keep.cons rfl (Keep.cons rfl (Keep.cons rfl (Keep.cons rfl (Keep.cons rfl (Keep.cons rfl (Keep.cons rfl (Keep.cons rfl (Keep.cons rfl (Keep.cons rfl (Keep.cons rfl (Keep.cons rfl (Keep.cons rfl (Keep.cons rfl (Keep.cons rfl (Keep.cons rfl (Keep.cons rfl (Keep.cons rfl (Keep.app rfl (Keep.rm rfl Keep.base)))))))))))))))))))))⟩, by simp only; omega⟩)
       | (rw [if_neg (by simp_all)] at hsn
          exact ⟨(i + 1, v1, X1), ⟨⟨by simp only; omega, by simp only [hsn, List.length_append, encM_app]; exact hO1, hh⟩, hf.head ⟨rfl, rfl, True.intro⟩ (Keep.cons rfl (Keep.cons rfl (Keep.cons rfl (Keep.cons rfl (Keep.cons rfl (Keep.cons rfl (Keep.cons rfl (Keep.cons rfl (Keep.cons rfl (Keep.cons rfl (Keep.cons rfl (Keep.cons rfl (Keep.cons rfl (Keep.cons rfl (Keep.cons rfl (Keep.cons rfl (Keep.cons rfl (Keep.cons rfl (Keep.cons rfl (Keep.app rfl (Keep.rm rfl Keep.base)))))))))))))))))))))⟩, by simp only; omega⟩)
    ·have hG4 := hg4; try simp only [gS] at hG4
     refine sy_skip ?_
     refine blk_n ?_
     refine then_n ?_
     refine sy_ops ?_
     refine o_v hf hh (yv_move rfl) ?_; clear hf a; intro a hf
     refine o_v hf hh (y_add rfl rfl) ?_; clear hf a; intro a hf
     refine o_v hf hh (yv_assign rfl) ?_; clear hf a; intro a hf
     refine ops_end ?_
     refine then_n ?_
     first
       | (rw [if_pos (by simp_all)] at hsn
          exact ⟨(i + 1, v0, X), ⟨⟨by simp only; omega, by simp only [hsn]; exact hO, hh⟩, hf.head ⟨rfl, rfl, True.intro⟩ (Keep.cons rfl (Keep.cons rfl (Keep.cons rfl (Keep.cons rfl (Keep.cons rfl (Keep.cons rfl (Keep.cons rfl (Keep.cons rfl (Keep.cons rfl (Keep.cons rfl (Keep.cons rfl (Keep.app rfl (Keep.rm rfl Keep.base)))))))))))))⟩, by simp only; omega⟩)
       | (rw [if_neg (by simp_all)] at hsn
          exact ⟨(i + 1, v1, X1), ⟨⟨by simp only; omega, by simp only [hsn, List.length_append, encM_app]; exact hO1, hh⟩, hf.head ⟨rfl, rfl, True.intro⟩ (Keep.cons rfl (Keep.cons rfl (Keep.cons rfl (Keep.cons rfl (Keep.cons rfl (Keep.cons rfl (Keep.cons rfl (Keep.cons rfl (Keep.cons rfl (Keep.cons rfl (Keep.cons rfl (Keep.app rfl (Keep.rm rfl Keep.base)))))))))))))⟩, by simp only; omega⟩)
   ·have hG2 := hg2; try simp only [gS] at hG2
    refine sy_exit ?_
    refine then_e ?_
    refine then_e ?_
    refine blk_e ?_
    refine then_n ?_
    refine sy_sq ?_
    refine o_v hf hh (yv_move rfl) ?_; clear hf a; intro a hf
    refine o_v hf hh (yv_assign rfl) ?_; clear hf a; intro a hf
    refine o_end ?_
    refine sy_ret ?_
    refine ret_r hf rfl rfl ?_
    rw [List.take_of_length_le (by omega)] at hO
    exact ⟨X, hO, hh⟩
theorem p25 (d : RowsD) (sa sb : Option Addr) (ca cb : Nat) (u : World) (hA : MkAt u sa d.l) (hB : MkAt u sb d.r) (hL : d.l.length ≤ 60) (hR : d.r.length ≤ 60) (x : Nat × Nat) (hx1 : x.1 ≤ 2305843009213693952) (hx2 : x.2 ≤ 2305843009213693952) : Calls Try.prog 25 #[rowsV d sa sb ca cb, .int .i64 (x.1 : Nat), .int .i64 (x.2 : Nat)] u (Ret fun v w' => ∃ oa ob cpa cpb X1 X2, v = rowsV (woD d x) oa ob cpa cpb ∧ OwnSl 54 4 (.slice oa (woD d x).l.length cpa) (woD d x).l.length (encM (woD d x).l) X1 ∧ OwnSl 54 4 (.slice ob (woD d x).r.length cpb) (woD d x).r.length (encM (woD d x).r) X2 ∧ Hp u [] (X1 ++ X2) w') := by
  refine calls_of Try.func25 rfl rfl (fun a hf => ?_)
  have hh := Hp.init u []
  refine sy_sq ?_
  refine o_box hf hh ?_; clear hf hh a; intro B3 a w hf hh
  refine o_alloc hf hh Try.ze_29 ?_; clear hf hh a; intro B6 a w hf hh
  refine o_end ?_
  refine sy_seq ?_
  replace hh : Hp u [] [(B6, .cells #[.slice none 0 0, .slice none 0 0, .int .i64 0, .int .i64 0, .int .i64 0] 29), (B3, .cells (rowsV d sa sb ca cb).cells 29)] w := hh
  refine sy_treeC (.p 0 (.q 0 1 (.p 2 (.p 4 (.q 0 5 (.p 6 (.e1 3 (.p 8 (.e1 7 (.e1 9 (.p 10 (.e1 11 (.fin))))))))))))) [[9, 11]] [(AtE u [] [(B3, .cells (rowsV d sa sb ca cb).cells 29)], [9, 11])] Try.follows (by kernel_rfl) rfl hh (fun w hh => ?_)
  refine mc_p rfl   hf (yv_fieldAddr Try.fo_29_0 rfl) (.inl rfl) rfl rfl ?_; clear hf a; intro a hf
  refine mc_q rfl rfl (AtE.mk1 hh.ext (hh.at (i := 1) rfl)) hf (y_ld Try.sc_25 rfl) (.inl rfl) rfl rfl ?_; clear hf a; intro a hf
  refine mc_p rfl   hf (yv_move rfl) (.inl rfl) rfl rfl ?_; clear hf a; intro a hf
  refine mc_p rfl   hf (yv_fieldAddr Try.fo_29_1 rfl) (.inl rfl) rfl rfl ?_; clear hf a; intro a hf
  refine mc_q rfl rfl (AtE.mk1 hh.ext (hh.at (i := 1) rfl)) hf (y_ld Try.sc_25 rfl) (.inl rfl) rfl rfl ?_; clear hf a; intro a hf
  refine mc_p rfl   hf (yv_move rfl) (.inl rfl) rfl rfl ?_; clear hf a; intro a hf
  refine mc_e rfl fun Q1 => ?_
  refine o_call hf Try.en_57 rfl rfl rfl (p57 d.l sa ca x.1 _ (hA.ext hh.ext) hL hx1) ?_; clear hf a; intro v a w hR hf
  obtain ⟨X1, hO1, hx⟩ := hR; replace hh := (hh.join hx).perm List.perm_append_comm; clear hx
  obtain ⟨oa1, cp1, rfl⟩ := OwnSl_val hO1
  refine ops_end ?_
  refine then_n ⟨⟨fun _ _ => (AtE.mk1 hh.ext (hh.at (i := 1) rfl)), trivial⟩, ?_⟩
  refine mc_p rfl   hf (yv_fieldAddr Try.fo_29_0 rfl) (.inl rfl) rfl rfl ?_; clear hf a; intro a hf
  refine mc_e rfl fun Q1 => ?_
  refine o_call hf Try.en_57 rfl rfl rfl (p57 d.r sb cb x.2 _ (hB.ext hh.ext) hR hx2) ?_; clear hf a; intro v a w hR hf
  obtain ⟨X2, hO2, hx⟩ := hR; replace hh := (hh.join hx).perm List.perm_append_comm; clear hx
  obtain ⟨oa2, cp2, rfl⟩ := OwnSl_val hO2
  refine ops_end ?_
  refine then_n ⟨⟨fun _ _ => (AtE.mk1 hh.ext (hh.at (i := 1) rfl)), trivial⟩, ?_⟩
  refine mc_e rfl fun Q1 => ?_
  refine o_store hf hh Try.sz_25 fun w hh => ?_
  refine ops_end ?_
  refine then_n ⟨⟨fun h => Bool.noConfusion (show true = false from h), trivial⟩, ?_⟩
  refine mc_p rfl   hf (yv_fieldAddr Try.fo_29_1 rfl) (.inl rfl) rfl rfl ?_; clear hf a; intro a hf
  refine mc_e rfl fun Q1 => ?_
  refine o_store hf hh Try.sz_25 fun w hh => ?_
  refine ops_end ?_
  refine then_n ⟨⟨fun h => Bool.noConfusion (show true = false from h), trivial⟩, ?_⟩
  refine mc_end ?_
  refine then_n ?_
  refine sy_sq ?_
  refine o_v hf hh (y_lds Try.ag_29 rfl) ?_; clear hf a; intro a hf
  refine o_store hf hh Try.sz_29 fun w hh => ?_
  refine o_end ?_
  refine sy_ret ?_
  refine ret_c (vs := [rowsV (woD d x) oa1 oa2 cp1 cp2]) hf ?_ ?_
  · exact ⟨⟨B6, 0, _, 29, (0, 0), rfl, hh.at (i := 0) rfl, .inr ⟨5, _, Try.ag_29, rfl, rfl⟩⟩, trivial⟩
  exact ⟨oa1, oa2, cp1, cp2, X1, X2, rfl, hO1, hO2, hh.less (.cons _ (.cons _ (.refl _)))⟩
theorem p24 (d : RowsD) (sa sb : Option Addr) (ca cb : Nat) (sa2 sb2 : Option Addr) (ca2 cb2 : Nat) (u : World) (hA : MkAt u sa d.l) (hB : MkAt u sb d.r) (hA2 : MkAt u sa2 d.l) (hB2 : MkAt u sb2 d.r) (hL : d.l.length ≤ 1000000) (hR : d.r.length ≤ 1000000) : Calls Try.prog 24 #[rowsV d sa sb ca cb, rowsV d sa2 sb2 ca2 cb2] u (Ret fun v w' => v = .bool true ∧ Ext [] u w') := by
  refine calls_of Try.func24 rfl rfl (fun a hf => ?_)
  have hh := Hp.init u []
  refine sy_sq ?_
  refine o_box hf hh ?_; clear hf hh a; intro B2 a w hf hh
  refine o_box hf hh ?_; clear hf hh a; intro B3 a w hf hh
  refine o_v hf hh (yv_assign rfl) ?_; clear hf a; intro a hf
  refine o_end ?_
  refine sy_seq ?_
  refine sy_sq ?_
  refine o_v hf hh (yv_fieldAddr Try.fo_29_0 rfl) ?_; clear hf a; intro a hf
  refine o_v hf hh (y_ld Try.sc_25 rfl) ?_; clear hf a; intro a hf
  refine o_v hf hh (yv_len Try.se_25 rfl) ?_; clear hf a; intro a hf
  refine o_v hf hh (yv_fieldAddr Try.fo_29_0 rfl) ?_; clear hf a; intro a hf
  refine o_v hf hh (y_ld Try.sc_25 rfl) ?_; clear hf a; intro a hf
  refine o_v hf hh (yv_len Try.se_25 rfl) ?_; clear hf a; intro a hf
  refine o_v hf hh (yv_bin rfl rfl rfl) ?_; clear hf a; intro a hf
  refine o_v hf hh (yv_move rfl) ?_; clear hf a; intro a hf
  refine o_v hf hh (yv_fieldAddr Try.fo_29_1 rfl) ?_; clear hf a; intro a hf
  refine o_v hf hh (y_ld Try.sc_25 rfl) ?_; clear hf a; intro a hf
  refine o_v hf hh (yv_len Try.se_25 rfl) ?_; clear hf a; intro a hf
  refine o_v hf hh (yv_fieldAddr Try.fo_29_1 rfl) ?_; clear hf a; intro a hf
  refine o_v hf hh (y_ld Try.sc_25 rfl) ?_; clear hf a; intro a hf
  refine o_v hf hh (yv_len Try.se_25 rfl) ?_; clear hf a; intro a hf
  refine o_v hf hh (yv_bin rfl rfl rfl) ?_; clear hf a; intro a hf
  refine o_v hf hh (y_pf rfl rfl) ?_; clear hf a; intro a hf
  refine o_v hf hh (yv_move rfl) ?_; clear hf a; intro a hf
  refine o_v hf hh (yv_fieldAddr Try.fo_29_2 rfl) ?_; clear hf a; intro a hf
  refine o_v hf hh (y_lds Try.ag_27 rfl) ?_; clear hf a; intro a hf
  refine o_v hf hh (yv_fieldAddr Try.fo_29_2 rfl) ?_; clear hf a; intro a hf
  refine o_v hf hh (y_lds Try.ag_27 rfl) ?_; clear hf a; intro a hf
  refine o_v hf hh (yv_neF [d.lo, d.hi] [d.lo, d.hi] fl24 rfl rfl) ?_; clear hf a; intro a hf
  refine o_v hf hh (y_pf rfl rfl) ?_; clear hf a; intro a hf
  refine o_v hf hh (yv_move rfl) ?_; clear hf a; intro a hf
  refine o_v hf hh (yv_fieldAddr Try.fo_29_3 rfl) ?_; clear hf a; intro a hf
  refine o_v hf hh (y_ld Try.sc_3 rfl) ?_; clear hf a; intro a hf
  refine o_v hf hh (yv_fieldAddr Try.fo_29_3 rfl) ?_; clear hf a; intro a hf
  refine o_v hf hh (y_ld Try.sc_3 rfl) ?_; clear hf a; intro a hf
  refine o_v hf hh (yv_bin rfl rfl rfl) ?_; clear hf a; intro a hf
  refine o_v hf hh (y_pf rfl rfl) ?_; clear hf a; intro a hf
  refine o_end ?_
  refine c_f hf ?_
  refine sy_skip ?_
  refine then_n ?_
  refine sy_seq ?_
  refine sy_sq ?_
  refine o_v hf hh (yv_assign rfl) ?_; clear hf a; intro a hf
  refine o_end ?_
  refine sy_block ?_
  refine sy_loopF (σ := Nat) [4, 5, 37, 38, 39, 40, 41, 42, 43, 44, 45, 46, 47, 48, 49, 50, 51, 52, 53, 54] (fun i => [(5, .int .i64 (i : Nat))]) (fun i => i ≤ d.l.length) (fun i => d.l.length - i) (0) hf hh ?_ ?_ ?_
  · repeat' (first | exact True.intro | refine And.intro rfl ?_)
  · exact Nat.zero_le _
  ·rintro i a w hi hf hh
   refine sy_seq ?_
   refine sy_sq ?_
   refine o_v hf hh (yv_move rfl) ?_; clear hf a; intro a hf
   refine o_v hf hh (yv_fieldAddr Try.fo_29_0 rfl) ?_; clear hf a; intro a hf
   refine o_v hf hh (y_ld Try.sc_25 rfl) ?_; clear hf a; intro a hf
   refine o_v hf hh (yv_len Try.se_25 rfl) ?_; clear hf a; intro a hf
   refine o_v hf hh (yv_bin rfl rfl rfl) ?_; clear hf a; intro a hf
   refine o_end ?_
   refine sy_cond hf rfl (fun hg5 => ?_) (fun hg5 => ?_)
   ·have hG5 := hg5; try simp only [gS] at hG5
    refine sy_skip ?_
    refine then_n ?_
    refine sy_seq ?_
    refine sy_block ?_
    refine sy_seq ?_
    obtain ⟨m, hm⟩ := ex_of (l := d.l) (i := i) (by omega)
    obtain ⟨blk, off, c, Tx, fr, e1, hbx, hcx⟩ := hA i m hm
    obtain ⟨blk2, off2, c2, Ty, fr2, e2, hby, hcy⟩ := hA2 i m hm
    subst e1; subst e2
    replace hcx : cellsAt c (off + ((i : Nat) : Int).toNat * 4) 4 = some (mkC m) := by rw [Int.toNat_natCast]; exact hcx
    replace hcy : cellsAt c2 (off2 + ((i : Nat) : Int).toNat * 4) 4 = some (mkC m) := by rw [Int.toNat_natCast]; exact hcy
    refine sy_quiet (C := Hp _ _ _) Try.follows (by kernel_rfl) (hh.drawn _) ?_
    refine oq_v hf (yv_fieldAddr Try.fo_29_0 rfl) ?_; clear hf a; intro a hf
    refine oq_v hf (y_ld Try.sc_25 rfl) ?_; clear hf a; intro a hf
    refine oq_v hf (yv_move rfl) ?_; clear hf a; intro a hf
    refine oq_v hf (y_ix Try.se_25 rfl rfl) ?_; clear hf a; intro a hf
    refine oq_v hf (y_lds Try.ag_54 rfl) ?_; clear hf a; intro a hf
    refine oq_v hf (yv_fieldAddr Try.fo_29_0 rfl) ?_; clear hf a; intro a hf
    refine oq_v hf (y_ld Try.sc_25 rfl) ?_; clear hf a; intro a hf
    refine oq_v hf (yv_move rfl) ?_; clear hf a; intro a hf
    refine oq_v hf (y_ix Try.se_25 rfl rfl) ?_; clear hf a; intro a hf
    refine oq_v hf (y_lds Try.ag_54 rfl) ?_; clear hf a; intro a hf
    refine oq_v hf (yv_neF [m.al, m.ah, m.tl, m.th] [m.al, m.ah, m.tl, m.th] fl53 rfl rfl) ?_; clear hf a; intro a hf
    refine q_end fun w hh => ?_
    refine then_n ?_
    refine c_f hf ?_
    refine sy_skip ?_
    refine blk_n ?_
    refine then_n ?_
    refine sy_ops ?_
    refine o_v hf hh (yv_move rfl) ?_; clear hf a; intro a hf
    refine o_v hf hh (y_add rfl rfl) ?_; clear hf a; intro a hf
    refine o_v hf hh (yv_assign rfl) ?_; clear hf a; intro a hf
    refine ops_end ?_
    refine then_n ?_
    exact ⟨i + 1, ⟨by omega, (hf.head (by repeat' (first | exact True.intro | refine And.intro rfl ?_)) (Keep.cons rfl (Keep.cons rfl (Keep.cons rfl (Keep.cons rfl (Keep.cons rfl (Keep.cons rfl (Keep.cons rfl (Keep.cons rfl (Keep.cons rfl (Keep.cons rfl (Keep.cons rfl (Keep.cons rfl (Keep.cons rfl (Keep.cons rfl (Keep.cons rfl (Keep.cons rfl (Keep.cons rfl (Keep.cons rfl (Keep.cons rfl (Keep.app rfl (Keep.rm rfl Keep.base)))))))))))))))))))))), hh⟩, by omega⟩
   ·have hG5 := hg5; try simp only [gS] at hG5
    refine sy_exit ?_
    refine then_e ?_
    refine then_e ?_
    refine blk_e ?_
    refine then_n ?_
    refine sy_seq ?_
    refine sy_sq ?_
    refine o_v hf hh (yv_assign rfl) ?_; clear hf a; intro a hf
    refine o_end ?_
    refine sy_block ?_
    refine sy_loopF (σ := Nat) [4, 6, 55, 56, 57, 58, 59, 60, 61, 62, 63, 64, 65, 66, 67, 68, 69, 70, 71, 72] (fun i => [(6, .int .i64 (i : Nat))]) (fun i => i ≤ d.r.length) (fun i => d.r.length - i) (0) hf hh ?_ ?_ ?_
    · repeat' (first | exact True.intro | refine And.intro rfl ?_)
    · exact Nat.zero_le _
    ·rintro i a w hi hf hh
     refine sy_seq ?_
     refine sy_sq ?_
     refine o_v hf hh (yv_move rfl) ?_; clear hf a; intro a hf
     refine o_v hf hh (yv_fieldAddr Try.fo_29_1 rfl) ?_; clear hf a; intro a hf
     refine o_v hf hh (y_ld Try.sc_25 rfl) ?_; clear hf a; intro a hf
     refine o_v hf hh (yv_len Try.se_25 rfl) ?_; clear hf a; intro a hf
     refine o_v hf hh (yv_bin rfl rfl rfl) ?_; clear hf a; intro a hf
     refine o_end ?_
     refine sy_cond hf rfl (fun hg7 => ?_) (fun hg7 => ?_)
     ·have hG7 := hg7; try simp only [gS] at hG7
      refine sy_skip ?_
      refine then_n ?_
      refine sy_seq ?_
      refine sy_block ?_
      refine sy_seq ?_
      obtain ⟨m, hm⟩ := ex_of (l := d.r) (i := i) (by omega)
      obtain ⟨blk, off, c, Tx, fr, e1, hbx, hcx⟩ := hB i m hm
      obtain ⟨blk2, off2, c2, Ty, fr2, e2, hby, hcy⟩ := hB2 i m hm
      subst e1; subst e2
      replace hcx : cellsAt c (off + ((i : Nat) : Int).toNat * 4) 4 = some (mkC m) := by rw [Int.toNat_natCast]; exact hcx
      replace hcy : cellsAt c2 (off2 + ((i : Nat) : Int).toNat * 4) 4 = some (mkC m) := by rw [Int.toNat_natCast]; exact hcy
      refine sy_quiet (C := Hp _ _ _) Try.follows (by kernel_rfl) (hh.drawn _) ?_
      refine oq_v hf (yv_fieldAddr Try.fo_29_1 rfl) ?_; clear hf a; intro a hf
      refine oq_v hf (y_ld Try.sc_25 rfl) ?_; clear hf a; intro a hf
      refine oq_v hf (yv_move rfl) ?_; clear hf a; intro a hf
      refine oq_v hf (y_ix Try.se_25 rfl rfl) ?_; clear hf a; intro a hf
      refine oq_v hf (y_lds Try.ag_54 rfl) ?_; clear hf a; intro a hf
      refine oq_v hf (yv_fieldAddr Try.fo_29_1 rfl) ?_; clear hf a; intro a hf
      refine oq_v hf (y_ld Try.sc_25 rfl) ?_; clear hf a; intro a hf
      refine oq_v hf (yv_move rfl) ?_; clear hf a; intro a hf
      refine oq_v hf (y_ix Try.se_25 rfl rfl) ?_; clear hf a; intro a hf
      refine oq_v hf (y_lds Try.ag_54 rfl) ?_; clear hf a; intro a hf
      refine oq_v hf (yv_neF [m.al, m.ah, m.tl, m.th] [m.al, m.ah, m.tl, m.th] fl53 rfl rfl) ?_; clear hf a; intro a hf
      refine q_end fun w hh => ?_
      refine then_n ?_
      refine c_f hf ?_
      refine sy_skip ?_
      refine blk_n ?_
      refine then_n ?_
      refine sy_ops ?_
      refine o_v hf hh (yv_move rfl) ?_; clear hf a; intro a hf
      refine o_v hf hh (y_add rfl rfl) ?_; clear hf a; intro a hf
      refine o_v hf hh (yv_assign rfl) ?_; clear hf a; intro a hf
      refine ops_end ?_
      refine then_n ?_
      exact ⟨i + 1, ⟨by omega, (hf.head (by repeat' (first | exact True.intro | refine And.intro rfl ?_)) (Keep.cons rfl (Keep.cons rfl (Keep.cons rfl (Keep.cons rfl (Keep.cons rfl (Keep.cons rfl (Keep.cons rfl (Keep.cons rfl (Keep.cons rfl (Keep.cons rfl (Keep.cons rfl (Keep.cons rfl (Keep.cons rfl (Keep.cons rfl (Keep.cons rfl (Keep.cons rfl (Keep.cons rfl (Keep.cons rfl (Keep.cons rfl (Keep.app rfl (Keep.rm rfl Keep.base)))))))))))))))))))))), hh⟩, by omega⟩
     ·have hG7 := hg7; try simp only [gS] at hG7
      refine sy_exit ?_
      refine then_e ?_
      refine then_e ?_
      refine blk_e ?_
      refine then_n ?_
      refine sy_sq ?_
      refine o_v hf hh (yv_assign rfl) ?_; clear hf a; intro a hf
      refine o_end ?_
      refine sy_ret ?_
      refine ret_r hf rfl rfl ?_
      exact ⟨rfl, hh.ext⟩
end Go.Proofs.Ytidieepndphodaa
namespace Go.MatM
open Go Go.Sy Go.Proofs Go.RowKit
theorem countE_ok {d : RowsD} (hV : Valid d) : countE d = 0 := by unfold countE; rw [if_pos ((okRows_iff d).2 hV)]
theorem countV_ok {d : RowsD} (hV : Valid d) : countV d = ((cnt (fitD d) d.l.length d.r.length 0 0 (need d) : Nat) : Int) := by unfold countV; rw [if_pos ((okRows_iff d).2 hV)]
theorem leftB_isD {d : RowsD} (hV : Valid d) (x : Nat × Nat) : leftB d x = isD (woD d x) := by
  unfold leftB
  have h := (okRows_iff _).2 (woD_valid hV x)
  rw [Bool.eq_iff_iff, decide_eq_true_eq, opE_zero]
  simp [h]
theorem leftB_cnt {d : RowsD} (hV : Valid d) (x : Nat × Nat) : leftB d x = decide (0 < countV (woD d x)) := by
  rw [leftB_isD hV, countV_ok (woD_valid hV x), Bool.eq_iff_iff, isD_cnt, decide_eq_true_eq]
  omega
theorem fitsCE_1 {d : RowsD} {p l r : Int} (h : okCan d p = false) : fitsCE d p l r = 1 := by unfold fitsCE openE; rw [if_pos h]
theorem fitsCE_2 {d : RowsD} {p l r : Int} (h : okCan d p = true) (h2 : askS d l r = false) : fitsCE d p l r = 2 := by unfold fitsCE openE; rw [if_neg (by rw [h]; decide), if_pos h2]
theorem fitsCE_0 {d : RowsD} {p l r : Int} (h : okCan d p = true) (h2 : askS d l r = true) : fitsCE d p l r = 0 := by unfold fitsCE openE; rw [if_neg (by rw [h]; decide), if_neg (by rw [h2]; decide)]
theorem fitsCV_no {d : RowsD} {p l r : Int} (h : fitsCE d p l r ≠ 0) : fitsCV d p l r = false := by unfold fitsCV; rw [decide_eq_false h]; rfl
theorem fitsCV_ok {d : RowsD} {p : Int} {x y : Nat} (h : fitsCE d p x y = 0) : fitsCV d p x y = isC d p (x, y) := by unfold fitsCV; rw [decide_eq_true h, Bool.true_and, Int.toNat_natCast, Int.toNat_natCast]
theorem fitsCV_cnt {d : RowsD} {p : Int} {x y : Nat} (hV : Valid d) (h : fitsCE d p x y = 0) : fitsCV d p x y = ((decide ((x : Int) = 0) || decide ((y : Int) = 0)) && (decide (((pc x : Nat) : Int) + (pc y : Nat) ≤ p) && decide (0 < countV (woD d (x, y))))) := by
  rw [fitsCV_ok h]
  unfold isC oneB
  rw [leftB_cnt hV, show decide ((x : Int) = 0) = decide (x = 0) from decide_eq_decide.2 (by omega), show decide ((y : Int) = 0) = decide (y = 0) from decide_eq_decide.2 (by omega)]
theorem askS_bd {d : RowsD} {l r : Int} (hV : Valid d) (h : askS d l r = true) : (0 ≤ l ∧ l ≤ 1023) ∧ 0 ≤ r ∧ r ≤ 1023 := by
  unfold askS at h
  rw [Bool.and_eq_true] at h
  exact ⟨inS_bd h.1 hV.nl, inS_bd h.2 hV.nr⟩
end Go.MatM
namespace Go.MatM
open Go Go.Sy Go.Proofs Go.RowKit
theorem filter_mono {α : Type} {p q : α → Bool} : ∀ {l : List α}, (∀ x ∈ l, p x = true → q x = true) → (l.filter p).Sublist (l.filter q)
  | [], _ => List.Sublist.refl _
  | x :: l, h => by
    have ih := filter_mono (l := l) fun y hy => h y (.tail _ hy)
    rw [List.filter_cons, List.filter_cons]
    cases hp : p x
    · cases hq : q x
      · simpa using ih
      · simpa using ih.cons _
    · rw [h x (.head _) hp]; simpa using ih
theorem joinO_fold (k : Nat) : ∀ (l : List (Nat × Nat)) (j : Jn), ((l.foldl Jn.add j).o.1.testBit k = (j.o.1.testBit k || l.any fun x => x.1.testBit k)) ∧ (l.foldl Jn.add j).o.2.testBit k = (j.o.2.testBit k || l.any fun x => x.2.testBit k)
  | [], j => by simp
  | x :: l, j => by
    have ih := joinO_fold k l (j.add x)
    rw [List.foldl_cons, ih.1, ih.2]
    simp [Jn.add, Nat.testBit_or, Bool.or_assoc]
theorem joinA_fold (k : Nat) : ∀ (l : List (Nat × Nat)) (j : Jn), j.n ≠ 0 → ((l.foldl Jn.add j).a.1.testBit k = (j.a.1.testBit k && l.all fun x => x.1.testBit k)) ∧ (l.foldl Jn.add j).a.2.testBit k = (j.a.2.testBit k && l.all fun x => x.2.testBit k)
  | [], j, _ => by simp
  | x :: l, j, h => by
    have ih := joinA_fold k l (j.add x) (by rw [Jn.add_n]; omega)
    rw [List.foldl_cons, ih.1, ih.2]
    simp [Jn.add, h, Nat.testBit_and, Bool.and_assoc]
theorem joinL_o1 (l : List (Nat × Nat)) (k : Nat) : (joinL l).o.1.testBit k = l.any fun x => x.1.testBit k := by rw [joinL, (joinO_fold k l _).1]; simp [Jn.zero]
theorem joinL_o2 (l : List (Nat × Nat)) (k : Nat) : (joinL l).o.2.testBit k = l.any fun x => x.2.testBit k := by rw [joinL, (joinO_fold k l _).2]; simp [Jn.zero]
theorem joinL_a1 {l : List (Nat × Nat)} (h : l ≠ []) (k : Nat) : (joinL l).a.1.testBit k = l.all fun x => x.1.testBit k := by
  cases l with
  | nil => exact absurd rfl h
  | cons x l => rw [joinL, List.foldl_cons, (joinA_fold k l _ (by rw [Jn.add_n]; omega)).1]; simp [Jn.add, Jn.zero]
theorem joinL_a2 {l : List (Nat × Nat)} (h : l ≠ []) (k : Nat) : (joinL l).a.2.testBit k = l.all fun x => x.2.testBit k := by
  cases l with
  | nil => exact absurd rfl h
  | cons x l => rw [joinL, List.foldl_cons, (joinA_fold k l _ (by rw [Jn.add_n]; omega)).2]; simp [Jn.add, Jn.zero]
/-- A canvas on which more can have been painted. -/
structure MoreC (d : RowsD) (p : Int) (e : RowsD) (q : Int) : Prop where
  ok : okCan e q = true
  l : e.l = d.l
  r : e.r = d.r
  pq : p ≤ q
  is : ∀ x, isC d p x = true → isC e q x = true
section
variable {d e : RowsD} {p q : Int}
theorem MoreC.len (h : MoreC d p e q) (i : Nat) : lenR e i = lenR d i := by unfold lenR; rw [h.l, h.r]
theorem MoreC.rowL (h : MoreC d p e q) (i : Nat) : (rowL d p i (restS (lenR d i) p 1)).Sublist (Go.MatM.rowL e q i (restS (lenR e i) q 1)) := by
  rw [h.len]
  unfold Go.MatM.rowL restS
  have h1 : ((List.range' 1 (2 ^ lenR d i - 1)).filter (fewB p)).Sublist ((List.range' 1 (2 ^ lenR d i - 1)).filter (fewB q)) := filter_mono fun x _ hx => by
    have := h.pq
    simp only [fewB, decide_eq_true_eq] at hx ⊢; omega
  exact ((h1.map _).filter _).trans (filter_mono fun x _ hx => h.is x hx)
theorem MoreC.sub (h : MoreC d p e q) : (casesL d p).Sublist (casesL e q) := by
  show ([(0, 0)].filter (isC d p) ++ (Go.MatM.rowL d p 0 _ ++ Go.MatM.rowL d p 1 _)).Sublist ([(0, 0)].filter (isC e q) ++ (Go.MatM.rowL e q 0 _ ++ Go.MatM.rowL e q 1 _))
  exact (filter_mono fun x _ hx => h.is x hx).append ((h.rowL 0).append (h.rowL 1))
theorem casesE_ok {d : RowsD} {p : Int} (h : okCan d p = true) : casesE d p = 0 := casesE_zero.2 h
theorem casesC_ok {d : RowsD} {p : Int} (h : okCan d p = true) : casesC d p = (casesL d p).length := by unfold casesC; rw [if_pos (casesE_ok h)]
theorem MoreC.cases (h : MoreC d p e q) (hok : okCan d p = true) : casesC d p ≤ casesC e q := by
  rw [casesC_ok hok, casesC_ok h.ok]; exact h.sub.length_le
theorem gat_pos {d : RowsD} {p : Int} (h : okCan d p = true) : gatE d p = 0 ↔ casesL d p ≠ [] := by
  unfold gatE; rw [if_pos (casesE_ok h)]
  constructor
  · intro h1 h2; rw [h2] at h1; simp at h1
  · intro h1; rw [if_neg (by rw [List.length_eq_zero_iff]; exact h1)]
theorem MoreC.gat (h : MoreC d p e q) (hok : okCan d p = true) (hg : gatE d p = 0) : gatE e q = 0 := by
  rw [gat_pos hok] at hg
  rw [gat_pos h.ok]
  intro h2
  have := h.sub
  rw [h2] at this
  exact hg (List.sublist_nil.1 this)
theorem and_of_sub {a b : Nat} (h : ∀ k, a.testBit k = true → b.testBit k = true) : a &&& b = a := by
  apply Nat.eq_of_testBit_eq
  intro k
  rw [Nat.testBit_and]
  cases ha : a.testBit k
  · rfl
  · rw [h k ha]; rfl
theorem MoreC.can (h : MoreC d p e q) (hok : okCan d p = true) (hg : gatE d p = 0) : (joinV d p).o.1 &&& (joinV e q).o.1 = (joinV d p).o.1 ∧ (joinV d p).o.2 &&& (joinV e q).o.2 = (joinV d p).o.2 := by
  unfold joinV
  rw [if_pos hg, if_pos (h.gat hok hg)]
  constructor
  · refine and_of_sub fun k hk => ?_
    rw [joinL_o1, List.any_eq_true] at hk ⊢
    obtain ⟨x, hx, h1⟩ := hk
    exact ⟨x, h.sub.subset hx, h1⟩
  · refine and_of_sub fun k hk => ?_
    rw [joinL_o2, List.any_eq_true] at hk ⊢
    obtain ⟨x, hx, h1⟩ := hk
    exact ⟨x, h.sub.subset hx, h1⟩
theorem MoreC.sure (h : MoreC d p e q) (hok : okCan d p = true) (hg : gatE d p = 0) : (joinV e q).a.1 &&& (joinV d p).a.1 = (joinV e q).a.1 ∧ (joinV e q).a.2 &&& (joinV d p).a.2 = (joinV e q).a.2 := by
  have hn := (gat_pos hok).1 hg
  have hm := (gat_pos h.ok).1 (h.gat hok hg)
  unfold joinV
  rw [if_pos hg, if_pos (h.gat hok hg)]
  constructor
  · refine and_of_sub fun k hk => ?_
    rw [joinL_a1 hm, List.all_eq_true] at hk
    rw [joinL_a1 hn, List.all_eq_true]
    exact fun x hx => hk x (h.sub.subset hx)
  · refine and_of_sub fun k hk => ?_
    rw [joinL_a2 hm, List.all_eq_true] at hk
    rw [joinL_a2 hn, List.all_eq_true]
    exact fun x hx => hk x (h.sub.subset hx)
theorem MoreC.fits (h : MoreC d p e q) {x y : Nat} (hc : fitsCE d p x y = 0) : fitsCE e q x y = 0 ∧ (fitsCV d p x y = true → fitsCV e q x y = true) := by
  have h1 : fitsCE e q x y = 0 := by
    unfold fitsCE at hc ⊢
    rw [openE_zero] at hc ⊢
    refine ⟨h.ok, ?_⟩
    have := hc.2
    unfold askS at this ⊢
    rw [h.l, h.r]; exact this
  refine ⟨h1, ?_⟩
  rw [fitsCV_ok hc, fitsCV_ok h1]
  exact h.is _
end
theorem okCan_mk {d : RowsD} {p : Int} (hV : Valid d) (h0 : 0 ≤ p) (h3 : p ≤ 3) : okCan d p = true := by
  unfold okCan; rw [(okRows_iff d).2 hV, decide_eq_true h0, decide_eq_true h3]; rfl
theorem more_p {d : RowsD} {p : Int} (h : okCan d p = true) : MoreC d p d (min 3 (p + 1)) := by
  obtain ⟨hV, h0, h3⟩ := okCan_valid h
  refine ⟨okCan_mk hV (by omega) (by omega), rfl, rfl, by omega, fun x hx => ?_⟩
  unfold isC at hx ⊢
  simp only [Bool.and_eq_true, decide_eq_true_eq] at hx ⊢
  exact ⟨hx.1, by omega, hx.2.2⟩
theorem left_h {d : RowsD} (hV : Valid d) {x : Nat × Nat} (h : leftB d x = true) : leftB (setH d (min 20 (d.hid + 1))) x = true := by
  have h1 := hV.h1; have h2 := hV.h2
  have hV2 : Valid (setH d (min 20 (d.hid + 1))) := setH_valid hV (by omega) (by omega)
  rw [leftB_isD hV] at h
  rw [leftB_isD hV2]
  have e : woD (setH d (min 20 (d.hid + 1))) x = setH (woD d x) (min 20 (d.hid + 1)) := rfl
  rw [e]
  rw [isD_iff] at h ⊢
  have hW := woD_valid hV x
  rw [need_iff hW] at h
  rw [need_iff (setH_valid hW (by omega) (by omega))]
  show (((woD d x).l.length + (woD d x).r.length : Nat) : Int) - 2 * (mosD (woD d x) : Nat) ≤ min 20 (d.hid + 1)
  have : (woD d x).hid = d.hid := rfl
  omega
theorem more_h {d : RowsD} {p : Int} (h : okCan d p = true) : MoreC d p (setH d (min 20 (d.hid + 1))) p := by
  obtain ⟨hV, h0, h3⟩ := okCan_valid h
  have h1 := hV.h1; have h2 := hV.h2
  refine ⟨okCan_mk (setH_valid hV (by omega) (by omega)) h0 h3, rfl, rfl, Int.le_refl _, fun x hx => ?_⟩
  unfold isC at hx ⊢
  simp only [Bool.and_eq_true, decide_eq_true_eq] at hx ⊢
  exact ⟨hx.1, hx.2.1, left_h hV hx.2.2⟩
theorem pc_pos : ∀ (s : Nat), 0 < s → s < 2 ^ 64 → 0 < pc s := by
  intro s
  induction s using Nat.strongRecOn with
  | _ s ih =>
    intro h1 h2
    rw [pc_step h2]
    by_cases h : s % 2 = 0
    · have := ih (s / 2) (by omega) (by omega) (by omega)
      omega
    · omega
theorem keepF_none : ∀ (l : List Mk) (i : Nat), keepF 0 i l = l
  | [], _ => rfl
  | m :: l, i => by rw [keepF, Nat.zero_testBit, if_neg (by decide), keepF_none]
theorem woD_none (d : RowsD) : woD d (0, 0) = d := by unfold woD keepL; rw [keepF_none, keepF_none]
theorem restS_none {n : Nat} (hn : n ≤ 10) : restS n 0 1 = [] := by
  have := pow_le_10 hn
  unfold restS
  rw [List.filter_eq_nil_iff]
  intro s hs
  rw [List.mem_range'_1] at hs
  have := pc_pos s (by omega) (by omega)
  simp only [fewB, decide_eq_true_eq]; omega
theorem cases_none {d : RowsD} (hV : Valid d) : casesL d 0 = if 0 < countV d then [(0, 0)] else [] := by
  have h1 : rowL d 0 0 (restS (lenR d 0) 0 1) = [] := by rw [restS_none (show lenR d 0 ≤ 10 from hV.nl)]; rfl
  have h2 : rowL d 0 1 (restS (lenR d 1) 0 1) = [] := by rw [restS_none (show lenR d 1 ≤ 10 from hV.nr)]; rfl
  rw [casesL, show restI d 0 0 = rowL d 0 0 (restS (lenR d 0) 0 1) ++ rowL d 0 1 (restS (lenR d 1) 0 1) from rfl, h1, h2, List.append_nil, List.append_nil, List.filter_cons]
  have h3 : isC d 0 (0, 0) = decide (0 < countV d) := by
    unfold isC
    rw [leftB_cnt hV, woD_none]
    simp [oneB, pc_zero]
  rw [h3]
  by_cases h : 0 < countV d <;> simp [h]
theorem joinV_lt {d : RowsD} {p : Int} (hV : Valid d) : (joinV d p).Ok := by
  unfold joinV
  split
  · exact joinL_ok fun x hx => casesL_lt hV hx
  · exact ⟨by decide, by decide, by decide, by decide⟩
theorem andn_none {a b : Nat} (h : a &&& b = a) : andn a b = 0 := by unfold andn; rw [h, Nat.xor_self]
abbrev canL6 (d : RowsD) (p : Int) (sa sb : Option Addr) (ca cb : Nat) : List Value := [.slice sa d.l.length ca, .slice sb d.r.length cb, .int .i64 d.lo, .int .i64 d.hi, .int .i64 d.hid, .int .i64 p]
theorem pickC2 {d e1 e2 : RowsD} {p q1 q2 : Int} {sa sb : Option Addr} {ca cb : Nat} (h1 : MoreC d p e1 q1) (h2 : MoreC d p e2 q2) (j : Nat) (hj : j < 2) :
    ∃ e q, cellsAt #[.slice sa e1.l.length ca, .slice sb e1.r.length cb, .int .i64 e1.lo, .int .i64 e1.hi, .int .i64 e1.hid, .int .i64 q1, .slice sa e2.l.length ca, .slice sb e2.r.length cb, .int .i64 e2.lo, .int .i64 e2.hi, .int .i64 e2.hid, .int .i64 q2] (0 + ((j : Nat) : Int).toNat * 6) 6 = some (canL6 e q sa sb ca cb) ∧ MoreC d p e q := by
  rcases (show j = 0 ∨ j = 1 by omega) with rfl | rfl
  · exact ⟨e1, q1, rfl, h1⟩
  · exact ⟨e2, q2, rfl, h2⟩
end Go.MatM
namespace Go.MatM
open Go Go.Sy Go.Proofs Go.RowKit
def sw2 (x : Nat × Nat) : Nat × Nat := (x.2, x.1)
section
variable {d : RowsD} {p : Int}
theorem left_tX (hV : Valid d) (x : Nat × Nat) : leftB (tX d) (sw2 x) = leftB d x := by
  have hV2 : Valid (tX d) := tX_valid hV
  rw [leftB_isD hV, leftB_isD hV2]
  have e : woD (tX d) (sw2 x) = tX (woD d x) := rfl
  rw [e, Bool.eq_iff_iff, isD_iff, isD_iff, need_tX, mos_tX]
theorem is_tX (hV : Valid d) (x : Nat × Nat) : isC (tX d) p (sw2 x) = isC d p x := by
  unfold isC
  rw [left_tX hV]
  have e1 : oneB (sw2 x) = oneB x := by unfold oneB sw2; rw [Bool.or_comm]
  have e2 : decide (((pc (sw2 x).1 : Nat) : Int) + (pc (sw2 x).2 : Nat) ≤ p) = decide (((pc x.1 : Nat) : Int) + (pc x.2 : Nat) ≤ p) := by
    rw [decide_eq_decide]; show ((pc x.2 : Nat) : Int) + (pc x.1 : Nat) ≤ p ↔ _; omega
  rw [e1, e2]
theorem row_tX (hV : Valid d) {i j : Nat} (hij : ∀ s, setX i s = sw2 (setX j s)) (l : List Nat) : rowL (tX d) p i l = (rowL d p j l).map sw2 := by
  unfold rowL
  have e1 : l.map (setX i) = (l.map (setX j)).map sw2 := by rw [List.map_map]; exact List.map_congr_left fun s _ => hij s
  have e2 : (isC (tX d) p ∘ sw2) = isC d p := funext fun x => is_tX hV x
  rw [e1, List.filter_map, e2]
theorem cases_tX (hV : Valid d) : (casesL (tX d) p).Perm ((casesL d p).map sw2) := by
  have h0 : [((0 : Nat), (0 : Nat))].filter (isC (tX d) p) = ([((0 : Nat), (0 : Nat))].filter (isC d p)).map sw2 := by
    have := is_tX (p := p) hV (0, 0)
    rw [List.filter_cons, List.filter_cons, show isC (tX d) p (0, 0) = isC d p (0, 0) from this]
    split <;> rfl
  have e1 : rowL (tX d) p 0 (restS (lenR (tX d) 0) p 1) = (rowL d p 1 (restS (lenR d 1) p 1)).map sw2 := row_tX hV (fun _ => rfl) _
  have e2 : rowL (tX d) p 1 (restS (lenR (tX d) 1) p 1) = (rowL d p 0 (restS (lenR d 0) p 1)).map sw2 := row_tX hV (fun _ => rfl) _
  show ([(0, 0)].filter (isC (tX d) p) ++ (rowL (tX d) p 0 _ ++ rowL (tX d) p 1 _)).Perm (([(0, 0)].filter (isC d p) ++ (rowL d p 0 _ ++ rowL d p 1 _)).map sw2)
  rw [h0, e1, e2, List.map_append, List.map_append]
  exact List.Perm.append_left _ List.perm_append_comm
theorem okCan_tX (h : okCan d p = true) : okCan (tX d) p = true := by
  obtain ⟨hV, h0, h3⟩ := okCan_valid h
  exact okCan_mk (tX_valid hV) h0 h3
theorem turnC_cases (h : okCan d p = true) : casesC (tX d) p = casesC d p := by
  rw [casesC_ok h, casesC_ok (okCan_tX h), (cases_tX (okCan_valid h).1).length_eq, List.length_map]
theorem turnC_gat (h : okCan d p = true) : gatE (tX d) p = gatE d p := by
  unfold gatE
  rw [casesE_ok h, casesE_ok (okCan_tX h), (cases_tX (okCan_valid h).1).length_eq, List.length_map]
theorem any_perm {α : Type} {l m : List α} (h : l.Perm m) (f : α → Bool) : l.any f = m.any f := by
  rw [Bool.eq_iff_iff, List.any_eq_true, List.any_eq_true]
  exact ⟨fun ⟨x, h1, h2⟩ => ⟨x, h.mem_iff.1 h1, h2⟩, fun ⟨x, h1, h2⟩ => ⟨x, h.mem_iff.2 h1, h2⟩⟩
theorem all_perm {α : Type} {l m : List α} (h : l.Perm m) (f : α → Bool) : l.all f = m.all f := by
  rw [Bool.eq_iff_iff, List.all_eq_true, List.all_eq_true]
  exact ⟨fun h1 x hx => h1 x (h.mem_iff.2 hx), fun h1 x hx => h1 x (h.mem_iff.1 hx)⟩
theorem turnC_can (h : okCan d p = true) : (joinV (tX d) p).o = sw2 (joinV d p).o := by
  have hp := cases_tX (p := p) (okCan_valid h).1
  unfold joinV
  rw [turnC_gat h]
  split
  · refine Prod.ext ?_ ?_
    · refine Nat.eq_of_testBit_eq fun k => ?_
      show (joinL (casesL (tX d) p)).o.1.testBit k = (joinL (casesL d p)).o.2.testBit k
      rw [joinL_o1, joinL_o2, any_perm hp, List.any_map]; rfl
    · refine Nat.eq_of_testBit_eq fun k => ?_
      show (joinL (casesL (tX d) p)).o.2.testBit k = (joinL (casesL d p)).o.1.testBit k
      rw [joinL_o1, joinL_o2, any_perm hp, List.any_map]; rfl
  · rfl
theorem turnC_sure (h : okCan d p = true) : (joinV (tX d) p).a = sw2 (joinV d p).a := by
  have hp := cases_tX (p := p) (okCan_valid h).1
  unfold joinV
  rw [turnC_gat h]
  split
  · rename_i hg
    have hn := (gat_pos h).1 hg
    have hm := (gat_pos (okCan_tX h)).1 (by rw [turnC_gat h]; exact hg)
    refine Prod.ext ?_ ?_
    · refine Nat.eq_of_testBit_eq fun k => ?_
      show (joinL (casesL (tX d) p)).a.1.testBit k = (joinL (casesL d p)).a.2.testBit k
      rw [joinL_a1 hm, joinL_a2 hn, all_perm hp, List.all_map]; rfl
    · refine Nat.eq_of_testBit_eq fun k => ?_
      show (joinL (casesL (tX d) p)).a.2.testBit k = (joinL (casesL d p)).a.1.testBit k
      rw [joinL_a1 hn, joinL_a2 hm, all_perm hp, List.all_map]; rfl
  · rfl
/-- Sides that have changed places. -/
def turnS (s : Nat) : Nat := (s &&& 1) ||| 2 * (s &&& 2) ||| (s &&& 4) >>> 1
theorem turnS_or {a b : Nat} (ha : a ≤ 7) (hb : b ≤ 7) : turnS (a ||| b) = turnS a ||| turnS b := by
  have h : ∀ a b : Fin 8, turnS (a.1 ||| b.1) = turnS a.1 ||| turnS b.1 := by decide
  exact h ⟨a, by omega⟩ ⟨b, by omega⟩
theorem sideB_turn {x : Nat × Nat} (h : oneB x = true) : sideB (sw2 x) = turnS (sideB x) := by
  unfold oneB at h
  rw [Bool.or_eq_true, decide_eq_true_eq, decide_eq_true_eq] at h
  unfold sideB sw2
  by_cases h1 : x.1 = 0 <;> by_cases h2 : x.2 = 0
  · simp only [h1, h2, if_true]; decide
  · simp only [h1, h2, if_true, if_false]; decide
  · simp only [h1, h2, if_true, if_false]; decide
  · omega
theorem sideF_turn : ∀ (l : List (Nat × Nat)) (s : Nat), s ≤ 7 → (∀ x ∈ l, oneB x = true) → (l.map sw2).foldl (fun s x => s ||| sideB x) (turnS s) = turnS (l.foldl (fun s x => s ||| sideB x) s)
  | [], _, _, _ => rfl
  | x :: l, s, hs, h => by
    rw [List.map_cons, List.foldl_cons, List.foldl_cons, sideB_turn (h x (.head _)), ← turnS_or hs (sideB_le x)]
    exact sideF_turn l _ (or_le7 hs (sideB_le x)) fun y hy => h y (.tail _ hy)
theorem sideF_bit (k : Nat) : ∀ (l : List (Nat × Nat)) (s : Nat), (l.foldl (fun s x => s ||| sideB x) s).testBit k = (s.testBit k || l.any fun x => (sideB x).testBit k)
  | [], s => by simp
  | x :: l, s => by rw [List.foldl_cons, sideF_bit k l]; simp [Nat.testBit_or, Bool.or_assoc]
theorem sideS_bit (l : List (Nat × Nat)) (k : Nat) : (sideS l).testBit k = l.any fun x => (sideB x).testBit k := by rw [sideS, sideF_bit]; simp
theorem sideS_perm {l m : List (Nat × Nat)} (h : l.Perm m) : sideS l = sideS m := Nat.eq_of_testBit_eq fun k => by rw [sideS_bit, sideS_bit, any_perm h]
theorem cases_is {x : Nat × Nat} (h : x ∈ casesL d p) : isC d p x = true := by
  have e : casesL d p = [(0, 0)].filter (isC d p) ++ (rowL d p 0 (restS (lenR d 0) p 1) ++ rowL d p 1 (restS (lenR d 1) p 1)) := rfl
  rw [e, List.mem_append, List.mem_append] at h
  unfold rowL at h
  rcases h with h | h | h <;> exact (List.mem_filter.1 h).2
theorem turnC_sides (h : okCan d p = true) : sidesV (tX d) p = turnS (sidesV d p) := by
  unfold sidesV
  rw [turnC_gat h]
  split
  · rw [sideS_perm (cases_tX (okCan_valid h).1)]
    exact sideF_turn _ 0 (by omega) fun x hx => by
      have := cases_is hx
      unfold isC at this
      rw [Bool.and_eq_true] at this
      exact this.1
  · rfl
theorem sidesV_le : sidesV d p ≤ 7 := by
  unfold sidesV
  split
  · exact sideS_le _
  · omega
end
end Go.MatM
