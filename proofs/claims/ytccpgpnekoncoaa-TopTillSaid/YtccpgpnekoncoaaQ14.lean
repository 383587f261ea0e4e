/- Lemmas, in order: What the search for the least reads; its states as keys. The least, if some cards have been sold.. -/
import Derived.Test.YtccpgpnekoncoaaQ13
namespace Go.RoyM
open Go Go.Sy
abbrev intsS (s : Nat × Cts) : List Int := ((s.1 : Nat) : Int) :: intsC s.2
theorem intsS_inj (p q : Nat × Cts) (h : intsS p = intsS q) : p = q := by
  obtain ⟨a, b⟩ := p
  obtain ⟨a', b'⟩ := q
  simp only [intsS, List.cons.injEq, Int.natCast_inj] at h
  obtain ⟨rfl, h⟩ := h
  rw [intsC_inj b b' (by simp only [intsC, List.cons.injEq, Int.natCast_inj]; exact h)]
abbrev stC (i : Nat) (n : Cts) : Array Value := #[.int .i64 (i : Nat), .int .i64 (n.1 : Nat), .int .i64 (n.2.1 : Nat), .int .i64 (n.2.2.1 : Nat), .int .i64 (n.2.2.2 : Nat)]
abbrev encS (s : Nat × Cts) : Value := .agg (stC s.1 s.2)
def lesK (d : RoyD) (x : Int) (ws : List Nat) (s : Nat × Cts) : Int := leastV d x (ws.drop s.1) s.2
/-- Numbers without a sign lie in memory. -/
def UAt (w : World) (sa : Option Addr) (l : List Nat) : Prop :=
  ∀ i x, l[i]? = some x → ∃ blk off c T fr, sa = some ⟨blk, off, none⟩ ∧ w.heap[blk]? = some (.cells c T fr) ∧ c[off + ((i : Nat) : Int).toNat * 1]? = some (.int .u64 ((x : Nat) : Int))
theorem UAt.ext {w w' : World} {sa : Option Addr} {l : List Nat} (h : UAt w sa l) (e : Ext [] w w') : UAt w' sa l := fun i s hi =>
  let ⟨blk, off, c, T, fr, h1, h2, h3⟩ := h i s hi
  ⟨blk, off, c, T, fr, h1, e.get h2, h3⟩
/-- Blocks that may change are maps. -/
def MapsOnly (M : List Nat) (w : World) : Prop := ∀ b ∈ M, ∃ es c, w.heap[b]? = some (.map es c)
theorem MapsOnly.get {M : List Nat} {w w' : World} {b : Nat} {c : Array Value} {T : TypeId} {fr : Nat × Nat} (h : MapsOnly M w) (e : Ext M w w') (hb : w.heap[b]? = some (.cells c T fr)) : w'.heap[b]? = some (.cells c T fr) :=
  e.getM hb fun hm => by obtain ⟨es, n, h2⟩ := h b hm; rw [hb] at h2; cases h2
section
variable {M : List Nat} {w w' : World}
theorem TAt.extM {α : Type} {n : Nat} {enc : α → List Value} {sa : Option Addr} {l : List α} (h : TAt n enc w sa l) (hm : MapsOnly M w) (e : Ext M w w') : TAt n enc w' sa l := fun i s hi =>
  let ⟨blk, off, c, T, fr, h1, h2, h3⟩ := h i s hi
  ⟨blk, off, c, T, fr, h1, hm.get e h2, h3⟩
theorem IAt.extM {sa : Option Addr} {l : List Int} (h : IAt w sa l) (hm : MapsOnly M w) (e : Ext M w w') : IAt w' sa l := fun i s hi =>
  let ⟨blk, off, c, T, fr, h1, h2, h3⟩ := h i s hi
  ⟨blk, off, c, T, fr, h1, hm.get e h2, h3⟩
theorem UAt.extM {sa : Option Addr} {l : List Nat} (h : UAt w sa l) (hm : MapsOnly M w) (e : Ext M w w') : UAt w' sa l := fun i s hi =>
  let ⟨blk, off, c, T, fr, h1, h2, h3⟩ := h i s hi
  ⟨blk, off, c, T, fr, h1, hm.get e h2, h3⟩
theorem LAt.extM {sa : Option Addr} {l : List (List Int)} (h : LAt w sa l) (hm : MapsOnly M w) (e : Ext M w w') : LAt w' sa l := fun i s hi =>
  let ⟨blk, off, c, T, fr, sb, cb, h1, h2, h3, h4⟩ := h i s hi
  ⟨blk, off, c, T, fr, sb, cb, h1, hm.get e h2, h3, h4.extM hm e⟩
theorem RoyAt.extM {d : RoyD} {p : Pl} (h : RoyAt w d p) (hm : MapsOnly M w) (e : Ext M w w') : RoyAt w' d p :=
  ⟨h.tm.extM hm e, h.pr.extM hm e, h.sh.extM hm e, h.rp.extM hm e, h.pd.extM hm e, h.n1, h.n2, h.n3, h.n4, h.n5, h.n6, h.cap⟩
end
/-- What the search for the least reads. -/
structure LeC (u : World) (d : RoyD) (p : Pl) (kd : Nat) (ws : List Nat) (sa : Option Addr) (cap Bc Bw Br Bk Bm Bf bm nf : Nat) : Prop where
  c : u.heap[Bc]? = some (.cells (royC d p) 123 (0, 0))
  w : u.heap[Bw]? = some (.cells #[.slice sa ws.length cap] 106 (0, 0))
  r : u.heap[Br]? = some (.cells #[ptr Bc 0] 102 (0, 0))
  k : u.heap[Bk]? = some (.cells #[.int .i64 (kd : Nat)] 3 (0, 0))
  m : u.heap[Bm]? = some (.cells #[.map (some bm)] 112 (0, 0))
  f : u.heap[Bf]? = some (.cells #[.func (.func nf) #[] #[ptr Bw 0, ptr Br 0, ptr Bk 0, ptr Bm 0, ptr Bf 0]] 113 (0, 0))
  wa : UAt u sa ws
  ra : RoyAt u d p
theorem LeC.extM {u w : World} {d : RoyD} {p : Pl} {kd : Nat} {ws : List Nat} {sa : Option Addr} {cap Bc Bw Br Bk Bm Bf bm nf : Nat} {M : List Nat} (h : LeC u d p kd ws sa cap Bc Bw Br Bk Bm Bf bm nf) (hm : MapsOnly M u) (e : Ext M u w) : LeC w d p kd ws sa cap Bc Bw Br Bk Bm Bf bm nf :=
  ⟨hm.get e h.c, hm.get e h.w, hm.get e h.r, hm.get e h.k, hm.get e h.m, hm.get e h.f, h.wa.extM hm e, h.ra.extM hm e⟩
/-- What is found with the first agents. -/
def lesL (d : RoyD) (x : Int) (w : Nat) (ws : List Nat) (n : Cts) (g : Nat) : List Int := ((List.range g).filter fun g => w.testBit g).map fun g => leastV d x ws (cinc n g)
theorem lesL_put {d : RoyD} {x : Int} {w : Nat} {ws : List Nat} {n : Cts} {g : Nat} (h : w.testBit g = true) : lesL d x w ws n (g + 1) = lesL d x w ws n g ++ [leastV d x ws (cinc n g)] := by
  unfold lesL
  rw [List.range_succ, List.filter_append, List.map_append]
  simp [h]
theorem lesL_no {d : RoyD} {x : Int} {w : Nat} {ws : List Nat} {n : Cts} {g : Nat} (h : w.testBit g = false) : lesL d x w ws n (g + 1) = lesL d x w ws n g := by
  unfold lesL
  rw [List.range_succ, List.filter_append, List.map_append]
  simp [h]
theorem lesL_all {d : RoyD} {x : Int} {ws : List Nat} {i w : Nat} (h : ws[i]? = some w) (n : Cts) : loL (lesL d x w (ws.drop (i + 1)) n d.terms.length) = lesK d x ws (i, n) := by
  have hi := len_of h
  unfold lesK
  rw [List.drop_eq_getElem_cons hi, (List.getElem?_eq_some_iff.1 h).2]
  rfl
theorem lesK_end {d : RoyD} {x : Int} {ws : List Nat} {i : Nat} (h : i = ws.length) (n : Cts) : totV d x n = lesK d x ws (i, n) := by
  unfold lesK
  rw [h, List.drop_length]; rfl
end Go.RoyM
namespace Go.Proofs.Ytccpgpnekoncoaa
set_option maxRecDepth 100000
open Go Go.Sy Go.RoyM
theorem k108 : KeyOk Try.prog 117 encS := keyFlat intsS intsS_inj (fun _ => rfl) (show flatB Try.prog 117 = some 5 by kernel_rfl) (show Try.prog.underlying 117 = some (.struct (Try.prog.fieldsOf 117)) by kernel_rfl) (fun _ _ => rfl)
theorem mke105 : mapKE Try.prog 112 = some (117, 3) := by kernel_rfl
set_option maxRecDepth 100000 in
theorem p83 (d : RoyD) (p : Pl) (kd : Nat) (ws : List Nat) (sa : Option Addr) (cap Bc Bw Br Bk Bm Bf bm : Nat) (x : Int) (hO : RoyOk d) (hx : d.prices[kd]? = some x) (hl : ws.length ≤ 12) (hw16 : ∀ w ∈ ws, w < 16) : ∀ (r i : Nat) (n : Cts) (cm : Nat) (es : Array MapEntry) (u : World) (hm : u.heap[bm]? = some (.map es cm)) (hM : MemoK encS .i64 (lesK d x ws) es) (hC : LeC u d p kd ws sa cap Bc Bw Br Bk Bm Bf bm 43) (hfu : i + r = ws.length) (hn : cardsN n ≤ i),
    Calls Try.prog 43 #[encS (i, n), ptr Bw 0, ptr Br 0, ptr Bk 0, ptr Bm 0, ptr Bf 0] u (Ret fun v w' => v = .int .i64 (lesK d x ws (i, n)) ∧ ∃ es' c', MemoK encS .i64 (lesK d x ws) es' ∧ Hp u [bm] [(bm, .map es' c')] w') := by
  intro r
  induction r with
  | zero =>
    intro i n cm es u hm hM hC hfu hn
    have hmo : MapsOnly [bm] u := by intro b hb; rw [List.mem_singleton.1 hb]; exact ⟨es, cm, hm⟩
    have c2 := hC.w; have c3 := hC.r; have c4 := hC.k
    have n2 : Bw ∉ [bm] := fun h => by rw [List.mem_singleton.1 h, hm] at c2; cases c2
    have n3 : Br ∉ [bm] := fun h => by rw [List.mem_singleton.1 h, hm] at c3; cases c3
    have n4 : Bk ∉ [bm] := fun h => by rw [List.mem_singleton.1 h, hm] at c4; cases c4
    refine calls_of Try.func43 rfl rfl (fun a hf => ?_)
    have hh := Hp.init1 hm
    refine sy_sq ?_
    refine o_box hf hh ?_; clear hf hh a; intro B6 a w hf hh
    refine o_v hf hh (yv_assign rfl) ?_; clear hf a; intro a hf
    refine o_end ?_
    refine sy_seq ?_
    refine sy_sq ?_
    refine o_v hf hh (yv_fieldAddr Try.fo_117_0 rfl) ?_; clear hf a; intro a hf
    refine o_v hf hh (y_ld Try.sc_3 rfl) ?_; clear hf a; intro a hf
    refine o_v hf hh (y_ld Try.sc_106 rfl) ?_; clear hf a; intro a hf
    refine o_v hf hh (yv_len Try.se_106 rfl) ?_; clear hf a; intro a hf
    refine o_v hf hh (yv_bin rfl rfl rfl) ?_; clear hf a; intro a hf
    refine o_end ?_
    refine c_t hf ?_
    refine sy_sq ?_
    refine o_v hf hh (y_ld Try.sc_102 rfl) ?_; clear hf a; intro a hf
    refine o_v hf hh (y_ld Try.sc_3 rfl) ?_; clear hf a; intro a hf
    refine o_v hf hh (yv_fieldAddr Try.fo_117_1 rfl) ?_; clear hf a; intro a hf
    refine o_v hf hh (y_lds Try.ag_115 rfl) ?_; clear hf a; intro a hf
    refine o_call hf Try.en_44 rfl rfl rfl (p78 d p Bc _ (hmo.get hh.ext hC.c) (hC.ra.extM hmo hh.ext) hO kd x hx n (ctOk_of (by omega))) ?_; clear hf a; intro v a w hR hf
    obtain ⟨rfl, hx⟩ := hR; replace hh := hh.more hx; clear hx
    refine o_v hf hh (yv_assign rfl) ?_; clear hf a; intro a hf
    refine o_end ?_
    refine sy_ret ?_
    refine then_r ?_
    refine ret_r hf rfl rfl ?_
    exact ⟨intv (lesK_end (by omega) n), es, cm, hM, hh.less (.cons _ (.refl _))⟩
  | succ r ih =>
    intro i n cm es u hm hM hC hfu hn
    have hmo : MapsOnly [bm] u := by intro b hb; rw [List.mem_singleton.1 hb]; exact ⟨es, cm, hm⟩
    have c1 := hC.c; have c2 := hC.w; have c3 := hC.r; have c4 := hC.k; have c5 := hC.m; have c6 := hC.f
    have nn : ∀ {B : Nat} {c : Array Value} {T : TypeId} {fr : Nat × Nat}, u.heap[B]? = some (.cells c T fr) → B ∉ [bm] := fun {B c T fr} h h2 => by rw [List.mem_singleton.1 h2, hm] at h; cases h
    have n1 := nn c1; have n2 := nn c2; have n3 := nn c3; have n4 := nn c4; have n5 := nn c5; have n6 := nn c6
    have hnt := hO.nt
    obtain ⟨wn, hwn⟩ := ex_of (l := ws) (i := i) (by omega)
    have hw := hw16 wn (List.mem_of_getElem? hwn)
    obtain ⟨blk, off, cc, T, fr, e, hb, hc⟩ := hC.wa i wn hwn; subst e
    have nb := nn hb
    have hcy := cget_le n
    obtain ⟨st, sp, ss, sr, sd, ct, cp, cs, cr, cd⟩ := p
    refine calls_of Try.func43 rfl rfl (fun a hf => ?_)
    have hh := Hp.init1 hm
    refine sy_sq ?_
    refine o_box hf hh ?_; clear hf hh a; intro B6 a w hf hh
    refine o_v hf hh (yv_assign rfl) ?_; clear hf a; intro a hf
    refine o_end ?_
    refine sy_seq ?_
    refine sy_sq ?_
    refine o_v hf hh (yv_fieldAddr Try.fo_117_0 rfl) ?_; clear hf a; intro a hf
    refine o_v hf hh (y_ld Try.sc_3 rfl) ?_; clear hf a; intro a hf
    refine o_v hf hh (y_ld Try.sc_106 rfl) ?_; clear hf a; intro a hf
    refine o_v hf hh (yv_len Try.se_106 rfl) ?_; clear hf a; intro a hf
    refine o_v hf hh (yv_bin rfl rfl rfl) ?_; clear hf a; intro a hf
    refine o_end ?_
    refine c_f hf ?_
    refine sy_skip ?_
    refine then_n ?_
    refine sy_seq ?_
    refine sy_sq ?_
    refine o_v hf hh (y_ld Try.sc_112 rfl) ?_; clear hf a; intro a hf
    refine o_v hf hh (y_lds Try.ag_117 rfl) ?_; clear hf a; intro a hf
    refine ops_lookupK (i := 1) (p := (i, n)) (z := 0) hf hh k108 mke105 (show _ = some (Value.int .i64 0) by kernel_rfl) rfl rfl rfl hM (.inl rfl) rfl fun b a hf => ?_
    refine o_v hf hh (yv_move rfl) ?_; clear hf a; intro a hf
    refine o_v hf hh (yv_extract rfl rfl) ?_; clear hf a; intro a hf
    refine o_v hf hh (yv_extract rfl rfl) ?_; clear hf a; intro a hf
    refine o_v hf hh (yv_assign rfl) ?_; clear hf a; intro a hf
    refine o_v hf hh (yv_assign rfl) ?_; clear hf a; intro a hf
    refine o_end ?_
    refine sy_sq ?_
    refine o_v hf hh (yv_move rfl) ?_; clear hf a; intro a hf
    refine o_end ?_
    refine sy_cond hf rfl (fun hg5 => ?_) (fun hg5 => ?_)
    ·have hG5 := hg5; try simp only [gS] at hG5
     refine sy_sq ?_
     refine o_v hf hh (yv_move rfl) ?_; clear hf a; intro a hf
     refine o_v hf hh (yv_assign rfl) ?_; clear hf a; intro a hf
     refine o_end ?_
     refine sy_ret ?_
     refine then_r ?_
     refine ret_r hf rfl rfl ?_
     exact ⟨intv (if_pos (by assumption)), es, cm, hM, hh.less (.cons _ (.refl _))⟩
    ·have hG5 := hg5; try simp only [gS] at hG5
     refine sy_skip ?_
     refine then_n ?_
     refine sy_sq ?_
     refine o_alloc hf hh Try.ze_121 ?_; clear hf hh a; intro B10 a w hf hh
     refine o_end ?_
     refine sy_seq ?_
     refine sy_sq ?_
     refine o_v hf hh (y_ld Try.sc_102 rfl) ?_; clear hf a; intro a hf
     refine o_v hf hh (yv_nilCheck rfl) ?_; clear hf a; intro a hf
     refine o_v hf hh (yv_fieldAddr Try.fo_123_0 rfl) ?_; clear hf a; intro a hf
     refine o_v hf hh (yv_fieldAddr Try.fo_52_0 rfl) ?_; clear hf a; intro a hf
     refine o_v hf hh (y_ld Try.sc_46 rfl) ?_; clear hf a; intro a hf
     refine o_v hf hh (yv_len Try.se_46 rfl) ?_; clear hf a; intro a hf
     refine o_v hf hh (yv_move rfl) ?_; clear hf a; intro a hf
     refine o_end ?_
     refine sy_block ?_
     refine sy_loopH (σ := Nat × Array MapEntry × Nat) [11, 36, 37, 38, 39, 40, 41, 42, 43, 44, 45, 46, 47, 48, 49, 50, 51, 52, 53, 54, 55, 56, 57] (fun s => [(36, .int .i64 (s.1 : Nat))]) (fun s => fun w' => s.1 ≤ d.terms.length ∧ MemoK encS .i64 (lesK d x ws) s.2.1 ∧ Hp u [bm] [(B10, .cells (endC (lesL d x wn (ws.drop (i + 1)) n s.1)) 121), (bm, .map s.2.1 s.2.2), (B6, .cells (stC i n) 117)] w') (fun s => d.terms.length - s.1) ((0, es, cm)) hf ?_ ?_ ?_
     · repeat' (first | exact True.intro | refine And.intro rfl ?_)
     · exact ⟨Nat.zero_le _, hM, hh.pick [0, 2, 1]⟩
     ·rintro s a w ⟨hg, hM2, hh⟩ hf
      obtain ⟨g, es2, cm2⟩ := s; simp only at hg hM2 hh hf ⊢
      refine sy_sq ?_
      refine o_v hf hh (yv_bin rfl rfl rfl) ?_; clear hf a; intro a hf
      refine o_end ?_
      refine sy_seq ?_
      refine sy_cond hf rfl (fun hg7 => ?_) (fun hg7 => ?_)
      ·have hG7 := hg7; try simp only [gS] at hG7
       refine sy_skip ?_
       refine then_n ?_
       refine sy_seq ?_
       refine sy_block ?_
       refine sy_sq ?_
       refine o_v hf hh (yv_move rfl) ?_; clear hf a; intro a hf
       refine o_v hf hh (yv_assign rfl) ?_; clear hf a; intro a hf
       refine o_end ?_
       refine sy_sq ?_
       refine o_v hf hh (y_ld Try.sc_106 rfl) ?_; clear hf a; intro a hf
       refine o_v hf hh (yv_fieldAddr Try.fo_117_0 rfl) ?_; clear hf a; intro a hf
       refine o_v hf hh (y_ld Try.sc_3 rfl) ?_; clear hf a; intro a hf
       refine o_v hf hh (y_ix Try.se_106 rfl rfl) ?_; clear hf a; intro a hf
       refine o_v hf hh (y_ld Try.sc_111 rfl) ?_; clear hf a; intro a hf
       refine o_v hf hh (yv_move rfl) ?_; clear hf a; intro a hf
       refine o_call hf Try.en_45 rfl rfl rfl (p84 wn g (by omega) (by omega) _) ?_; clear hf a; intro v a w hR hf
       obtain ⟨rfl, hx⟩ := hR; replace hh := hh.more hx; clear hx
       refine o_end ?_
       refine sy_cond hf rfl (fun hg9 => ?_) (fun hg9 => ?_)
       ·have hG9 := hg9; try simp only [gS] at hG9
        refine sy_tree1 (.q 0 0 (.p 1 (.q 0 2 (.p 3 (.p 4 (.q 0 5 (.p 6 (.e1 7 (.p 8 (.e1 9 (.e1 10 (.fin)))))))))))) [9, 10] Try.follows (by kernel_rfl) hh (fun w hh => ?_)
        refine mc_q rfl rfl hh hf (y_ld Try.sc_113 rfl) (.inl rfl) rfl rfl ?_; clear hf a; intro a hf
        refine mc_p rfl   hf (yv_fieldAddr Try.fo_117_0 rfl) (.inl rfl) rfl rfl ?_; clear hf a; intro a hf
        refine mc_q rfl rfl hh hf (y_ld Try.sc_3 rfl) (.inl rfl) rfl rfl ?_; clear hf a; intro a hf
        refine mc_p rfl   hf (yv_cast (yv_add rfl rfl (by omega) (by omega)) (intv (b := ((i + 1 : Nat) : Int)) (by omega))) (.inl rfl) rfl rfl ?_; clear hf a; intro a hf
        refine mc_p rfl   hf (yv_fieldAddr Try.fo_117_1 rfl) (.inl rfl) rfl rfl ?_; clear hf a; intro a hf
        refine mc_q rfl rfl hh hf (y_lds Try.ag_115 rfl) (.inl rfl) rfl rfl ?_; clear hf a; intro a hf
        refine mc_p rfl   hf (yv_move rfl) (.inl rfl) rfl rfl ?_; clear hf a; intro a hf
        refine mc_e rfl fun Q1 => ?_
        refine o_call hf Try.en_47 rfl rfl rfl (p85 n g (by omega) (by have := hcy g; omega) _) ?_; clear hf a; intro v a w hR hf
        obtain ⟨rfl, hx⟩ := hR; replace hh := hh.more hx; clear hx
        refine ops_end ?_
        refine then_n ⟨⟨fun _ _ => hh, trivial⟩, ?_⟩
        refine mc_p rfl   hf (yv_cast (yv_buildS Try.bs_117 rfl rfl) (show _ = encS (i + 1, cinc n g) from rfl)) (.inl rfl) rfl rfl ?_; clear hf a; intro a hf
        refine mc_e rfl fun Q1 => ?_
        refine o_call hf Try.en_43 rfl rfl rfl (ih (i + 1) (cinc n g) _ _ _ (hh.at (i := 1) rfl) hM2 (hC.extM hmo hh.ext) (by omega) (by rw [cardsN_inc]; omega)) ?_; clear hf a; intro v a w hR hf
        obtain ⟨rfl, es3, cm3, hM3, hx3⟩ := hR; replace hh := hh.turn (i := 1) rfl hx3.ext (hx3.at (i := 0) rfl); clear hx3
        refine ops_end ?_
        refine then_n ⟨⟨fun h => Bool.noConfusion (show true = false from h), trivial⟩, ?_⟩
        refine mc_e rfl fun Q1 => ?_
        refine o_call hf Try.en_46 rfl rfl rfl (p77 B10 (lesL d x wn (ws.drop (i + 1)) n g) _ _ (hh.at (i := 0) rfl)) ?_; clear hf a; intro v a w hR hf
        replace hh := hh.turn (i := 0) rfl hR.ext (hR.at (i := 0) rfl)
        refine ops_end ?_
        refine then_n ⟨⟨fun h => Bool.noConfusion (show true = false from h), trivial⟩, ?_⟩
        refine mc_end ?_
        refine blk_n ?_
        refine then_n ?_
        refine sy_ops ?_
        refine o_v hf hh (y_add rfl rfl) ?_; clear hf a; intro a hf
        refine o_v hf hh (yv_move rfl) ?_; clear hf a; intro a hf
        refine ops_end ?_
        refine then_n ?_
        first
          | exact ⟨(g + 1, es2, cm2), ⟨⟨by simp only; omega, hM2, Hp.headEq hh (by rw [lesL_no (by simp_all)])⟩, (hf.head (by repeat' (first | exact True.intro | refine And.intro rfl ?_)) (Keep.cons rfl (Keep.cons rfl (Keep.cons rfl (Keep.cons rfl (Keep.cons rfl (Keep.cons rfl (Keep.cons rfl (Keep.cons rfl (Keep.cons rfl (Keep.cons rfl (Keep.cons rfl (Keep.cons rfl (Keep.cons rfl (Keep.cons rfl (Keep.cons rfl (Keep.cons rfl (Keep.cons rfl (Keep.cons rfl (Keep.cons rfl (Keep.cons rfl (Keep.cons rfl (Keep.cons rfl (Keep.cons rfl (Keep.app rfl (Keep.rm rfl Keep.base))))))))))))))))))))))))))⟩, by simp only; omega⟩
          | exact ⟨(g + 1, es3, cm3), ⟨⟨by simp only; omega, hM3, Hp.headEq hh (by rw [lesL_put (by assumption)]; rfl)⟩, (hf.head (by repeat' (first | exact True.intro | refine And.intro rfl ?_)) (Keep.cons rfl (Keep.cons rfl (Keep.cons rfl (Keep.cons rfl (Keep.cons rfl (Keep.cons rfl (Keep.cons rfl (Keep.cons rfl (Keep.cons rfl (Keep.cons rfl (Keep.cons rfl (Keep.cons rfl (Keep.cons rfl (Keep.cons rfl (Keep.cons rfl (Keep.cons rfl (Keep.cons rfl (Keep.cons rfl (Keep.cons rfl (Keep.cons rfl (Keep.cons rfl (Keep.cons rfl (Keep.cons rfl (Keep.app rfl (Keep.rm rfl Keep.base))))))))))))))))))))))))))⟩, by simp only; omega⟩
          | omega
       ·have hG9 := hg9; try simp only [gS] at hG9
        refine sy_skip ?_
        refine blk_n ?_
        refine then_n ?_
        refine sy_ops ?_
        refine o_v hf hh (y_add rfl rfl) ?_; clear hf a; intro a hf
        refine o_v hf hh (yv_move rfl) ?_; clear hf a; intro a hf
        refine ops_end ?_
        refine then_n ?_
        first
          | exact ⟨(g + 1, es2, cm2), ⟨⟨by simp only; omega, hM2, Hp.headEq hh (by rw [lesL_no (by simp_all)])⟩, (hf.head (by repeat' (first | exact True.intro | refine And.intro rfl ?_)) (Keep.cons rfl (Keep.cons rfl (Keep.cons rfl (Keep.cons rfl (Keep.cons rfl (Keep.cons rfl (Keep.cons rfl (Keep.cons rfl (Keep.cons rfl (Keep.cons rfl (Keep.cons rfl (Keep.cons rfl (Keep.app rfl (Keep.rm rfl Keep.base)))))))))))))))⟩, by simp only; omega⟩
          | exact ⟨(g + 1, es3, cm3), ⟨⟨by simp only; omega, hM3, Hp.headEq hh (by rw [lesL_put (by assumption)]; rfl)⟩, (hf.head (by repeat' (first | exact True.intro | refine And.intro rfl ?_)) (Keep.cons rfl (Keep.cons rfl (Keep.cons rfl (Keep.cons rfl (Keep.cons rfl (Keep.cons rfl (Keep.cons rfl (Keep.cons rfl (Keep.cons rfl (Keep.cons rfl (Keep.cons rfl (Keep.cons rfl (Keep.app rfl (Keep.rm rfl Keep.base)))))))))))))))⟩, by simp only; omega⟩
          | omega
      ·have hG7 := hg7; try simp only [gS] at hG7
       refine sy_exit ?_
       refine then_e ?_
       refine then_e ?_
       refine blk_e ?_
       refine then_n ?_
       refine sy_seq ?_
       obtain rfl : g = d.terms.length := by omega
       have elast := lesL_all (d := d) (x := x) hwn n
       refine sy_ops ?_
       refine o_v hf hh (y_ld Try.sc_112 rfl) ?_; clear hf a; intro a hf
       refine o_v hf hh (y_lds Try.ag_117 rfl) ?_; clear hf a; intro a hf
       refine o_v hf hh (yv_fieldAddr Try.fo_121_0 rfl) ?_; clear hf a; intro a hf
       refine ops_v hf hh (yv_cast (y_ld Try.sc_3 rfl) (intv (b := lesK d x ws (i, n)) elast)) (.inl rfl) rfl rfl rfl ?_; clear hf a; intro a hf
       refine ops_mapUpdateK (i := 1) (p := (i, n)) (F := lesK d x ws) hf hh k108 mke105 rfl rfl rfl rfl hM2 (.inl rfl) fun es4 cm4 w hM4 hh => ?_
       refine o_end ?_
       refine sy_sq ?_
       refine o_v hf hh (yv_fieldAddr Try.fo_121_0 rfl) ?_; clear hf a; intro a hf
       refine o_v hf hh (y_ld Try.sc_3 rfl) ?_; clear hf a; intro a hf
       refine o_v hf hh (yv_assign rfl) ?_; clear hf a; intro a hf
       refine o_end ?_
       refine sy_ret ?_
       refine ret_r hf rfl rfl ?_
       exact ⟨intv elast, es4, cm4, hM4, hh.pick [1]⟩
end Go.Proofs.Ytccpgpnekoncoaa
