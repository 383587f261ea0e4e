/- Lemmas, in order: Rows that a law is handed, opened; the library's table. Plain laws: what the way with the fewest hidden marks answers. MatchFewest, walked.. -/
import Derived.Test.YtemmhdgaagaglaaDoorQ13
import Derived.Test.YtemmhdgaagaglaaDoorRows
import Derived.Test.YtemmhdgaagaglaaDoorChecked
import Derived.JoinedOf
import Derived.LaidLaws
import Derived.Lib.LaidU8
import Derived.RowKit
import Derived.RowKitTokens
import Derived.LaidHandle
import Derived.Stop.Joined
import Derived.Lay
namespace Go.Proofs.YtemmhdgaagaglaaDoor
open Go Go.Sy Go.MatM Go.ChangeShapes Go.WideShapes Go.Deep Go.RowKit
theorem hs26 : Tryd.prog.underlying 26 = some (.struct (Tryd.prog.fieldsOf 26)) := by kernel_rfl
theorem fs26 : (Tryd.prog.fieldsOf 26).map (fun f => (f.offset, f.type)) = #[(0, 22), (1, 22), (2, 24), (4, 3)] := by kernel_rfl
theorem co26 : Tryd.prog.cellsOf 26 = 5 := by kernel_rfl
theorem co22 : Tryd.prog.cellsOf 22 = 1 := by kernel_rfl
theorem co24 : Tryd.prog.cellsOf 24 = 2 := by kernel_rfl
theorem co3 : Tryd.prog.cellsOf 3 = 1 := by kernel_rfl
theorem un22 : Tryd.prog.underlying 22 = some (.slice 53) := by kernel_rfl
theorem fk53 : flK Tryd.prog .i64 9 53 = some 4 := by kernel_rfl
theorem fk24 : flK Tryd.prog .i64 9 24 = some 2 := by kernel_rfl
theorem fk3 : flK Tryd.prog .i64 9 3 = some 1 := by kernel_rfl
def toMk (p : List Int) : Mk := match p with
  | [x, y, z, t] => ⟨x, y, z, t⟩
  | _ => ⟨0, 0, 0, 0⟩
theorem mkAt_flat {W : World} {sa : Option Addr} {l : List (List Int)} (hl : ∀ p ∈ l, p.length = 4) (h : FlatAt W .i64 sa 4 l) : MkAt W sa (l.map toMk) := fun i s hi => by
  rw [List.getElem?_map] at hi
  cases hp : l[i]? with
  | none => rw [hp] at hi; cases hi
  | some p =>
    rw [hp] at hi
    cases hi
    obtain ⟨blk, off, c, T, fr, h1, h2, h3⟩ := h i p hp
    refine ⟨blk, off, c, T, fr, h1, h2, ?_⟩
    rw [h3]
    match p, hl p (List.mem_of_getElem? hp) with
    | [x, y, z, t], _ => rfl
theorem len5 {l : List Value} (h : l.length = 5) : ∃ a b c d e, l = [a, b, c, d, e] := by
  match l, h with
  | [a, b, c, d, e], _ => exact ⟨a, b, c, d, e, rfl⟩
section
variable {H : Type} {enc : TypeId × Value → H} {W : World} {base : Nat} {spare : Nat → Bool} {held : Bool}
set_option maxRecDepth 100000 in
theorem openRows {r : Reach} {b0 : Nat} {v : Value} {d : DataW H} {p : List MemPlace} (hv : Value.okWide Tryd.prog W r b0 26 v) (h : DataW.Trod enc Tryd.prog W base spare held 26 v d p) : ∃ (d : RowsD) (sa sb : Option Addr) (ca cb : Nat), v = rowsV d sa sb ca cb ∧ MkAt W sa d.l ∧ MkAt W sb d.r ∧ (-9223372036854775808 ≤ d.hid ∧ d.hid ≤ 9223372036854775807) := by
  obtain ⟨cs, rfl, hsz⟩ := okWide_struct hs26 hv
  obtain ⟨fuel, h⟩ := h
  obtain ⟨_, hf⟩ := trod_field hs26 h
  rw [fs26] at hf
  rw [co26] at hsz
  obtain ⟨l, rfl⟩ : ∃ l : List Value, cs = l.toArray := ⟨cs.toList, by simp⟩
  obtain ⟨c0, c1, c2, c3, c4, rfl⟩ := len5 (by simpa using hsz)
  replace hf : ∀ (i o : Nat) (u : TypeId) (c : Nat), (#[(0, 22), (1, 22), (2, 24), (4, 3)] : Array (Nat × TypeId))[i]? = some (o, u) → Tryd.prog.cellsOf u = c → ∃ n y, DataW.trod enc Tryd.prog W base spare held n u (([c0, c1, c2, c3, c4].drop o).take c) = some y := hf
  obtain ⟨_, _, g0⟩ := hf 0 0 22 1 rfl co22
  obtain ⟨_, _, g1⟩ := hf 1 1 22 1 rfl co22
  obtain ⟨_, _, g2⟩ := hf 2 2 24 2 rfl co24
  obtain ⟨_, _, g3⟩ := hf 3 4 3 1 rfl co3
  obtain ⟨l0, sa, ca, e0, _, b0', f0⟩ := trod_slices un22 fk53 (by omega) g0
  obtain ⟨l1, sb, cb, e1, _, b1, f1⟩ := trod_slices un22 fk53 (by omega) g1
  obtain ⟨p2, q2, e2, _⟩ := trod_fl fk24 g2
  obtain ⟨p3, q3, e3, w3⟩ := trod_fl fk3 g3
  obtain ⟨lo, hi, rfl⟩ : ∃ x y, p2 = [x, y] := by
    match p2, q2 with
    | [x, y], _ => exact ⟨x, y, rfl⟩
  obtain ⟨hid, rfl⟩ : ∃ x, p3 = [x] := by
    match p3, q3 with
    | [x], _ => exact ⟨x, rfl⟩
  simp at e0 e1 e2 e3
  obtain ⟨rfl, rfl⟩ := e2
  subst e0; subst e1; subst e3
  exact ⟨⟨l0.map toMk, l1.map toMk, lo, hi, hid⟩, sa, sb, ca, cb, by simp, mkAt_flat (fun p hp => (b0' p hp).1) f0, mkAt_flat (fun p hp => (b1 p hp).1) f1, wf64 (w3 hid (by simp))⟩
end
theorem un43 : Tryd.prog.underlying 43 = some (.slice 5) := by kernel_rfl
theorem fk5 : flK Tryd.prog .u8 9 5 = some 1 := by kernel_rfl
theorem gn1 : Tryd.prog.globalNamed "math/bits.deBruijn64tab" = some 1 := by kernel_rfl
theorem gt1 : (Tryd.prog.globals[1]?).map (·.type) = some 137 := by kernel_rfl
theorem untab : Tryd.prog.underlying 137 = some (.array 64 5) := by kernel_rfl
theorem un5 : Tryd.prog.underlying 5 = some (.int .u8) := by kernel_rfl
theorem co5 : Tryd.prog.cellsOf 5 = 1 := by kernel_rfl
theorem tab_data : (Rows.laid_math_bits_deBruijn64tab : DataW Unit) = .agg (Lib.deBruijn64tab.map fun (k : Nat) => .lit (.int .u8 (k : Int))) := by kernel_rfl
theorem tab_len : Lib.deBruijn64tab.length = 64 := by kernel_rfl
theorem gTab_of_laid {W : World} {l : List (String × DataW Unit)} (hm : ("math/bits.deBruijn64tab", Rows.laid_math_bits_deBruijn64tab) ∈ l) (h : laidMet Tryd.prog l W) : GTab W := by
  obtain ⟨g, t, cs, fuel, p, h1, h2, h3, h4⟩ := Lib.laidMet.reads h hm
  obtain rfl : 1 = g := Option.some.inj (gn1.symm.trans h1)
  obtain rfl : 137 = t := Option.some.inj (gt1.symm.trans h2)
  rw [tab_data] at h4
  have hb : ∃ T fr, W.heap[1]? = some (.cells cs T fr) := by
    simp only [World.var?, gn1, Option.bind_some] at h3
    split at h3
    · rename_i c T fr hc
      cases h3; exact ⟨T, fr, hc⟩
    · cases h3
  obtain ⟨T, fr, hb⟩ := hb
  refine ⟨cs, T, fr, hb, fun j hj => ?_⟩
  obtain ⟨fuel', d, q, hd, ht⟩ := Lib.array_elem untab h4 j hj
  rw [co5, Nat.mul_one] at ht
  obtain ⟨n, e1, e2, _⟩ := DataW.trod_int un5 ht
  rw [List.getElem?_map] at hd
  have hjl : j < Lib.deBruijn64tab.length := by rw [tab_len]; exact hj
  rw [List.getElem?_eq_getElem hjl] at hd
  have hd := Option.some.inj hd
  have e3 : d = .lit (.int .u8 n) := congrArg Prod.fst e2
  rw [e3] at hd
  have hn : n = ((Lib.deBruijn64tab[j] : Nat) : Int) := by injection hd with hd; injection hd with _ hd; exact hd.symm
  have h5 := congrArg (·[0]?) e1
  simp only [List.getElem?_take, List.getElem?_drop, Nat.add_zero] at h5
  have h6 : cs[j]? = some (.int .u8 n) := by simpa using h5
  rw [h6, hn, List.getD_eq_getElem?_getD, List.getElem?_eq_getElem hjl]; rfl
theorem own : ownKnob Tryd.prog.godebug = none := by kernel_rfl
theorem laidWorld_met (os : Os) (args : Array Value) : laidMetH Tryd.prog Rows.matchNamesRow.laid ((World.laidAll Tryd.prog os Rows.matchNamesRow.laid).forCall (fun _ _ => 0) ⟨#[], args, []⟩).memory :=
  laidMetH_of_parts (laidMet_laidAll args (by kernel_rfl) (by kernel_rfl)) (by kernel_rfl)
theorem un4 : Tryd.prog.underlying 4 = some .bool := by kernel_rfl
end Go.Proofs.YtemmhdgaagaglaaDoor
namespace Go.MatM
open Go Go.Sy
theorem need_iff {d : RowsD} (hV : Valid d) (n : Nat) : need d ≤ n ↔ ((d.l.length + d.r.length : Nat) : Int) - 2 * (n : Nat) ≤ d.hid := by
  have h1 := hV.nl; have h2 := hV.nr; have h3 := hV.h1; have h4 := hV.h2
  unfold need needI
  have := Int.tdiv_eq_ediv (a := ((d.l.length + d.r.length : Nat) - d.hid + 1)) (b := 2)
  rw [this, show Int.sign 2 = 1 from rfl]
  split <;> omega
theorem isD_iff (d : RowsD) : isD d = true ↔ need d ≤ mosD d := by unfold isD mosD; rw [decide_eq_true_eq]
theorem isD_cnt (d : RowsD) : isD d = true ↔ 0 < cnt (fitD d) d.l.length d.r.length 0 0 (need d) := by
  rw [cnt_pos, ← le_mos_iff]; exact isD_iff d
theorem fewL_eq {d : RowsD} (h : opE d true = 0) : Ch (fitD d) d.l.length d.r.length 0 0 (fewL d) ∧ (fewL d).length = mosD d := by
  unfold fewL; rw [if_pos h]; exact grd_ch rfl
theorem fewL_none {d : RowsD} (h : opE d true ≠ 0) : fewL d = [] := by unfold fewL; rw [if_neg h]
theorem fewH_eq {d : RowsD} (h : opE d true = 0) : fewH d = ((d.l.length + d.r.length : Nat) : Int) - 2 * (mosD d : Nat) := by unfold fewH; rw [if_pos h]
theorem fewH_none {d : RowsD} (h : opE d true ≠ 0) : fewH d = 0 := by unfold fewH; rw [if_neg h]
theorem mosD_le (d : RowsD) : mosD d ≤ d.l.length ∧ mosD d ≤ d.r.length := by
  have := mos_le (fitD d) d.l.length d.r.length 0 0
  unfold mosD; omega
def setH (d : RowsD) (h : Int) : RowsD := { d with hid := h }
theorem setH_valid {d : RowsD} (hV : Valid d) {h : Int} (h0 : 0 ≤ h) (h1 : h ≤ 20) : Valid (setH d h) := ⟨hV.nl, hV.nr, hV.ml, hV.mr, hV.s1, hV.s2, hV.s3, h0, h1⟩
theorem fewH_bd {d : RowsD} (h : opE d true = 0) : 0 ≤ fewH d ∧ fewH d ≤ d.hid ∧ fewH d ≤ 20 := by
  obtain ⟨hok, _, his⟩ := opE_zero.1 h
  have hV := (okRows_iff d).1 hok
  have h1 := (need_iff hV _).1 ((isD_iff d).1 his)
  have h2 := mosD_le d
  have h3 := hV.nl; have h4 := hV.nr
  rw [fewH_eq h]; omega
theorem few_again {d : RowsD} (h : opE d true = 0) : opE (setH d (fewH d)) true = 0 ∧ fewH (setH d (fewH d)) = fewH d := by
  obtain ⟨hok, _, his⟩ := opE_zero.1 h
  have hV := (okRows_iff d).1 hok
  have hb := fewH_bd h
  have hV2 := setH_valid hV hb.1 hb.2.2
  have e : opE (setH d (fewH d)) true = 0 := opE_zero.2 ⟨(okRows_iff _).2 hV2, rfl, (isD_iff _).2 ((need_iff hV2 _).2 (by
    show ((d.l.length + d.r.length : Nat) : Int) - 2 * (mosD d : Nat) ≤ fewH d
    rw [fewH_eq h]; omega))⟩
  refine ⟨e, ?_⟩
  rw [fewH_eq e, fewH_eq h]; rfl
theorem few_less {d : RowsD} (h : opE d true = 0) (h0 : 0 < fewH d) : okRows (setH d (fewH d - 1)) = true ∧ countV (setH d (fewH d - 1)) = 0 ∧ countE (setH d (fewH d - 1)) = 0 := by
  obtain ⟨hok, _, his⟩ := opE_zero.1 h
  have hV := (okRows_iff d).1 hok
  have hb := fewH_bd h
  have hV2 := setH_valid hV (h := fewH d - 1) (by omega) (by omega)
  have hok2 := (okRows_iff _).2 hV2
  refine ⟨hok2, ?_, by unfold countE; rw [if_pos hok2]⟩
  unfold countV
  rw [if_pos hok2]
  have hz : ¬ 0 < cnt (fitD (setH d (fewH d - 1))) (setH d (fewH d - 1)).l.length (setH d (fewH d - 1)).r.length 0 0 (need (setH d (fewH d - 1))) := by
    rw [← isD_cnt, isD_iff, need_iff hV2]
    show ¬ ((d.l.length + d.r.length : Nat) : Int) - 2 * (mosD d : Nat) ≤ fewH d - 1
    rw [fewH_eq h]; omega
  omega
theorem count_none {d : RowsD} (hok : okRows d = true) (h : opE d true ≠ 0) : opE d true = 4 ∧ countV d = 0 := by
  have his : ¬ isD d = true := fun h2 => h (opE_zero.2 ⟨hok, rfl, h2⟩)
  constructor
  · unfold opE; simp [hok, his]
  · unfold countV; rw [if_pos hok]
    rw [isD_cnt] at his; omega
theorem opE_bad {d : RowsD} (hok : okRows d = false) (b : Bool) : opE d b = 1 := by unfold opE; rw [if_pos hok]
theorem count_some {d : RowsD} (h : opE d true = 0) : 1 ≤ countV d ∧ countE d = 0 := by
  obtain ⟨hok, _, his⟩ := opE_zero.1 h
  unfold countV countE
  rw [if_pos hok, if_pos hok]
  have := (isD_cnt d).1 his
  omega
theorem few_pair {d : RowsD} (h : opE d true = 0) {i : Nat} {p : Pr} (hp : (fewL d)[i]? = some p) : p.1 < d.l.length ∧ p.2 < d.r.length ∧ fitD d p.1 p.2 = true := by
  have hc := (Ch_iff.1 (fewL_eq h).1).1 p (List.mem_of_getElem? hp)
  exact ⟨hc.2.1, hc.2.2.2.1, hc.2.2.2.2⟩
theorem few_inc {d : RowsD} (h : opE d true = 0) {i : Nat} {p q : Pr} (hq : (fewL d)[i]? = some q) (hp : (fewL d)[i + 1]? = some p) : q.1 < p.1 ∧ q.2 < p.2 := by
  have hc := (Ch_iff.1 (fewL_eq h).1).2
  rw [List.pairwise_iff_getElem] at hc
  obtain ⟨h1, rfl⟩ := List.getElem?_eq_some_iff.1 hq
  obtain ⟨h2, rfl⟩ := List.getElem?_eq_some_iff.1 hp
  exact hc i (i + 1) h1 h2 (by omega)
/-- Fits, of two marks. -/
theorem fits_ok {d : RowsD} (hok : okRows d = true) {x y : Nat} (hx : x < d.l.length) (hy : y < d.r.length) : fitsE d x y = 0 ∧ fitsV d x y = fitD d x y := by
  have hi : (inB (x : Int) d.l.length && inB (y : Int) d.r.length) = true := by
    unfold inB; simp only [Bool.and_eq_true, decide_eq_true_eq]; omega
  have e : fitsE d x y = 0 := by unfold fitsE; rw [if_neg (by simp [hok]), if_neg (by simp [hi])]
  refine ⟨e, ?_⟩
  unfold fitsV; rw [e]; simp
/-- A chain grows by a pair behind it. -/
theorem Ch_snoc {F : Nat → Nat → Bool} {L R : Nat} {c : List Pr} {x y : Nat} (h : Ch F L R 0 0 c) (hb : ∀ p ∈ c, p.1 < x ∧ p.2 < y) (hx : x < L) (hy : y < R) (hF : F x y = true) : Ch F L R 0 0 (c ++ [(x, y)]) := by
  rw [Ch_iff] at h ⊢
  constructor
  · intro p hp
    rcases List.mem_append.1 hp with hp | hp
    · exact h.1 p hp
    · rw [List.mem_singleton] at hp; subst hp; exact ⟨Nat.zero_le _, hx, Nat.zero_le _, hy, hF⟩
  · rw [List.pairwise_append]
    exact ⟨h.2, List.pairwise_singleton _ _, fun p hp q hq => by rw [List.mem_singleton] at hq; subst hq; exact hb p hp⟩
/-- At the first place where two ways differ the one that is told comes before. -/
theorem lex_at : ∀ {a b : List Pr} {i : Nat} {p q : Pr}, lexle a b → a.take i = b.take i → a[i]? = some p → b[i]? = some q → p ≠ q → plt p q
  | [], _, i, p, q, _, _, h, _, _ => by simp at h
  | _ :: _, [], i, p, q, _, _, _, h, _ => by simp at h
  | x :: a, y :: b, 0, p, q, h, _, hp, hq, hne => by
    simp at hp hq; subst hp; subst hq
    unfold lexle at h
    rcases h with h | h
    · exact h
    · exact absurd h.1 hne
  | x :: a, y :: b, i + 1, p, q, h, ht, hp, hq, hne => by
    simp only [List.take_succ_cons, List.cons.injEq] at ht
    unfold lexle at h
    rcases h with h | h
    · have h' : plt y y := ht.1 ▸ h
      rcases h' with h | h
      · exact absurd h (Nat.lt_irrefl _)
      · exact absurd h.2 (Nat.lt_irrefl _)
    · exact lex_at h.2 ht.2 (by simpa using hp) (by simpa using hq) hne
theorem few_lex {d : RowsD} (h : opE d true = 0) {c : List Pr} (hc : Ch (fitD d) d.l.length d.r.length 0 0 c) : c.length ≤ (fewL d).length ∧ (c.length = (fewL d).length → lexle (fewL d) c) := by
  have e := (fewL_eq h).2
  constructor
  · rw [e]; exact le_mos hc
  · intro hl
    unfold fewL; rw [if_pos h]
    exact grd_first rfl hc (by rw [hl, e])
end Go.MatM
namespace Go.Proofs.YtemmhdgaagaglaaDoor
open Go Go.Sy Go.MatM
structure FS2 where
  (j x y : Nat)
  oth : List Pr
  v : Value
  X : List (Nat × Obj)
theorem u8_at {w : World} {sy : Option Addr} {m : List Int} (h : FlatAt w .u8 sy 1 (m.map fun z => [z])) {j : Nat} (hj : j < m.length) : ∃ z blk off c T fr, m[j]? = some z ∧ sy = some ⟨blk, off, none⟩ ∧ w.heap[blk]? = some (.cells c T fr) ∧ c[off + ((j : Nat) : Int).toNat * 1]? = some (.int .u8 z) := by
  obtain ⟨z, hz⟩ := ex_of hj
  obtain ⟨blk, off, c, T, fr, h1, h2, h3⟩ := h j [z] (by simp [hz])
  refine ⟨z, blk, off, c, T, fr, hz, h1, h2, ?_⟩
  have := (cellsAt_get 1 _ _ h3).2 0 _ rfl
  simpa using this
theorem pair_cells {c : Array Value} {off : Nat} {l : List Pr} (h : ∀ j v, (encP l)[j]? = some v → c[off + j]? = some v) {i : Nat} {p : Pr} (hp : l[i]? = some p) : cellsAt c (off + ((i : Nat) : Int).toNat * 2) 2 = some [.int .i64 p.1, .int .i64 p.2] ∧
    c[off + ((i : Nat) : Int).toNat * 2 + (0 : Int).toNat * 1]? = some (.int .i64 p.1) ∧ c[off + ((i : Nat) : Int).toNat * 2 + (1 : Int).toNat * 1]? = some (.int .i64 p.2) := by
  obtain ⟨g1, g2⟩ := encP_get l i p hp
  have a1 := h _ _ g1; have a2 := h _ _ g2
  rw [← Nat.add_assoc] at a2
  refine ⟨?_, ?_, ?_⟩
  · simp only [Int.toNat_natCast]; simp [cellsAt, a1, a2]
  · simpa using a1
  · simpa using a2
theorem vals_pair {w : World} {oa : Option Addr} {l : List Pr} (h : ValsAt w oa (encP l)) {i : Nat} (hi : i < l.length) : ∃ blk off c T fr, oa = some ⟨blk, off, none⟩ ∧ w.heap[blk]? = some (.cells c T fr) ∧ ∀ j v, (encP l)[j]? = some v → c[off + j]? = some v := by
  rcases h with h | h
  · have := congrArg List.length h
    rw [encP_len] at this
    simp at this; omega
  · exact h
theorem pair_ne (p q : Pr) : ([(p.1 : Int), (p.2 : Int)] = [(q.1 : Int), (q.2 : Int)]) ↔ p = q := by
  obtain ⟨x1, x2⟩ := p
  obtain ⟨y1, y2⟩ := q
  simp only [List.cons.injEq, and_true, Prod.mk.injEq]; omega
set_option maxRecDepth 100000 in
set_option maxHeartbeats 4000000 in
theorem c5 (d : RowsD) (sa sb : Option Addr) (ca cb : Nat) (u : World) (hA : MkAt u sa d.l) (hB : MkAt u sb d.r) (sy : Option Addr) (cy : Nat) (m : List Int) (hY : FlatAt u .u8 sy 1 (m.map fun z => [z])) (hm : m.length ≤ 9223372036854775807) (hmb : ∀ z ∈ m, 0 ≤ z ∧ z ≤ 255) (hT : GTab u) : Calls Tryd.prog 5 #[rowsV d sa sb ca cb, .slice sy m.length cy] u (Ret fun v w' => v = .bool true ∧ Ext [] u w') := by
  refine calls_of Tryd.func5 rfl rfl (fun a hf => ?_)
  have hh := Hp.init u []
  refine sy_sq ?_
  refine o_box hf hh ?_; clear hf hh a; intro B2 a w hf hh
  refine o_v hf hh (yv_assign rfl) ?_; clear hf a; intro a hf
  refine o_end ?_
  refine sy_seq ?_
  refine sy_sq ?_
  refine o_v hf hh (y_lds Tryd.ag_26 rfl) ?_; clear hf a; intro a hf
  refine o_call hf Tryd.en_13 rfl rfl rfl (c13 d sa sb ca cb _ (hA.ext hh.ext) (hB.ext hh.ext) 10) ?_; clear hf a; intro v a w hR hf
  obtain ⟨rfl, hx⟩ := hR; replace hh := hh.more hx; clear hx
  refine o_end ?_
  refine sy_cond hf rfl (fun hg2 => ?_) (fun hg2 => ?_)
  ·have hG2 := hg2; try simp only [gS] at hG2
   refine sy_sq ?_
   refine o_call hf Tryd.en_14 rfl rfl rfl (c14 _ (hT.ext hh.ext (by simp))) ?_; clear hf a; intro v a w hR hf
   obtain ⟨rfl, hx⟩ := hR; replace hh := hh.more hx; clear hx
   refine o_v hf hh (yv_assign rfl) ?_; clear hf a; intro a hf
   refine o_end ?_
   refine sy_ret ?_
   refine then_r ?_
   refine ret_r hf rfl rfl ?_
   first
     | exact ⟨rfl, hh.ext⟩
     | exact ⟨rfl, he1.trans hh.ext⟩
     | exact ⟨rfl, he0.trans hh.ext⟩
  ·have hG2 := hg2; try simp only [gS] at hG2
   refine sy_skip ?_
   refine then_n ?_
   refine sy_sq ?_
   refine o_v hf hh (y_lds Tryd.ag_26 rfl) ?_; clear hf a; intro a hf
   refine o_call hf Tryd.en_19 rfl rfl rfl (c19 d sa sb ca cb _ (hA.ext hh.ext) (hB.ext hh.ext)) ?_; clear hf a; intro v a w hR hf
   obtain ⟨sv, Xl, rfl, hown, hx⟩ := hR; replace hh := hh.join hx; clear hx
   obtain ⟨oa, cap, rfl⟩ := OwnSl_val hown
   have he0 := hh.ext
   have hb2 := hh.get (B2, .cells (rowsV d sa sb ca cb).cells 26) (by simp)
   have hvl := valsAt_own hown fun x hx => hh.get x (by simp [hx])
   have hA1 := hA.ext hh.ext
   have hB1 := hB.ext hh.ext
   have hY1 := hY.ext hh.ext
   have hT1 := hT.ext hh.ext (by simp)
   obtain ⟨u1, rfl⟩ : ∃ z, z = w := ⟨_, rfl⟩
   replace hh := Hp.init u1 []
   
   refine o_v hf hh (yv_move rfl) ?_; clear hf a; intro a hf
   refine o_v hf hh (yv_extract rfl rfl) ?_; clear hf a; intro a hf
   refine o_v hf hh (yv_extract rfl rfl) ?_; clear hf a; intro a hf
   refine o_v hf hh (yv_extract rfl rfl) ?_; clear hf a; intro a hf
   refine o_v hf hh (yv_assign rfl) ?_; clear hf a; intro a hf
   refine o_v hf hh (yv_assign rfl) ?_; clear hf a; intro a hf
   refine o_v hf hh (yv_assign rfl) ?_; clear hf a; intro a hf
   refine o_end ?_
   refine sy_sq ?_
   refine o_v hf hh (y_lds Tryd.ag_26 rfl) ?_; clear hf a; intro a hf
   refine o_call hf Tryd.en_17 rfl rfl rfl (c17 d sa sb ca cb _ (hA1.ext hh.ext) (hB1.ext hh.ext)) ?_; clear hf a; intro v a w hR hf
   obtain ⟨rfl, hx⟩ := hR; replace hh := hh.more hx; clear hx
   refine o_v hf hh (yv_move rfl) ?_; clear hf a; intro a hf
   refine o_v hf hh (yv_extract rfl rfl) ?_; clear hf a; intro a hf
   refine o_v hf hh (yv_extract rfl rfl) ?_; clear hf a; intro a hf
   refine o_v hf hh (yv_assign rfl) ?_; clear hf a; intro a hf
   refine o_v hf hh (yv_assign rfl) ?_; clear hf a; intro a hf
   refine o_end ?_
   refine sy_seq ?_
   refine sy_sq ?_
   refine o_v hf hh (yv_move rfl) ?_; clear hf a; intro a hf
   refine o_v hf hh (yv_bin rfl rfl rfl) ?_; clear hf a; intro a hf
   refine o_end ?_
   refine sy_cond hf rfl (fun hg12 => ?_) (fun hg12 => ?_)
   ·have hG12 := hg12; try simp only [gS] at hG12
    refine sy_seq ?_
    have hne : opE d true ≠ 0 := by omega
    have hl0 : (fewL d).length = 0 := by rw [fewL_none hne]; rfl
    have hh0 := fewH_none hne
    have hE14 : (opE d true = 1 ∧ okRows d = false ∧ countE d = 1) ∨ (opE d true = 4 ∧ okRows d = true ∧ countE d = 0 ∧ countV d = 0) := by
      cases hok : okRows d
      · exact .inl ⟨opE_bad hok true, rfl, by unfold countE; rw [hok]; rfl⟩
      · exact .inr ⟨(count_none hok hne).1, rfl, by unfold countE; rw [hok]; rfl, (count_none hok hne).2⟩
    have hEb : decide (decide (opE d true = 1) = !okRows d) = true := by
      rcases hE14 with h | h
      · rw [h.1, h.2.1]; rfl
      · rw [h.1, h.2.1]; rfl
    have hlen : d.l.length ≤ 24 ∧ d.r.length ≤ 24 := by first | (simp_all; done) | (simp_all; omega)
    refine sy_ops ?_
    refine o_v hf hh (yv_move rfl) ?_; clear hf a; intro a hf
    refine o_v hf hh (yv_len Tryd.se_34 rfl) ?_; clear hf a; intro a hf
    refine o_v hf hh (yv_bin rfl rfl rfl) ?_; clear hf a; intro a hf
    refine o_v hf hh (yv_move rfl) ?_; clear hf a; intro a hf
    refine o_v hf hh (yv_move rfl) ?_; clear hf a; intro a hf
    refine o_v hf hh (yv_bin rfl rfl rfl) ?_; clear hf a; intro a hf
    refine o_v hf hh (y_pt rfl rfl) ?_; clear hf a; intro a hf
    refine o_v hf hh (yv_move rfl) ?_; clear hf a; intro a hf
    refine o_v hf hh (yv_move rfl) ?_; clear hf a; intro a hf
    refine o_v hf hh (yv_bin rfl rfl rfl) ?_; clear hf a; intro a hf
    refine o_v hf hh (y_lds Tryd.ag_26 rfl) ?_; clear hf a; intro a hf
    refine o_call hf Tryd.en_26 rfl rfl rfl (c26 d sa sb ca cb _ (hA1.ext hh.ext) (hB1.ext hh.ext) (by omega) (by omega)) ?_; clear hf a; intro v a w hR hf
    obtain ⟨rfl, hx⟩ := hR; replace hh := hh.more hx; clear hx
    refine o_v hf hh (yv_not rfl) ?_; clear hf a; intro a hf
    refine o_v hf hh (yv_eqb Tryd.ub_4 rfl rfl) ?_; clear hf a; intro a hf
    refine o_v hf hh (y_pt rfl rfl) ?_; clear hf a; intro a hf
    refine o_v hf hh (yv_move rfl) ?_; clear hf a; intro a hf
    refine o_v hf hh (yv_move rfl) ?_; clear hf a; intro a hf
    refine o_v hf hh (yv_bin rfl rfl rfl) ?_; clear hf a; intro a hf
    refine o_v hf hh (yv_move rfl) ?_; clear hf a; intro a hf
    refine guard_split hf (t := 62) rfl (fun hg19 => ?_) (fun hg19 => ?_)
    ·have hG19 := hg19; try simp only [gS] at hG19
     refine o_v hf hh (yv_move rfl) ?_; clear hf a; intro a hf
     refine o_v hf hh (yv_move rfl) ?_; clear hf a; intro a hf
     refine o_v hf hh (yv_bin rfl rfl rfl) ?_; clear hf a; intro a hf
     refine o_v hf hh (y_pt rfl rfl) ?_; clear hf a; intro a hf
     refine o_v hf hh (yv_move rfl) ?_; clear hf a; intro a hf
     refine o_off hf ?_; clear hf a; intro a hf
     refine o_off hf ?_; clear hf a; intro a hf
     refine o_off hf ?_; clear hf a; intro a hf
     refine o_off hf ?_; clear hf a; intro a hf
     refine o_off hf ?_; clear hf a; intro a hf
     refine o_off hf ?_; clear hf a; intro a hf
     refine o_off hf ?_; clear hf a; intro a hf
     refine o_off hf ?_; clear hf a; intro a hf
     refine o_off hf ?_; clear hf a; intro a hf
     refine o_off hf ?_; clear hf a; intro a hf
     refine o_v hf hh (y_pt rfl rfl) ?_; clear hf a; intro a hf
     refine o_v hf hh (y_pt rfl rfl) ?_; clear hf a; intro a hf
     refine o_v hf hh (yv_move rfl) ?_; clear hf a; intro a hf
     refine o_call hf Tryd.en_14 rfl rfl rfl (c14 _ (hT1.ext hh.ext (by simp))) ?_; clear hf a; intro v a w hR hf
     obtain ⟨rfl, hx⟩ := hR; replace hh := hh.more hx; clear hx
     refine o_v hf hh (y_pt rfl rfl) ?_; clear hf a; intro a hf
     refine o_v hf hh (yv_assign rfl) ?_; clear hf a; intro a hf
     refine o_end ?_
     refine sy_ret ?_
     refine then_r ?_
     refine ret_r hf rfl rfl ?_
     first
       | exact ⟨rfl, hh.ext⟩
       | exact ⟨rfl, he1.trans hh.ext⟩
       | exact ⟨rfl, he0.trans hh.ext⟩
    ·have hG19 := hg19; try simp only [gS] at hG19
     refine o_off hf ?_; clear hf a; intro a hf
     refine o_off hf ?_; clear hf a; intro a hf
     refine o_off hf ?_; clear hf a; intro a hf
     refine o_v hf hh (y_pf rfl rfl) ?_; clear hf a; intro a hf
     refine o_v hf hh (yv_move rfl) ?_; clear hf a; intro a hf
     refine o_v hf hh (yv_move rfl) ?_; clear hf a; intro a hf
     refine o_v hf hh (yv_bin rfl rfl rfl) ?_; clear hf a; intro a hf
     refine o_v hf hh (yv_move rfl) ?_; clear hf a; intro a hf
     refine o_v hf hh (yv_move rfl) ?_; clear hf a; intro a hf
     refine o_v hf hh (yv_bin rfl rfl rfl) ?_; clear hf a; intro a hf
     refine o_v hf hh (y_pt rfl rfl) ?_; clear hf a; intro a hf
     refine o_v hf hh (yv_move rfl) ?_; clear hf a; intro a hf
     refine o_v hf hh (yv_move rfl) ?_; clear hf a; intro a hf
     refine o_v hf hh (yv_bin rfl rfl rfl) ?_; clear hf a; intro a hf
     refine o_v hf hh (y_pt rfl rfl) ?_; clear hf a; intro a hf
     refine o_v hf hh (y_pf rfl rfl) ?_; clear hf a; intro a hf
     refine o_v hf hh (y_pt rfl rfl) ?_; clear hf a; intro a hf
     refine o_v hf hh (yv_move rfl) ?_; clear hf a; intro a hf
     refine o_call hf Tryd.en_14 rfl rfl rfl (c14 _ (hT1.ext hh.ext (by simp))) ?_; clear hf a; intro v a w hR hf
     obtain ⟨rfl, hx⟩ := hR; replace hh := hh.more hx; clear hx
     refine o_v hf hh (y_pt rfl rfl) ?_; clear hf a; intro a hf
     refine o_v hf hh (yv_assign rfl) ?_; clear hf a; intro a hf
     refine o_end ?_
     refine sy_ret ?_
     refine then_r ?_
     refine ret_r hf rfl rfl ?_
     first
       | exact ⟨rfl, hh.ext⟩
       | exact ⟨rfl, he1.trans hh.ext⟩
       | exact ⟨rfl, he0.trans hh.ext⟩
   ·have hG12 := hg12; try simp only [gS] at hG12
    refine sy_skip ?_
    refine then_n ?_
    refine sy_seq ?_
    refine sy_seq ?_
    have hop : opE d true = 0 := by omega
    obtain ⟨hok, _, his⟩ := opE_zero.1 hop
    have hV := (okRows_iff d).1 hok
    have hnl := hV.nl; have hnr := hV.nr
    have hcs := count_some hop
    have hfb := fewH_bd hop
    have hfq := fewH_eq hop
    have hfe := fewL_eq hop
    have hml := mosD_le d
    have hh1 := hV.h1; have hh2 := hV.h2
    refine sy_ops ?_
    refine o_v hf hh (yv_move rfl) ?_; clear hf a; intro a hf
    refine o_v hf hh (yv_bin rfl rfl rfl) ?_; clear hf a; intro a hf
    refine o_v hf hh (yv_move rfl) ?_; clear hf a; intro a hf
    refine o_v hf hh (yv_move rfl) ?_; clear hf a; intro a hf
    refine o_v hf hh (yv_bin rfl rfl rfl) ?_; clear hf a; intro a hf
    refine o_v hf hh (y_pf rfl rfl) ?_; clear hf a; intro a hf
    refine o_v hf hh (yv_move rfl) ?_; clear hf a; intro a hf
    refine o_v hf hh (y_lds Tryd.ag_26 rfl) ?_; clear hf a; intro a hf
    refine o_call hf Tryd.en_26 rfl rfl rfl (c26 d sa sb ca cb _ (hA1.ext hh.ext) (hB1.ext hh.ext) (by omega) (by omega)) ?_; clear hf a; intro v a w hR hf
    obtain ⟨rfl, hx⟩ := hR; replace hh := hh.more hx; clear hx
    refine o_v hf hh (yv_not rfl) ?_; clear hf a; intro a hf
    refine o_v hf hh (y_pf rfl rfl) ?_; clear hf a; intro a hf
    refine o_v hf hh (yv_move rfl) ?_; clear hf a; intro a hf
    refine o_v hf hh (yv_move rfl) ?_; clear hf a; intro a hf
    refine o_v hf hh (yv_bin rfl rfl rfl) ?_; clear hf a; intro a hf
    refine o_v hf hh (y_pf rfl rfl) ?_; clear hf a; intro a hf
    refine o_v hf hh (yv_move rfl) ?_; clear hf a; intro a hf
    refine o_v hf hh (yv_move rfl) ?_; clear hf a; intro a hf
    refine o_v hf hh (yv_fieldAddr Tryd.fo_26_3 rfl) ?_; clear hf a; intro a hf
    refine o_v hf hh (y_ld Tryd.sc_3 rfl) ?_; clear hf a; intro a hf
    refine o_v hf hh (yv_bin rfl rfl rfl) ?_; clear hf a; intro a hf
    refine o_v hf hh (y_pf rfl rfl) ?_; clear hf a; intro a hf
    refine o_v hf hh (yv_move rfl) ?_; clear hf a; intro a hf
    refine o_v hf hh (yv_move rfl) ?_; clear hf a; intro a hf
    refine o_v hf hh (yv_fieldAddr Tryd.fo_26_0 rfl) ?_; clear hf a; intro a hf
    refine o_v hf hh (y_ld Tryd.sc_22 rfl) ?_; clear hf a; intro a hf
    refine o_v hf hh (yv_len Tryd.se_22 rfl) ?_; clear hf a; intro a hf
    refine o_v hf hh (yv_fieldAddr Tryd.fo_26_1 rfl) ?_; clear hf a; intro a hf
    refine o_v hf hh (y_ld Tryd.sc_22 rfl) ?_; clear hf a; intro a hf
    refine o_v hf hh (yv_len Tryd.se_22 rfl) ?_; clear hf a; intro a hf
    refine o_v hf hh (y_add rfl rfl) ?_; clear hf a; intro a hf
    refine o_v hf hh (yv_move rfl) ?_; clear hf a; intro a hf
    refine o_v hf hh (yv_len Tryd.se_34 rfl) ?_; clear hf a; intro a hf
    refine o_v hf hh (y_mul rfl rfl) ?_; clear hf a; intro a hf
    refine o_v hf hh (y_sub rfl rfl) ?_; clear hf a; intro a hf
    refine o_v hf hh (yv_bin rfl rfl rfl) ?_; clear hf a; intro a hf
    refine o_v hf hh (y_pf rfl rfl) ?_; clear hf a; intro a hf
    refine o_end ?_
    refine c_f hf ?_
    refine sy_skip ?_
    refine then_n ?_
    refine sy_seq ?_
    refine sy_sq ?_
    refine o_v hf hh (yv_move rfl) ?_; clear hf a; intro a hf
    refine o_v hf hh (yv_len Tryd.se_34 rfl) ?_; clear hf a; intro a hf
    refine o_v hf hh (yv_move rfl) ?_; clear hf a; intro a hf
    refine o_end ?_
    refine sy_block ?_
    refine sy_loopF (σ := Nat) [4, 10, 11, 12, 13, 121, 122, 123, 124, 125, 126, 127, 128, 129, 130, 131, 132, 133, 134, 135, 136, 137, 138, 139, 140, 141, 142, 143, 144, 145, 146, 147, 148, 149, 150, 151, 152, 153, 154, 155, 156, 157, 158, 159, 160, 161, 162, 163, 164, 165, 166, 167] (fun i => [(121, .int .i64 i)]) (fun i => i ≤ (fewL d).length) (fun i => (fewL d).length - i) (0) hf hh ?_ ?_ ?_
    · repeat' (first | exact True.intro | refine And.intro rfl ?_)
    · first | exact True.intro | omega | (simp; omega) | simp
    ·rintro i a w hi hf hh
     refine sy_sq ?_
     refine o_v hf hh (yv_bin rfl rfl rfl) ?_; clear hf a; intro a hf
     refine o_end ?_
     refine sy_seq ?_
     refine sy_cond hf rfl (fun hg33 => ?_) (fun hg33 => ?_)
     ·have hG33 := hg33; try simp only [gS] at hG33
      refine sy_skip ?_
      refine then_n ?_
      refine sy_seq ?_
      refine sy_block ?_
      refine sy_seq ?_
      obtain ⟨p, hp⟩ := ex_of (l := fewL d) (i := i) (by omega)
      obtain ⟨blk, off, c, Tc, fr, e1, hbx, hcx⟩ := vals_pair hvl (i := i) (by omega)
      subst e1
      obtain ⟨gp, _, _⟩ := pair_cells hcx hp
      have hpf := few_pair hop hp
      have hft := fits_ok hok hpf.1 hpf.2.1
      have hprev : 0 < i → ∃ q : Pr, c[off + ((i : Int) - 1).toNat * 2 + (0 : Int).toNat * 1]? = some (.int .i64 q.1) ∧ c[off + ((i : Int) - 1).toNat * 2 + (1 : Int).toNat * 1]? = some (.int .i64 q.2) ∧ q.1 < p.1 ∧ q.2 < p.2 := fun h0 => by
        obtain ⟨j, rfl⟩ : ∃ j, i = j + 1 := ⟨i - 1, by omega⟩
        obtain ⟨q, hq⟩ := ex_of (l := fewL d) (i := j) (by omega)
        obtain ⟨_, g1, g2⟩ := pair_cells hcx hq
        have hinc := few_inc hop hq hp
        rw [show (((j + 1 : Nat) : Int) - 1) = ((j : Nat) : Int) by omega]
        exact ⟨q, g1, g2, hinc⟩
      refine sy_ops ?_
      refine o_v hf hh (yv_move rfl) ?_; clear hf a; intro a hf
      refine o_v hf hh (y_ix Tryd.se_34 rfl rfl) ?_; clear hf a; intro a hf
      refine o_v hf hh (y_lds Tryd.ag_45 rfl) ?_; clear hf a; intro a hf
      refine o_alloc hf hh Tryd.ze_45 ?_; clear hf hh a; intro B11 a w hf hh
      refine o_v hf hh (yv_assign rfl) ?_; clear hf a; intro a hf
      refine o_store hf hh Tryd.sz_45 fun w hh => ?_
      refine o_end ?_
      refine sy_sq ?_
      refine o_v hf hh (y_lds Tryd.ag_26 rfl) ?_; clear hf a; intro a hf
      refine o_v hf hh (y_ia Tryd.ae_45 rfl rfl) ?_; clear hf a; intro a hf
      refine o_v hf hh (y_ld Tryd.sc_3 rfl) ?_; clear hf a; intro a hf
      refine o_v hf hh (y_ia Tryd.ae_45 rfl rfl) ?_; clear hf a; intro a hf
      refine o_v hf hh (y_ld Tryd.sc_3 rfl) ?_; clear hf a; intro a hf
      refine o_call hf Tryd.en_15 rfl rfl rfl (c15 d sa sb ca cb _ (hA1.ext hh.ext) (hB1.ext hh.ext) p.1 p.2 (by omega) (by omega)) ?_; clear hf a; intro v a w hR hf
      rw [hft.1, hft.2, hpf.2.2] at hR
      obtain ⟨rfl, hx⟩ := hR; replace hh := hh.more hx; clear hx
      refine o_v hf hh (yv_move rfl) ?_; clear hf a; intro a hf
      refine o_v hf hh (yv_extract rfl rfl) ?_; clear hf a; intro a hf
      refine o_v hf hh (yv_extract rfl rfl) ?_; clear hf a; intro a hf
      refine o_v hf hh (yv_assign rfl) ?_; clear hf a; intro a hf
      refine o_v hf hh (yv_assign rfl) ?_; clear hf a; intro a hf
      refine o_end ?_
      refine sy_seq ?_
      refine sy_quiet (C := Hp _ _ _) Tryd.follows (by kernel_rfl) (hh.drawn _) ?_
      refine oq_v hf (yv_move rfl) ?_; clear hf a; intro a hf
      refine oq_v hf (yv_not rfl) ?_; clear hf a; intro a hf
      refine oq_v hf (yv_move rfl) ?_; clear hf a; intro a hf
      refine oq_v hf (yv_move rfl) ?_; clear hf a; intro a hf
      refine oq_v hf (yv_bin rfl rfl rfl) ?_; clear hf a; intro a hf
      refine oq_v hf (y_pf rfl rfl) ?_; clear hf a; intro a hf
      refine oq_v hf (yv_move rfl) ?_; clear hf a; intro a hf
      refine oq_v hf (yv_move rfl) ?_; clear hf a; intro a hf
      refine oq_v hf (yv_bin rfl rfl rfl) ?_; clear hf a; intro a hf
      refine oq_v hf (yv_move rfl) ?_; clear hf a; intro a hf
      refine guard_splitq hf (t := 144) rfl (fun hg39 => ?_) (fun hg39 => ?_)
      ·have hG39 := hg39; try simp only [gS] at hG39
       obtain ⟨q, gq1, gq2, hq1, hq2⟩ := hprev (by omega)
       refine oq_v hf (y_ia Tryd.ae_45 rfl rfl) ?_; clear hf a; intro a hf
       refine oq_v hf (y_ld Tryd.sc_3 rfl) ?_; clear hf a; intro a hf
       refine oq_v hf (yv_move rfl) ?_; clear hf a; intro a hf
       refine oq_v hf (yv_move rfl) ?_; clear hf a; intro a hf
       refine oq_v hf (y_sub rfl rfl) ?_; clear hf a; intro a hf
       refine oq_v hf (y_ix Tryd.se_34 rfl rfl) ?_; clear hf a; intro a hf
       refine oq_v hf (y_ia Tryd.ae_45 rfl rfl) ?_; clear hf a; intro a hf
       refine oq_v hf (y_ld Tryd.sc_3 rfl) ?_; clear hf a; intro a hf
       refine oq_v hf (yv_bin rfl rfl rfl) ?_; clear hf a; intro a hf
       refine oq_v hf (yv_move rfl) ?_; clear hf a; intro a hf
       refine oq_v hf (y_ia Tryd.ae_45 rfl rfl) ?_; clear hf a; intro a hf
       refine oq_v hf (y_ld Tryd.sc_3 rfl) ?_; clear hf a; intro a hf
       refine oq_v hf (yv_move rfl) ?_; clear hf a; intro a hf
       refine oq_v hf (yv_move rfl) ?_; clear hf a; intro a hf
       refine oq_v hf (y_sub rfl rfl) ?_; clear hf a; intro a hf
       refine oq_v hf (y_ix Tryd.se_34 rfl rfl) ?_; clear hf a; intro a hf
       refine oq_v hf (y_ia Tryd.ae_45 rfl rfl) ?_; clear hf a; intro a hf
       refine oq_v hf (y_ld Tryd.sc_3 rfl) ?_; clear hf a; intro a hf
       refine oq_v hf (yv_bin rfl rfl rfl) ?_; clear hf a; intro a hf
       refine oq_v hf (y_pf rfl rfl) ?_; clear hf a; intro a hf
       refine oq_v hf (y_pt rfl rfl) ?_; clear hf a; intro a hf
       refine oq_v hf (y_pf rfl rfl) ?_; clear hf a; intro a hf
       refine q_end fun w hh => ?_
       refine then_n ?_
       refine c_f hf ?_
       refine sy_skip ?_
       refine blk_n ?_
       refine then_n ?_
       refine sy_ops ?_
       refine o_v hf hh (y_add rfl rfl) ?_; clear hf a; intro a hf
       refine o_v hf hh (yv_move rfl) ?_; clear hf a; intro a hf
       refine ops_end ?_
       refine then_n ?_
       exact ⟨i + 1, ⟨by omega, (hf.head (by repeat' (first | exact True.intro | refine And.intro rfl ?_)) (Keep.cons rfl (Keep.cons rfl (Keep.cons rfl (Keep.cons rfl (Keep.cons rfl (Keep.cons rfl (Keep.cons rfl (Keep.cons rfl (Keep.cons rfl (Keep.cons rfl (Keep.cons rfl (Keep.cons rfl (Keep.cons rfl (Keep.cons rfl (Keep.cons rfl (Keep.cons rfl (Keep.cons rfl (Keep.cons rfl (Keep.cons rfl (Keep.cons rfl (Keep.cons rfl (Keep.cons rfl (Keep.cons rfl (Keep.cons rfl (Keep.cons rfl (Keep.cons rfl (Keep.cons rfl (Keep.cons rfl (Keep.cons rfl (Keep.cons rfl (Keep.cons rfl (Keep.cons rfl (Keep.cons rfl (Keep.cons rfl (Keep.cons rfl (Keep.cons rfl (Keep.cons rfl (Keep.cons rfl (Keep.cons rfl (Keep.cons rfl (Keep.cons rfl (Keep.cons rfl (Keep.cons rfl (Keep.cons rfl (Keep.cons rfl (Keep.cons rfl (Keep.cons rfl (Keep.cons rfl (Keep.cons rfl (Keep.cons rfl (Keep.cons rfl (Keep.app rfl (Keep.rm rfl Keep.base)))))))))))))))))))))))))))))))))))))))))))))))))))))), hh.less (.cons _ (List.Sublist.refl _))⟩, by omega⟩
      ·have hG39 := hg39; try simp only [gS] at hG39
       refine oq_off hf ?_; clear hf a; intro a hf
       refine oq_off hf ?_; clear hf a; intro a hf
       refine oq_off hf ?_; clear hf a; intro a hf
       refine oq_off hf ?_; clear hf a; intro a hf
       refine oq_off hf ?_; clear hf a; intro a hf
       refine oq_off hf ?_; clear hf a; intro a hf
       refine oq_off hf ?_; clear hf a; intro a hf
       refine oq_off hf ?_; clear hf a; intro a hf
       refine oq_off hf ?_; clear hf a; intro a hf
       refine oq_off hf ?_; clear hf a; intro a hf
       refine oq_off hf ?_; clear hf a; intro a hf
       refine oq_off hf ?_; clear hf a; intro a hf
       refine oq_off hf ?_; clear hf a; intro a hf
       refine oq_off hf ?_; clear hf a; intro a hf
       refine oq_off hf ?_; clear hf a; intro a hf
       refine oq_off hf ?_; clear hf a; intro a hf
       refine oq_off hf ?_; clear hf a; intro a hf
       refine oq_off hf ?_; clear hf a; intro a hf
       refine oq_off hf ?_; clear hf a; intro a hf
       refine oq_off hf ?_; clear hf a; intro a hf
       refine oq_v hf (y_pf rfl rfl) ?_; clear hf a; intro a hf
       refine oq_v hf (y_pf rfl rfl) ?_; clear hf a; intro a hf
       refine q_end fun w hh => ?_
       refine then_n ?_
       refine c_f hf ?_
       refine sy_skip ?_
       refine blk_n ?_
       refine then_n ?_
       refine sy_ops ?_
       refine o_v hf hh (y_add rfl rfl) ?_; clear hf a; intro a hf
       refine o_v hf hh (yv_move rfl) ?_; clear hf a; intro a hf
       refine ops_end ?_
       refine then_n ?_
       exact ⟨i + 1, ⟨by omega, (hf.head (by repeat' (first | exact True.intro | refine And.intro rfl ?_)) (Keep.cons rfl (Keep.cons rfl (Keep.cons rfl (Keep.cons rfl (Keep.cons rfl (Keep.cons rfl (Keep.cons rfl (Keep.cons rfl (Keep.cons rfl (Keep.cons rfl (Keep.cons rfl (Keep.cons rfl (Keep.cons rfl (Keep.cons rfl (Keep.cons rfl (Keep.cons rfl (Keep.cons rfl (Keep.cons rfl (Keep.cons rfl (Keep.cons rfl (Keep.cons rfl (Keep.cons rfl (Keep.cons rfl (Keep.cons rfl (Keep.cons rfl (Keep.cons rfl (Keep.cons rfl (Keep.cons rfl (Keep.cons rfl (Keep.cons rfl (Keep.cons rfl (Keep.cons rfl (Keep.cons rfl (Keep.cons rfl (Keep.cons rfl (Keep.cons rfl (Keep.cons rfl (Keep.cons rfl (Keep.cons rfl (Keep.cons rfl (Keep.cons rfl (Keep.cons rfl (Keep.cons rfl (Keep.cons rfl (Keep.cons rfl (Keep.cons rfl (Keep.cons rfl (Keep.cons rfl (Keep.cons rfl (Keep.cons rfl (Keep.cons rfl (Keep.app rfl (Keep.rm rfl Keep.base)))))))))))))))))))))))))))))))))))))))))))))))))))))), hh.less (.cons _ (List.Sublist.refl _))⟩, by omega⟩
     ·have hG33 := hg33; try simp only [gS] at hG33
      refine sy_exit ?_
      refine then_e ?_
      refine then_e ?_
      refine blk_e ?_
      refine then_n ?_
      refine sy_sq ?_
      refine o_v hf hh (yv_assign rfl) ?_; clear hf a; intro a hf
      refine o_end ?_
      refine sy_sq ?_
      refine o_v hf hh (yv_assign rfl) ?_; clear hf a; intro a hf
      refine o_v hf hh (yv_assign rfl) ?_; clear hf a; intro a hf
      refine o_end ?_
      refine sy_seq ?_
      refine sy_sq ?_
      refine o_v hf hh (yv_move rfl) ?_; clear hf a; intro a hf
      refine o_v hf hh (yv_len Tryd.se_43 rfl) ?_; clear hf a; intro a hf
      refine o_v hf hh (yv_move rfl) ?_; clear hf a; intro a hf
      refine o_end ?_
      refine sy_block ?_
      refine sy_loopH (σ := FS2) [4, 14, 15, 16, 18, 19, 20, 170, 171, 172, 173, 174, 175, 176, 177, 178, 179, 180, 181, 182, 183, 184, 185, 186, 187, 188, 189, 190, 191, 192, 193, 194, 195, 196, 197, 198, 199, 200, 201, 202, 203, 204, 205, 206, 207, 208, 209, 210, 211, 212, 213, 214, 215, 216, 217, 218, 219] (fun s => [(14, s.v), (15, .int .i64 s.x), (16, .int .i64 s.y), (170, .int .i64 s.j)]) (fun s => fun w' => s.j ≤ m.length ∧ s.x ≤ d.l.length ∧ s.y ≤ d.r.length ∧ Ch (fitD d) d.l.length d.r.length 0 0 s.oth ∧ (∀ p ∈ s.oth, p.1 < s.x ∧ p.2 < s.y) ∧ OwnSl 45 2 s.v s.oth.length (encP s.oth) s.X ∧ Hp u1 [] (s.X ++ []) w') (fun s => m.length - s.j) (⟨0, 0, 0, [], .slice none 0 0, []⟩) hf ?_ ?_ ?_
      · exact ⟨rfl, rfl, rfl, rfl, True.intro⟩
      · exact ⟨Nat.zero_le _, Nat.zero_le _, Nat.zero_le _, trivial, by simp, OwnSl.nil _ _, hh⟩
      ·rintro s a w ⟨hj, hx, hy, hch, hbd, hoth, hh⟩ hf
       obtain ⟨j, x, y, oth, vo, X⟩ := s
       simp only at hj hx hy hch hbd hoth hh hf ⊢
       refine sy_sq ?_
       refine o_v hf hh (yv_bin rfl rfl rfl) ?_; clear hf a; intro a hf
       refine o_end ?_
       refine sy_seq ?_
       refine sy_cond hf rfl (fun hg44 => ?_) (fun hg44 => ?_)
       ·have hG44 := hg44; try simp only [gS] at hG44
        refine sy_skip ?_
        refine then_n ?_
        refine sy_seq ?_
        refine sy_block ?_
        refine sy_seq ?_
        obtain ⟨z, blky, offy, cy2, Ty, fry, hz, ey, hby, hcy⟩ := u8_at hY1 (j := j) (by omega)
        subst ey
        have hzb := hmb z (List.mem_of_getElem? hz)
        refine sy_ops ?_
        refine o_v hf hh (y_ix Tryd.se_43 rfl rfl) ?_; clear hf a; intro a hf
        refine o_v hf hh (y_ld Tryd.sc_5 rfl) ?_; clear hf a; intro a hf
        refine o_v hf hh (yv_assign rfl) ?_; clear hf a; intro a hf
        refine o_end ?_
        refine sy_block ?_
        refine sy_sq ?_
        refine o_v hf hh (yv_move rfl) ?_; clear hf a; intro a hf
        refine o_v hf hh (yv_fieldAddr Tryd.fo_26_0 rfl) ?_; clear hf a; intro a hf
        refine o_v hf hh (y_ld Tryd.sc_22 rfl) ?_; clear hf a; intro a hf
        refine o_v hf hh (yv_len Tryd.se_22 rfl) ?_; clear hf a; intro a hf
        refine o_v hf hh (yv_bin rfl rfl rfl) ?_; clear hf a; intro a hf
        refine o_v hf hh (yv_move rfl) ?_; clear hf a; intro a hf
        refine guard_split hf (t := 200) rfl (fun hg46 => ?_) (fun hg46 => ?_)
        ·have hG46 := hg46; try simp only [gS] at hG46
         refine o_off hf ?_; clear hf a; intro a hf
         refine o_off hf ?_; clear hf a; intro a hf
         refine o_off hf ?_; clear hf a; intro a hf
         refine o_off hf ?_; clear hf a; intro a hf
         refine o_off hf ?_; clear hf a; intro a hf
         refine o_v hf hh (y_pt rfl rfl) ?_; clear hf a; intro a hf
         refine o_v hf hh (yv_assign rfl) ?_; clear hf a; intro a hf
         refine o_end ?_
         refine c_t hf ?_
         refine sy_skip ?_
         refine blk_n ?_
         refine blk_n ?_
         refine then_n ?_
         refine sy_ops ?_
         refine o_v hf hh (y_add rfl rfl) ?_; clear hf a; intro a hf
         refine o_v hf hh (yv_move rfl) ?_; clear hf a; intro a hf
         refine ops_end ?_
         refine then_n ?_
         first
           | exact ⟨⟨j + 1, x, y, oth, vo, X⟩, ⟨⟨by simp only; omega, hx, hy, hch, hbd, hoth, hh⟩, hf.head ⟨rfl, rfl, rfl, rfl, True.intro⟩ (Keep.cons rfl (Keep.cons rfl (Keep.cons rfl (Keep.cons rfl (Keep.cons rfl (Keep.cons rfl (Keep.cons rfl (Keep.cons rfl (Keep.cons rfl (Keep.cons rfl (Keep.cons rfl (Keep.cons rfl (Keep.cons rfl (Keep.cons rfl (Keep.cons rfl (Keep.cons rfl (Keep.cons rfl (Keep.cons rfl (Keep.cons rfl (Keep.app rfl (Keep.rm rfl Keep.base)))))))))))))))))))))⟩, by simp only; omega⟩
           | exact ⟨⟨j + 1, x + 1, y, oth, vo, X⟩, ⟨⟨by simp only; omega, by simp only; omega, hy, hch, fun p hp => ⟨by have := (hbd p hp).1; simp only; omega, (hbd p hp).2⟩, hoth, hh⟩, hf.head ⟨rfl, rfl, rfl, rfl, True.intro⟩ (Keep.cons rfl (Keep.cons rfl (Keep.cons rfl (Keep.cons rfl (Keep.cons rfl (Keep.cons rfl (Keep.cons rfl (Keep.cons rfl (Keep.cons rfl (Keep.cons rfl (Keep.cons rfl (Keep.cons rfl (Keep.cons rfl (Keep.cons rfl (Keep.cons rfl (Keep.cons rfl (Keep.cons rfl (Keep.cons rfl (Keep.cons rfl (Keep.app rfl (Keep.rm rfl Keep.base)))))))))))))))))))))⟩, by simp only; omega⟩
           | exact ⟨⟨j + 1, x, y + 1, oth, vo, X⟩, ⟨⟨by simp only; omega, hx, by simp only; omega, hch, fun p hp => ⟨(hbd p hp).1, by have := (hbd p hp).2; simp only; omega⟩, hoth, hh⟩, hf.head ⟨rfl, rfl, rfl, rfl, True.intro⟩ (Keep.cons rfl (Keep.cons rfl (Keep.cons rfl (Keep.cons rfl (Keep.cons rfl (Keep.cons rfl (Keep.cons rfl (Keep.cons rfl (Keep.cons rfl (Keep.cons rfl (Keep.cons rfl (Keep.cons rfl (Keep.cons rfl (Keep.cons rfl (Keep.cons rfl (Keep.cons rfl (Keep.cons rfl (Keep.cons rfl (Keep.cons rfl (Keep.app rfl (Keep.rm rfl Keep.base)))))))))))))))))))))⟩, by simp only; omega⟩
           | exact ⟨⟨j + 1, x + 1, y + 1, oth ++ [(x, y)], v3, X3⟩, ⟨⟨by simp only; omega, by simp only; omega, by simp only; omega, hch2, fun p hp => by
               simp only
               rcases List.mem_append.1 hp with hp | hp
               · have := hbd p hp; omega
               · rw [List.mem_singleton] at hp; subst hp; simp only; omega, by simp only [List.length_append, List.length_singleton, encP_snoc]; exact hoth3, hh⟩, hf.head ⟨rfl, rfl, rfl, rfl, True.intro⟩ (Keep.cons rfl (Keep.cons rfl (Keep.cons rfl (Keep.cons rfl (Keep.cons rfl (Keep.cons rfl (Keep.cons rfl (Keep.cons rfl (Keep.cons rfl (Keep.cons rfl (Keep.cons rfl (Keep.cons rfl (Keep.cons rfl (Keep.cons rfl (Keep.cons rfl (Keep.cons rfl (Keep.cons rfl (Keep.cons rfl (Keep.cons rfl (Keep.app rfl (Keep.rm rfl Keep.base)))))))))))))))))))))⟩, by simp only; omega⟩
        ·have hG46 := hg46; try simp only [gS] at hG46
         refine o_v hf hh (yv_move rfl) ?_; clear hf a; intro a hf
         refine o_v hf hh (yv_fieldAddr Tryd.fo_26_1 rfl) ?_; clear hf a; intro a hf
         refine o_v hf hh (y_ld Tryd.sc_22 rfl) ?_; clear hf a; intro a hf
         refine o_v hf hh (yv_len Tryd.se_22 rfl) ?_; clear hf a; intro a hf
         refine o_v hf hh (yv_bin rfl rfl rfl) ?_; clear hf a; intro a hf
         refine o_v hf hh (y_pf rfl rfl) ?_; clear hf a; intro a hf
         refine o_v hf hh (yv_assign rfl) ?_; clear hf a; intro a hf
         refine o_end ?_
         refine sy_cond hf rfl (fun hg48 => ?_) (fun hg48 => ?_)
         ·have hG48 := hg48; try simp only [gS] at hG48
          refine sy_skip ?_
          refine blk_n ?_
          refine blk_n ?_
          refine then_n ?_
          refine sy_ops ?_
          refine o_v hf hh (y_add rfl rfl) ?_; clear hf a; intro a hf
          refine o_v hf hh (yv_move rfl) ?_; clear hf a; intro a hf
          refine ops_end ?_
          refine then_n ?_
          first
            | exact ⟨⟨j + 1, x, y, oth, vo, X⟩, ⟨⟨by simp only; omega, hx, hy, hch, hbd, hoth, hh⟩, hf.head ⟨rfl, rfl, rfl, rfl, True.intro⟩ (Keep.cons rfl (Keep.cons rfl (Keep.cons rfl (Keep.cons rfl (Keep.cons rfl (Keep.cons rfl (Keep.cons rfl (Keep.cons rfl (Keep.cons rfl (Keep.cons rfl (Keep.cons rfl (Keep.cons rfl (Keep.cons rfl (Keep.cons rfl (Keep.cons rfl (Keep.cons rfl (Keep.cons rfl (Keep.cons rfl (Keep.cons rfl (Keep.app rfl (Keep.rm rfl Keep.base)))))))))))))))))))))⟩, by simp only; omega⟩
            | exact ⟨⟨j + 1, x + 1, y, oth, vo, X⟩, ⟨⟨by simp only; omega, by simp only; omega, hy, hch, fun p hp => ⟨by have := (hbd p hp).1; simp only; omega, (hbd p hp).2⟩, hoth, hh⟩, hf.head ⟨rfl, rfl, rfl, rfl, True.intro⟩ (Keep.cons rfl (Keep.cons rfl (Keep.cons rfl (Keep.cons rfl (Keep.cons rfl (Keep.cons rfl (Keep.cons rfl (Keep.cons rfl (Keep.cons rfl (Keep.cons rfl (Keep.cons rfl (Keep.cons rfl (Keep.cons rfl (Keep.cons rfl (Keep.cons rfl (Keep.cons rfl (Keep.cons rfl (Keep.cons rfl (Keep.cons rfl (Keep.app rfl (Keep.rm rfl Keep.base)))))))))))))))))))))⟩, by simp only; omega⟩
            | exact ⟨⟨j + 1, x, y + 1, oth, vo, X⟩, ⟨⟨by simp only; omega, hx, by simp only; omega, hch, fun p hp => ⟨(hbd p hp).1, by have := (hbd p hp).2; simp only; omega⟩, hoth, hh⟩, hf.head ⟨rfl, rfl, rfl, rfl, True.intro⟩ (Keep.cons rfl (Keep.cons rfl (Keep.cons rfl (Keep.cons rfl (Keep.cons rfl (Keep.cons rfl (Keep.cons rfl (Keep.cons rfl (Keep.cons rfl (Keep.cons rfl (Keep.cons rfl (Keep.cons rfl (Keep.cons rfl (Keep.cons rfl (Keep.cons rfl (Keep.cons rfl (Keep.cons rfl (Keep.cons rfl (Keep.cons rfl (Keep.app rfl (Keep.rm rfl Keep.base)))))))))))))))))))))⟩, by simp only; omega⟩
            | exact ⟨⟨j + 1, x + 1, y + 1, oth ++ [(x, y)], v3, X3⟩, ⟨⟨by simp only; omega, by simp only; omega, by simp only; omega, hch2, fun p hp => by
                simp only
                rcases List.mem_append.1 hp with hp | hp
                · have := hbd p hp; omega
                · rw [List.mem_singleton] at hp; subst hp; simp only; omega, by simp only [List.length_append, List.length_singleton, encP_snoc]; exact hoth3, hh⟩, hf.head ⟨rfl, rfl, rfl, rfl, True.intro⟩ (Keep.cons rfl (Keep.cons rfl (Keep.cons rfl (Keep.cons rfl (Keep.cons rfl (Keep.cons rfl (Keep.cons rfl (Keep.cons rfl (Keep.cons rfl (Keep.cons rfl (Keep.cons rfl (Keep.cons rfl (Keep.cons rfl (Keep.cons rfl (Keep.cons rfl (Keep.cons rfl (Keep.cons rfl (Keep.cons rfl (Keep.cons rfl (Keep.app rfl (Keep.rm rfl Keep.base)))))))))))))))))))))⟩, by simp only; omega⟩
         ·have hG48 := hg48; try simp only [gS] at hG48
          refine sy_sq ?_
          refine o_v hf hh (yv_move rfl) ?_; clear hf a; intro a hf
          refine o_v hf hh (yv_remk rfl rfl (by omega) (by omega)) ?_; clear hf a; intro a hf
          refine o_v hf hh (yv_bin rfl rfl rfl) ?_; clear hf a; intro a hf
          refine o_v hf hh (yv_assign rfl) ?_; clear hf a; intro a hf
          refine o_end ?_
          refine sy_cond hf rfl (fun hg51 => ?_) (fun hg51 => ?_)
          ·have hG51 := hg51; try simp only [gS] at hG51
           refine sy_ops ?_
           refine o_v hf hh (yv_move rfl) ?_; clear hf a; intro a hf
           refine ops_v hf hh (yv_cast (yv_add rfl rfl (by omega) (by omega)) (intv (b := ((x + 1 : Nat) : Int)) (by omega))) (.inl rfl) rfl rfl rfl ?_; clear hf a; intro a hf
           refine o_v hf hh (yv_assign rfl) ?_; clear hf a; intro a hf
           refine ops_end ?_
           refine blk_n ?_
           refine blk_n ?_
           refine then_n ?_
           refine sy_ops ?_
           refine o_v hf hh (y_add rfl rfl) ?_; clear hf a; intro a hf
           refine o_v hf hh (yv_move rfl) ?_; clear hf a; intro a hf
           refine ops_end ?_
           refine then_n ?_
           first
             | exact ⟨⟨j + 1, x, y, oth, vo, X⟩, ⟨⟨by simp only; omega, hx, hy, hch, hbd, hoth, hh⟩, hf.head ⟨rfl, rfl, rfl, rfl, True.intro⟩ (Keep.cons rfl (Keep.cons rfl (Keep.cons rfl (Keep.cons rfl (Keep.cons rfl (Keep.cons rfl (Keep.cons rfl (Keep.cons rfl (Keep.cons rfl (Keep.cons rfl (Keep.cons rfl (Keep.cons rfl (Keep.cons rfl (Keep.cons rfl (Keep.cons rfl (Keep.cons rfl (Keep.cons rfl (Keep.cons rfl (Keep.cons rfl (Keep.cons rfl (Keep.cons rfl (Keep.cons rfl (Keep.cons rfl (Keep.cons rfl (Keep.cons rfl (Keep.cons rfl (Keep.app rfl (Keep.rm rfl Keep.base))))))))))))))))))))))))))))⟩, by simp only; omega⟩
             | exact ⟨⟨j + 1, x + 1, y, oth, vo, X⟩, ⟨⟨by simp only; omega, by simp only; omega, hy, hch, fun p hp => ⟨by have := (hbd p hp).1; simp only; omega, (hbd p hp).2⟩, hoth, hh⟩, hf.head ⟨rfl, rfl, rfl, rfl, True.intro⟩ (Keep.cons rfl (Keep.cons rfl (Keep.cons rfl (Keep.cons rfl (Keep.cons rfl (Keep.cons rfl (Keep.cons rfl (Keep.cons rfl (Keep.cons rfl (Keep.cons rfl (Keep.cons rfl (Keep.cons rfl (Keep.cons rfl (Keep.cons rfl (Keep.cons rfl (Keep.cons rfl (Keep.cons rfl (Keep.cons rfl (Keep.cons rfl (Keep.cons rfl (Keep.cons rfl (Keep.cons rfl (Keep.cons rfl (Keep.cons rfl (Keep.cons rfl (Keep.cons rfl (Keep.app rfl (Keep.rm rfl Keep.base))))))))))))))))))))))))))))⟩, by simp only; omega⟩
             | exact ⟨⟨j + 1, x, y + 1, oth, vo, X⟩, ⟨⟨by simp only; omega, hx, by simp only; omega, hch, fun p hp => ⟨(hbd p hp).1, by have := (hbd p hp).2; simp only; omega⟩, hoth, hh⟩, hf.head ⟨rfl, rfl, rfl, rfl, True.intro⟩ (Keep.cons rfl (Keep.cons rfl (Keep.cons rfl (Keep.cons rfl (Keep.cons rfl (Keep.cons rfl (Keep.cons rfl (Keep.cons rfl (Keep.cons rfl (Keep.cons rfl (Keep.cons rfl (Keep.cons rfl (Keep.cons rfl (Keep.cons rfl (Keep.cons rfl (Keep.cons rfl (Keep.cons rfl (Keep.cons rfl (Keep.cons rfl (Keep.cons rfl (Keep.cons rfl (Keep.cons rfl (Keep.cons rfl (Keep.cons rfl (Keep.cons rfl (Keep.cons rfl (Keep.app rfl (Keep.rm rfl Keep.base))))))))))))))))))))))))))))⟩, by simp only; omega⟩
             | exact ⟨⟨j + 1, x + 1, y + 1, oth ++ [(x, y)], v3, X3⟩, ⟨⟨by simp only; omega, by simp only; omega, by simp only; omega, hch2, fun p hp => by
                 simp only
                 rcases List.mem_append.1 hp with hp | hp
                 · have := hbd p hp; omega
                 · rw [List.mem_singleton] at hp; subst hp; simp only; omega, by simp only [List.length_append, List.length_singleton, encP_snoc]; exact hoth3, hh⟩, hf.head ⟨rfl, rfl, rfl, rfl, True.intro⟩ (Keep.cons rfl (Keep.cons rfl (Keep.cons rfl (Keep.cons rfl (Keep.cons rfl (Keep.cons rfl (Keep.cons rfl (Keep.cons rfl (Keep.cons rfl (Keep.cons rfl (Keep.cons rfl (Keep.cons rfl (Keep.cons rfl (Keep.cons rfl (Keep.cons rfl (Keep.cons rfl (Keep.cons rfl (Keep.cons rfl (Keep.cons rfl (Keep.cons rfl (Keep.cons rfl (Keep.cons rfl (Keep.cons rfl (Keep.cons rfl (Keep.cons rfl (Keep.cons rfl (Keep.app rfl (Keep.rm rfl Keep.base))))))))))))))))))))))))))))⟩, by simp only; omega⟩
          ·have hG51 := hg51; try simp only [gS] at hG51
           refine sy_sq ?_
           refine o_v hf hh (yv_move rfl) ?_; clear hf a; intro a hf
           refine o_v hf hh (yv_remk rfl rfl (by omega) (by omega)) ?_; clear hf a; intro a hf
           refine o_v hf hh (yv_bin rfl rfl rfl) ?_; clear hf a; intro a hf
           refine o_v hf hh (yv_assign rfl) ?_; clear hf a; intro a hf
           refine o_end ?_
           refine sy_cond hf rfl (fun hg55 => ?_) (fun hg55 => ?_)
           ·have hG55 := hg55; try simp only [gS] at hG55
            refine sy_ops ?_
            refine o_v hf hh (yv_move rfl) ?_; clear hf a; intro a hf
            refine ops_v hf hh (yv_cast (yv_add rfl rfl (by omega) (by omega)) (intv (b := ((y + 1 : Nat) : Int)) (by omega))) (.inl rfl) rfl rfl rfl ?_; clear hf a; intro a hf
            refine o_v hf hh (yv_assign rfl) ?_; clear hf a; intro a hf
            refine ops_end ?_
            refine blk_n ?_
            refine blk_n ?_
            refine then_n ?_
            refine sy_ops ?_
            refine o_v hf hh (y_add rfl rfl) ?_; clear hf a; intro a hf
            refine o_v hf hh (yv_move rfl) ?_; clear hf a; intro a hf
            refine ops_end ?_
            refine then_n ?_
            first
              | exact ⟨⟨j + 1, x, y, oth, vo, X⟩, ⟨⟨by simp only; omega, hx, hy, hch, hbd, hoth, hh⟩, hf.head ⟨rfl, rfl, rfl, rfl, True.intro⟩ (Keep.cons rfl (Keep.cons rfl (Keep.cons rfl (Keep.cons rfl (Keep.cons rfl (Keep.cons rfl (Keep.cons rfl (Keep.cons rfl (Keep.cons rfl (Keep.cons rfl (Keep.cons rfl (Keep.cons rfl (Keep.cons rfl (Keep.cons rfl (Keep.cons rfl (Keep.cons rfl (Keep.cons rfl (Keep.cons rfl (Keep.cons rfl (Keep.cons rfl (Keep.cons rfl (Keep.cons rfl (Keep.cons rfl (Keep.cons rfl (Keep.cons rfl (Keep.cons rfl (Keep.cons rfl (Keep.cons rfl (Keep.cons rfl (Keep.cons rfl (Keep.app rfl (Keep.rm rfl Keep.base))))))))))))))))))))))))))))))))⟩, by simp only; omega⟩
              | exact ⟨⟨j + 1, x + 1, y, oth, vo, X⟩, ⟨⟨by simp only; omega, by simp only; omega, hy, hch, fun p hp => ⟨by have := (hbd p hp).1; simp only; omega, (hbd p hp).2⟩, hoth, hh⟩, hf.head ⟨rfl, rfl, rfl, rfl, True.intro⟩ (Keep.cons rfl (Keep.cons rfl (Keep.cons rfl (Keep.cons rfl (Keep.cons rfl (Keep.cons rfl (Keep.cons rfl (Keep.cons rfl (Keep.cons rfl (Keep.cons rfl (Keep.cons rfl (Keep.cons rfl (Keep.cons rfl (Keep.cons rfl (Keep.cons rfl (Keep.cons rfl (Keep.cons rfl (Keep.cons rfl (Keep.cons rfl (Keep.cons rfl (Keep.cons rfl (Keep.cons rfl (Keep.cons rfl (Keep.cons rfl (Keep.cons rfl (Keep.cons rfl (Keep.cons rfl (Keep.cons rfl (Keep.cons rfl (Keep.cons rfl (Keep.app rfl (Keep.rm rfl Keep.base))))))))))))))))))))))))))))))))⟩, by simp only; omega⟩
              | exact ⟨⟨j + 1, x, y + 1, oth, vo, X⟩, ⟨⟨by simp only; omega, hx, by simp only; omega, hch, fun p hp => ⟨(hbd p hp).1, by have := (hbd p hp).2; simp only; omega⟩, hoth, hh⟩, hf.head ⟨rfl, rfl, rfl, rfl, True.intro⟩ (Keep.cons rfl (Keep.cons rfl (Keep.cons rfl (Keep.cons rfl (Keep.cons rfl (Keep.cons rfl (Keep.cons rfl (Keep.cons rfl (Keep.cons rfl (Keep.cons rfl (Keep.cons rfl (Keep.cons rfl (Keep.cons rfl (Keep.cons rfl (Keep.cons rfl (Keep.cons rfl (Keep.cons rfl (Keep.cons rfl (Keep.cons rfl (Keep.cons rfl (Keep.cons rfl (Keep.cons rfl (Keep.cons rfl (Keep.cons rfl (Keep.cons rfl (Keep.cons rfl (Keep.cons rfl (Keep.cons rfl (Keep.cons rfl (Keep.cons rfl (Keep.app rfl (Keep.rm rfl Keep.base))))))))))))))))))))))))))))))))⟩, by simp only; omega⟩
              | exact ⟨⟨j + 1, x + 1, y + 1, oth ++ [(x, y)], v3, X3⟩, ⟨⟨by simp only; omega, by simp only; omega, by simp only; omega, hch2, fun p hp => by
                  simp only
                  rcases List.mem_append.1 hp with hp | hp
                  · have := hbd p hp; omega
                  · rw [List.mem_singleton] at hp; subst hp; simp only; omega, by simp only [List.length_append, List.length_singleton, encP_snoc]; exact hoth3, hh⟩, hf.head ⟨rfl, rfl, rfl, rfl, True.intro⟩ (Keep.cons rfl (Keep.cons rfl (Keep.cons rfl (Keep.cons rfl (Keep.cons rfl (Keep.cons rfl (Keep.cons rfl (Keep.cons rfl (Keep.cons rfl (Keep.cons rfl (Keep.cons rfl (Keep.cons rfl (Keep.cons rfl (Keep.cons rfl (Keep.cons rfl (Keep.cons rfl (Keep.cons rfl (Keep.cons rfl (Keep.cons rfl (Keep.cons rfl (Keep.cons rfl (Keep.cons rfl (Keep.cons rfl (Keep.cons rfl (Keep.cons rfl (Keep.cons rfl (Keep.cons rfl (Keep.cons rfl (Keep.cons rfl (Keep.cons rfl (Keep.app rfl (Keep.rm rfl Keep.base))))))))))))))))))))))))))))))))⟩, by simp only; omega⟩
           ·have hG55 := hg55; try simp only [gS] at hG55
            refine sy_seq ?_
            have hfx := fits_ok hok (x := x) (y := y) (by omega) (by omega)
            refine sy_ops ?_
            refine o_v hf hh (y_lds Tryd.ag_26 rfl) ?_; clear hf a; intro a hf
            refine o_v hf hh (yv_move rfl) ?_; clear hf a; intro a hf
            refine o_v hf hh (yv_move rfl) ?_; clear hf a; intro a hf
            refine o_call hf Tryd.en_15 rfl rfl rfl (c15 d sa sb ca cb _ (hA1.ext hh.ext) (hB1.ext hh.ext) x y (by omega) (by omega)) ?_; clear hf a; intro v a w hR hf
            rw [hfx.1, hfx.2] at hR
            obtain ⟨rfl, hx⟩ := hR; replace hh := hh.more hx; clear hx
            refine o_v hf hh (yv_move rfl) ?_; clear hf a; intro a hf
            refine o_v hf hh (yv_extract rfl rfl) ?_; clear hf a; intro a hf
            refine o_v hf hh (yv_extract rfl rfl) ?_; clear hf a; intro a hf
            refine o_v hf hh (yv_assign rfl) ?_; clear hf a; intro a hf
            refine o_v hf hh (yv_assign rfl) ?_; clear hf a; intro a hf
            refine o_end ?_
            refine sy_sq ?_
            refine o_v hf hh (yv_move rfl) ?_; clear hf a; intro a hf
            refine o_v hf hh (yv_bin rfl rfl rfl) ?_; clear hf a; intro a hf
            refine o_end ?_
            refine c_f hf ?_
            refine sy_sq ?_
            refine o_v hf hh (yv_move rfl) ?_; clear hf a; intro a hf
            refine o_end ?_
            refine sy_cond hf rfl (fun hg61 => ?_) (fun hg61 => ?_)
            ·have hG61 := hg61; try simp only [gS] at hG61
             refine sy_seq ?_
             have hch2 := Ch_snoc hch hbd (x := x) (y := y) (by omega) (by omega) (by assumption)
             have hlen2 := hch.len
             refine sy_ops ?_
             refine o_v hf hh (yv_move rfl) ?_; clear hf a; intro a hf
             refine o_v hf hh (yv_move rfl) ?_; clear hf a; intro a hf
             refine o_v hf hh (yv_move rfl) ?_; clear hf a; intro a hf
             refine o_v hf hh (yv_buildA Tryd.ba_45 rfl rfl) ?_; clear hf a; intro a hf
             refine ops_buildSl hf hh Tryd.bl_34_1 rfl rfl (.inl rfl) rfl ?_; clear hf hh; clear a; intro B188 a w hf hh
             refine ops_append (e := 45) (size := 2) (xs := encP oth) (Z := []) hf hh Tryd.eb_34 rfl rfl hoth rfl rfl rfl (by simp only [maxLen]; omega) (by omega) (.inl rfl) rfl ?_; clear hf hh; clear a w; intro v3 X3 a w hoth3 hf hh
             refine o_v hf hh (yv_assign rfl) ?_; clear hf a; intro a hf
             refine o_end ?_
             refine sy_ops ?_
             refine o_v hf hh (yv_move rfl) ?_; clear hf a; intro a hf
             refine ops_v hf hh (yv_cast (yv_add rfl rfl (by omega) (by omega)) (intv (b := ((x + 1 : Nat) : Int)) (by omega))) (.inl rfl) rfl rfl rfl ?_; clear hf a; intro a hf
             refine o_v hf hh (yv_move rfl) ?_; clear hf a; intro a hf
             refine ops_v hf hh (yv_cast (yv_add rfl rfl (by omega) (by omega)) (intv (b := ((y + 1 : Nat) : Int)) (by omega))) (.inl rfl) rfl rfl rfl ?_; clear hf a; intro a hf
             refine o_v hf hh (yv_assign rfl) ?_; clear hf a; intro a hf
             refine o_v hf hh (yv_assign rfl) ?_; clear hf a; intro a hf
             refine ops_end ?_
             refine blk_n ?_
             refine blk_n ?_
             refine then_n ?_
             refine sy_ops ?_
             refine o_v hf hh (y_add rfl rfl) ?_; clear hf a; intro a hf
             refine o_v hf hh (yv_move rfl) ?_; clear hf a; intro a hf
             refine ops_end ?_
             refine then_n ?_
             first
               | exact ⟨⟨j + 1, x, y, oth, vo, X⟩, ⟨⟨by simp only; omega, hx, hy, hch, hbd, hoth, hh⟩, hf.head ⟨rfl, rfl, rfl, rfl, True.intro⟩ (Keep.cons rfl (Keep.cons rfl (Keep.cons rfl (Keep.cons rfl (Keep.cons rfl (Keep.cons rfl (Keep.cons rfl (Keep.cons rfl (Keep.cons rfl (Keep.cons rfl (Keep.cons rfl (Keep.cons rfl (Keep.cons rfl (Keep.cons rfl (Keep.cons rfl (Keep.cons rfl (Keep.cons rfl (Keep.cons rfl (Keep.cons rfl (Keep.cons rfl (Keep.cons rfl (Keep.cons rfl (Keep.cons rfl (Keep.cons rfl (Keep.cons rfl (Keep.cons rfl (Keep.cons rfl (Keep.cons rfl (Keep.cons rfl (Keep.cons rfl (Keep.cons rfl (Keep.cons rfl (Keep.cons rfl (Keep.cons rfl (Keep.cons rfl (Keep.cons rfl (Keep.cons rfl (Keep.cons rfl (Keep.cons rfl (Keep.cons rfl (Keep.cons rfl (Keep.cons rfl (Keep.cons rfl (Keep.cons rfl (Keep.cons rfl (Keep.cons rfl (Keep.cons rfl (Keep.cons rfl (Keep.cons rfl (Keep.cons rfl (Keep.cons rfl (Keep.cons rfl (Keep.app rfl (Keep.rm rfl Keep.base))))))))))))))))))))))))))))))))))))))))))))))))))))))⟩, by simp only; omega⟩
               | exact ⟨⟨j + 1, x + 1, y, oth, vo, X⟩, ⟨⟨by simp only; omega, by simp only; omega, hy, hch, fun p hp => ⟨by have := (hbd p hp).1; simp only; omega, (hbd p hp).2⟩, hoth, hh⟩, hf.head ⟨rfl, rfl, rfl, rfl, True.intro⟩ (Keep.cons rfl (Keep.cons rfl (Keep.cons rfl (Keep.cons rfl (Keep.cons rfl (Keep.cons rfl (Keep.cons rfl (Keep.cons rfl (Keep.cons rfl (Keep.cons rfl (Keep.cons rfl (Keep.cons rfl (Keep.cons rfl (Keep.cons rfl (Keep.cons rfl (Keep.cons rfl (Keep.cons rfl (Keep.cons rfl (Keep.cons rfl (Keep.cons rfl (Keep.cons rfl (Keep.cons rfl (Keep.cons rfl (Keep.cons rfl (Keep.cons rfl (Keep.cons rfl (Keep.cons rfl (Keep.cons rfl (Keep.cons rfl (Keep.cons rfl (Keep.cons rfl (Keep.cons rfl (Keep.cons rfl (Keep.cons rfl (Keep.cons rfl (Keep.cons rfl (Keep.cons rfl (Keep.cons rfl (Keep.cons rfl (Keep.cons rfl (Keep.cons rfl (Keep.cons rfl (Keep.cons rfl (Keep.cons rfl (Keep.cons rfl (Keep.cons rfl (Keep.cons rfl (Keep.cons rfl (Keep.cons rfl (Keep.cons rfl (Keep.cons rfl (Keep.cons rfl (Keep.app rfl (Keep.rm rfl Keep.base))))))))))))))))))))))))))))))))))))))))))))))))))))))⟩, by simp only; omega⟩
               | exact ⟨⟨j + 1, x, y + 1, oth, vo, X⟩, ⟨⟨by simp only; omega, hx, by simp only; omega, hch, fun p hp => ⟨(hbd p hp).1, by have := (hbd p hp).2; simp only; omega⟩, hoth, hh⟩, hf.head ⟨rfl, rfl, rfl, rfl, True.intro⟩ (Keep.cons rfl (Keep.cons rfl (Keep.cons rfl (Keep.cons rfl (Keep.cons rfl (Keep.cons rfl (Keep.cons rfl (Keep.cons rfl (Keep.cons rfl (Keep.cons rfl (Keep.cons rfl (Keep.cons rfl (Keep.cons rfl (Keep.cons rfl (Keep.cons rfl (Keep.cons rfl (Keep.cons rfl (Keep.cons rfl (Keep.cons rfl (Keep.cons rfl (Keep.cons rfl (Keep.cons rfl (Keep.cons rfl (Keep.cons rfl (Keep.cons rfl (Keep.cons rfl (Keep.cons rfl (Keep.cons rfl (Keep.cons rfl (Keep.cons rfl (Keep.cons rfl (Keep.cons rfl (Keep.cons rfl (Keep.cons rfl (Keep.cons rfl (Keep.cons rfl (Keep.cons rfl (Keep.cons rfl (Keep.cons rfl (Keep.cons rfl (Keep.cons rfl (Keep.cons rfl (Keep.cons rfl (Keep.cons rfl (Keep.cons rfl (Keep.cons rfl (Keep.cons rfl (Keep.cons rfl (Keep.cons rfl (Keep.cons rfl (Keep.cons rfl (Keep.cons rfl (Keep.app rfl (Keep.rm rfl Keep.base))))))))))))))))))))))))))))))))))))))))))))))))))))))⟩, by simp only; omega⟩
               | exact ⟨⟨j + 1, x + 1, y + 1, oth ++ [(x, y)], v3, X3⟩, ⟨⟨by simp only; omega, by simp only; omega, by simp only; omega, hch2, fun p hp => by
                   simp only
                   rcases List.mem_append.1 hp with hp | hp
                   · have := hbd p hp; omega
                   · rw [List.mem_singleton] at hp; subst hp; simp only; omega, by simp only [List.length_append, List.length_singleton, encP_snoc]; exact hoth3, hh⟩, hf.head ⟨rfl, rfl, rfl, rfl, True.intro⟩ (Keep.cons rfl (Keep.cons rfl (Keep.cons rfl (Keep.cons rfl (Keep.cons rfl (Keep.cons rfl (Keep.cons rfl (Keep.cons rfl (Keep.cons rfl (Keep.cons rfl (Keep.cons rfl (Keep.cons rfl (Keep.cons rfl (Keep.cons rfl (Keep.cons rfl (Keep.cons rfl (Keep.cons rfl (Keep.cons rfl (Keep.cons rfl (Keep.cons rfl (Keep.cons rfl (Keep.cons rfl (Keep.cons rfl (Keep.cons rfl (Keep.cons rfl (Keep.cons rfl (Keep.cons rfl (Keep.cons rfl (Keep.cons rfl (Keep.cons rfl (Keep.cons rfl (Keep.cons rfl (Keep.cons rfl (Keep.cons rfl (Keep.cons rfl (Keep.cons rfl (Keep.cons rfl (Keep.cons rfl (Keep.cons rfl (Keep.cons rfl (Keep.cons rfl (Keep.cons rfl (Keep.cons rfl (Keep.cons rfl (Keep.cons rfl (Keep.cons rfl (Keep.cons rfl (Keep.cons rfl (Keep.cons rfl (Keep.cons rfl (Keep.cons rfl (Keep.cons rfl (Keep.app rfl (Keep.rm rfl Keep.base))))))))))))))))))))))))))))))))))))))))))))))))))))))⟩, by simp only; omega⟩
            ·have hG61 := hg61; try simp only [gS] at hG61
             refine sy_skip ?_
             refine blk_n ?_
             refine blk_n ?_
             refine then_n ?_
             refine sy_ops ?_
             refine o_v hf hh (y_add rfl rfl) ?_; clear hf a; intro a hf
             refine o_v hf hh (yv_move rfl) ?_; clear hf a; intro a hf
             refine ops_end ?_
             refine then_n ?_
             first
               | exact ⟨⟨j + 1, x, y, oth, vo, X⟩, ⟨⟨by simp only; omega, hx, hy, hch, hbd, hoth, hh⟩, hf.head ⟨rfl, rfl, rfl, rfl, True.intro⟩ (Keep.cons rfl (Keep.cons rfl (Keep.cons rfl (Keep.cons rfl (Keep.cons rfl (Keep.cons rfl (Keep.cons rfl (Keep.cons rfl (Keep.cons rfl (Keep.cons rfl (Keep.cons rfl (Keep.cons rfl (Keep.cons rfl (Keep.cons rfl (Keep.cons rfl (Keep.cons rfl (Keep.cons rfl (Keep.cons rfl (Keep.cons rfl (Keep.cons rfl (Keep.cons rfl (Keep.cons rfl (Keep.cons rfl (Keep.cons rfl (Keep.cons rfl (Keep.cons rfl (Keep.cons rfl (Keep.cons rfl (Keep.cons rfl (Keep.cons rfl (Keep.cons rfl (Keep.cons rfl (Keep.cons rfl (Keep.cons rfl (Keep.cons rfl (Keep.cons rfl (Keep.cons rfl (Keep.cons rfl (Keep.cons rfl (Keep.app rfl (Keep.rm rfl Keep.base)))))))))))))))))))))))))))))))))))))))))⟩, by simp only; omega⟩
               | exact ⟨⟨j + 1, x + 1, y, oth, vo, X⟩, ⟨⟨by simp only; omega, by simp only; omega, hy, hch, fun p hp => ⟨by have := (hbd p hp).1; simp only; omega, (hbd p hp).2⟩, hoth, hh⟩, hf.head ⟨rfl, rfl, rfl, rfl, True.intro⟩ (Keep.cons rfl (Keep.cons rfl (Keep.cons rfl (Keep.cons rfl (Keep.cons rfl (Keep.cons rfl (Keep.cons rfl (Keep.cons rfl (Keep.cons rfl (Keep.cons rfl (Keep.cons rfl (Keep.cons rfl (Keep.cons rfl (Keep.cons rfl (Keep.cons rfl (Keep.cons rfl (Keep.cons rfl (Keep.cons rfl (Keep.cons rfl (Keep.cons rfl (Keep.cons rfl (Keep.cons rfl (Keep.cons rfl (Keep.cons rfl (Keep.cons rfl (Keep.cons rfl (Keep.cons rfl (Keep.cons rfl (Keep.cons rfl (Keep.cons rfl (Keep.cons rfl (Keep.cons rfl (Keep.cons rfl (Keep.cons rfl (Keep.cons rfl (Keep.cons rfl (Keep.cons rfl (Keep.cons rfl (Keep.cons rfl (Keep.app rfl (Keep.rm rfl Keep.base)))))))))))))))))))))))))))))))))))))))))⟩, by simp only; omega⟩
               | exact ⟨⟨j + 1, x, y + 1, oth, vo, X⟩, ⟨⟨by simp only; omega, hx, by simp only; omega, hch, fun p hp => ⟨(hbd p hp).1, by have := (hbd p hp).2; simp only; omega⟩, hoth, hh⟩, hf.head ⟨rfl, rfl, rfl, rfl, True.intro⟩ (Keep.cons rfl (Keep.cons rfl (Keep.cons rfl (Keep.cons rfl (Keep.cons rfl (Keep.cons rfl (Keep.cons rfl (Keep.cons rfl (Keep.cons rfl (Keep.cons rfl (Keep.cons rfl (Keep.cons rfl (Keep.cons rfl (Keep.cons rfl (Keep.cons rfl (Keep.cons rfl (Keep.cons rfl (Keep.cons rfl (Keep.cons rfl (Keep.cons rfl (Keep.cons rfl (Keep.cons rfl (Keep.cons rfl (Keep.cons rfl (Keep.cons rfl (Keep.cons rfl (Keep.cons rfl (Keep.cons rfl (Keep.cons rfl (Keep.cons rfl (Keep.cons rfl (Keep.cons rfl (Keep.cons rfl (Keep.cons rfl (Keep.cons rfl (Keep.cons rfl (Keep.cons rfl (Keep.cons rfl (Keep.cons rfl (Keep.app rfl (Keep.rm rfl Keep.base)))))))))))))))))))))))))))))))))))))))))⟩, by simp only; omega⟩
               | exact ⟨⟨j + 1, x + 1, y + 1, oth ++ [(x, y)], v3, X3⟩, ⟨⟨by simp only; omega, by simp only; omega, by simp only; omega, hch2, fun p hp => by
                   simp only
                   rcases List.mem_append.1 hp with hp | hp
                   · have := hbd p hp; omega
                   · rw [List.mem_singleton] at hp; subst hp; simp only; omega, by simp only [List.length_append, List.length_singleton, encP_snoc]; exact hoth3, hh⟩, hf.head ⟨rfl, rfl, rfl, rfl, True.intro⟩ (Keep.cons rfl (Keep.cons rfl (Keep.cons rfl (Keep.cons rfl (Keep.cons rfl (Keep.cons rfl (Keep.cons rfl (Keep.cons rfl (Keep.cons rfl (Keep.cons rfl (Keep.cons rfl (Keep.cons rfl (Keep.cons rfl (Keep.cons rfl (Keep.cons rfl (Keep.cons rfl (Keep.cons rfl (Keep.cons rfl (Keep.cons rfl (Keep.cons rfl (Keep.cons rfl (Keep.cons rfl (Keep.cons rfl (Keep.cons rfl (Keep.cons rfl (Keep.cons rfl (Keep.cons rfl (Keep.cons rfl (Keep.cons rfl (Keep.cons rfl (Keep.cons rfl (Keep.cons rfl (Keep.cons rfl (Keep.cons rfl (Keep.cons rfl (Keep.cons rfl (Keep.cons rfl (Keep.cons rfl (Keep.cons rfl (Keep.app rfl (Keep.rm rfl Keep.base)))))))))))))))))))))))))))))))))))))))))⟩, by simp only; omega⟩
       ·have hG44 := hg44; try simp only [gS] at hG44
        refine sy_exit ?_
        refine then_e ?_
        refine then_e ?_
        refine blk_e ?_
        refine then_n ?_
        refine sy_seq ?_
        refine sy_seq ?_
        have hfl := few_lex hop hch
        have hol := hch.len
        obtain ⟨oa2, cap2, rfl⟩ := OwnSl_val hoth
        have he1 := he0.trans hh.ext
        have hb3 := hh.ext.get hb2
        have hvl2 := hvl.ext hh.ext
        have hvo := valsAt_own hoth fun x hx => hh.get x (by simp [hx])
        have hA2 := hA1.ext hh.ext
        have hB2 := hB1.ext hh.ext
        have hT2 := hT1.ext hh.ext (by simp)
        obtain ⟨u2, rfl⟩ : ∃ z, z = w := ⟨_, rfl⟩
        replace hh := Hp.init u2 []
        
        refine sy_ops ?_
        refine o_v hf hh (yv_move rfl) ?_; clear hf a; intro a hf
        refine o_v hf hh (yv_len Tryd.se_34 rfl) ?_; clear hf a; intro a hf
        refine o_v hf hh (yv_move rfl) ?_; clear hf a; intro a hf
        refine o_v hf hh (yv_len Tryd.se_34 rfl) ?_; clear hf a; intro a hf
        refine o_v hf hh (yv_bin rfl rfl rfl) ?_; clear hf a; intro a hf
        refine o_end ?_
        refine c_f hf ?_
        refine sy_skip ?_
        refine then_n ?_
        refine sy_cut (σ := Unit) [4, 21, 225, 226, 227, 228, 229, 230, 231, 232, 233, 234, 235, 236, 237, 238, 239, 240, 241, 242, 243, 244, 245, 246, 247, 248, 249, 250, 251, 252, 253, 254, 255, 256, 257, 258, 259, 260, 261, 262, 263, 264, 265, 266, 267, 268, 269, 270, 271, 272, 273, 274, 275, 276, 277, 278, 279, 280, 281, 282, 283] (fun z => []) (fun z => fun w' => Hp u2 [] [] w') hf ?_ ?_
        ·refine sy_sq ?_
         refine o_v hf hh (yv_move rfl) ?_; clear hf a; intro a hf
         refine o_v hf hh (yv_len Tryd.se_34 rfl) ?_; clear hf a; intro a hf
         refine o_v hf hh (yv_move rfl) ?_; clear hf a; intro a hf
         refine o_end ?_
         refine sy_block ?_
         refine sy_loopF (σ := Nat) [4, 21, 227, 228, 229, 230, 231, 232, 233, 234, 235, 236, 237, 238, 239, 240, 241, 242, 243, 244, 245, 246, 247, 248, 249, 250, 251, 252, 253, 254, 255, 256, 257, 258, 259, 260, 261, 262, 263, 264, 265, 266, 267, 268, 269, 270, 271, 272, 273, 274, 275, 276, 277, 278, 279, 280, 281, 282, 283] (fun i => [(227, .int .i64 i)]) (fun i => i ≤ oth.length ∧ (oth.length = (fewL d).length → (fewL d).take i = oth.take i)) (fun i => oth.length - i) (0) hf hh ?_ ?_ ?_
         · repeat' (first | exact True.intro | refine And.intro rfl ?_)
         · exact ⟨Nat.zero_le _, fun _ => rfl⟩
         ·rintro i a w ⟨hi, hqe⟩ hf hh
          refine sy_sq ?_
          refine o_v hf hh (yv_bin rfl rfl rfl) ?_; clear hf a; intro a hf
          refine o_end ?_
          refine sy_seq ?_
          refine sy_cond hf rfl (fun hg67 => ?_) (fun hg67 => ?_)
          ·have hG67 := hg67; try simp only [gS] at hG67
           refine sy_skip ?_
           refine then_n ?_
           refine sy_seq ?_
           refine sy_block ?_
           refine sy_sq ?_
           refine o_v hf hh (yv_move rfl) ?_; clear hf a; intro a hf
           refine o_v hf hh (yv_assign rfl) ?_; clear hf a; intro a hf
           refine o_end ?_
           refine sy_seq ?_
           obtain ⟨q, hq⟩ := ex_of (l := oth) (i := i) (by omega)
           obtain ⟨blk, off, c, Tc, fr, e1, hbx, hcx⟩ := vals_pair hvo (i := i) (by omega)
           subst e1
           obtain ⟨gq, gq1, gq2⟩ := pair_cells hcx hq
           have hlx : oth.length = (fewL d).length → ∃ p blk2 off2 c2 T2 fr2, (fewL d)[i]? = some p ∧ oa = some ⟨blk2, off2, none⟩ ∧ u2.heap[blk2]? = some (.cells c2 T2 fr2) ∧ cellsAt c2 (off2 + ((i : Nat) : Int).toNat * 2) 2 = some [.int .i64 p.1, .int .i64 p.2] ∧
               c2[off2 + ((i : Nat) : Int).toNat * 2 + (0 : Int).toNat * 1]? = some (.int .i64 p.1) ∧ c2[off2 + ((i : Nat) : Int).toNat * 2 + (1 : Int).toNat * 1]? = some (.int .i64 p.2) ∧ (p ≠ q → plt p q) := fun hle => by
             obtain ⟨p, hp⟩ := ex_of (l := fewL d) (i := i) (by omega)
             obtain ⟨blk2, off2, c2, T2, fr2, e2, hbx2, hcx2⟩ := vals_pair hvl2 (i := i) (by omega)
             obtain ⟨g0, g1, g2⟩ := pair_cells hcx2 hp
             exact ⟨p, blk2, off2, c2, T2, fr2, hp, e2, hbx2, g0, g1, g2, fun hne => lex_at (hfl.2 hle) (hqe hle) hp hq hne⟩
           refine sy_quiet (C := Hp _ _ _) Tryd.follows (by kernel_rfl) (hh.drawn _) ?_
           refine oq_v hf (yv_move rfl) ?_; clear hf a; intro a hf
           refine oq_v hf (yv_len Tryd.se_34 rfl) ?_; clear hf a; intro a hf
           refine oq_v hf (yv_move rfl) ?_; clear hf a; intro a hf
           refine oq_v hf (yv_len Tryd.se_34 rfl) ?_; clear hf a; intro a hf
           refine oq_v hf (yv_bin rfl rfl rfl) ?_; clear hf a; intro a hf
           refine oq_v hf (yv_move rfl) ?_; clear hf a; intro a hf
           refine guard_splitq hf (t := 235) rfl (fun hg69 => ?_) (fun hg69 => ?_)
           ·have hG69 := hg69; try simp only [gS] at hG69
            obtain ⟨p, blk2, off2, c2, T2, fr2, hp, e2, hbx2, gp, gp1, gp2, hplt⟩ := hlx (by omega)
            subst e2
            refine oq_v hf (yv_move rfl) ?_; clear hf a; intro a hf
            refine oq_v hf (yv_move rfl) ?_; clear hf a; intro a hf
            refine oq_v hf (y_ix Tryd.se_34 rfl rfl) ?_; clear hf a; intro a hf
            refine oq_v hf (y_lds Tryd.ag_45 rfl) ?_; clear hf a; intro a hf
            refine oq_v hf (yv_move rfl) ?_; clear hf a; intro a hf
            refine oq_v hf (yv_move rfl) ?_; clear hf a; intro a hf
            refine oq_v hf (y_ix Tryd.se_34 rfl rfl) ?_; clear hf a; intro a hf
            refine oq_v hf (y_lds Tryd.ag_45 rfl) ?_; clear hf a; intro a hf
            refine oq_v hf (yv_cast (yv_neF [(q.1 : Int), (q.2 : Int)] [(p.1 : Int), (p.2 : Int)] fl45 rfl rfl) (show Value.bool (!decide ([(q.1 : Int), (q.2 : Int)] = [(p.1 : Int), (p.2 : Int)])) = Value.bool (!decide (q = p)) by rw [decide_eq_decide.2 (pair_ne q p)])) ?_; clear hf a; intro a hf
            refine oq_v hf (y_pt rfl rfl) ?_; clear hf a; intro a hf
            refine q_end fun w hh => ?_
            refine then_n ?_
            refine sy_cond hf rfl (fun hg72 => ?_) (fun hg72 => ?_)
            ·have hG72 := hg72; try simp only [gS] at hG72
             refine sy_seq ?_
             refine sy_seq ?_
             have hpq : p ≠ q := fun e => by subst e; simp_all
             have hlt : p.1 < q.1 ∨ p.1 = q.1 ∧ p.2 < q.2 := hplt hpq
             refine sy_quiet (C := Hp _ _ _) Tryd.follows (by kernel_rfl) (hh.drawn _) ?_
             refine oq_v hf (yv_move rfl) ?_; clear hf a; intro a hf
             refine oq_v hf (yv_move rfl) ?_; clear hf a; intro a hf
             refine oq_v hf (y_ix Tryd.se_34 rfl rfl) ?_; clear hf a; intro a hf
             refine oq_v hf (y_ia Tryd.ae_45 rfl rfl) ?_; clear hf a; intro a hf
             refine oq_v hf (y_ld Tryd.sc_3 rfl) ?_; clear hf a; intro a hf
             refine oq_v hf (yv_move rfl) ?_; clear hf a; intro a hf
             refine oq_v hf (yv_move rfl) ?_; clear hf a; intro a hf
             refine oq_v hf (y_ix Tryd.se_34 rfl rfl) ?_; clear hf a; intro a hf
             refine oq_v hf (y_ia Tryd.ae_45 rfl rfl) ?_; clear hf a; intro a hf
             refine oq_v hf (y_ld Tryd.sc_3 rfl) ?_; clear hf a; intro a hf
             refine oq_v hf (yv_bin rfl rfl rfl) ?_; clear hf a; intro a hf
             refine oq_v hf (yv_move rfl) ?_; clear hf a; intro a hf
             refine oq_v hf (yv_move rfl) ?_; clear hf a; intro a hf
             refine oq_v hf (yv_move rfl) ?_; clear hf a; intro a hf
             refine oq_v hf (y_ix Tryd.se_34 rfl rfl) ?_; clear hf a; intro a hf
             refine oq_v hf (y_ia Tryd.ae_45 rfl rfl) ?_; clear hf a; intro a hf
             refine oq_v hf (y_ld Tryd.sc_3 rfl) ?_; clear hf a; intro a hf
             refine oq_v hf (yv_move rfl) ?_; clear hf a; intro a hf
             refine oq_v hf (yv_move rfl) ?_; clear hf a; intro a hf
             refine oq_v hf (y_ix Tryd.se_34 rfl rfl) ?_; clear hf a; intro a hf
             refine oq_v hf (y_ia Tryd.ae_45 rfl rfl) ?_; clear hf a; intro a hf
             refine oq_v hf (y_ld Tryd.sc_3 rfl) ?_; clear hf a; intro a hf
             refine oq_v hf (yv_bin rfl rfl rfl) ?_; clear hf a; intro a hf
             refine oq_v hf (yv_move rfl) ?_; clear hf a; intro a hf
             refine guard_splitq hf (t := 269) rfl (fun hg75 => ?_) (fun hg75 => ?_)
             ·have hG75 := hg75; try simp only [gS] at hG75
              refine oq_v hf (yv_move rfl) ?_; clear hf a; intro a hf
              refine oq_v hf (yv_move rfl) ?_; clear hf a; intro a hf
              refine oq_v hf (y_ix Tryd.se_34 rfl rfl) ?_; clear hf a; intro a hf
              refine oq_v hf (y_ia Tryd.ae_45 rfl rfl) ?_; clear hf a; intro a hf
              refine oq_v hf (y_ld Tryd.sc_3 rfl) ?_; clear hf a; intro a hf
              refine oq_v hf (yv_move rfl) ?_; clear hf a; intro a hf
              refine oq_v hf (yv_move rfl) ?_; clear hf a; intro a hf
              refine oq_v hf (y_ix Tryd.se_34 rfl rfl) ?_; clear hf a; intro a hf
              refine oq_v hf (y_ia Tryd.ae_45 rfl rfl) ?_; clear hf a; intro a hf
              refine oq_v hf (y_ld Tryd.sc_3 rfl) ?_; clear hf a; intro a hf
              refine oq_v hf (yv_bin rfl rfl rfl) ?_; clear hf a; intro a hf
              refine oq_v hf (y_pt rfl rfl) ?_; clear hf a; intro a hf
              refine oq_v hf (y_pf rfl rfl) ?_; clear hf a; intro a hf
              refine q_end fun w hh => ?_
              refine then_n ?_
              refine c_f hf ?_
              refine sy_skip ?_
              refine then_n ?_
              refine sy_exit ?_
              refine blk_x rfl ?_
              refine then_e ?_
              refine then_e ?_
              refine blk_e ?_
              refine then_n ?_
              exact ⟨(), hh, hf.head True.intro (Keep.cons rfl (Keep.cons rfl (Keep.cons rfl (Keep.cons rfl (Keep.cons rfl (Keep.cons rfl (Keep.cons rfl (Keep.cons rfl (Keep.cons rfl (Keep.cons rfl (Keep.cons rfl (Keep.cons rfl (Keep.cons rfl (Keep.cons rfl (Keep.cons rfl (Keep.cons rfl (Keep.cons rfl (Keep.cons rfl (Keep.cons rfl (Keep.cons rfl (Keep.cons rfl (Keep.cons rfl (Keep.cons rfl (Keep.cons rfl (Keep.cons rfl (Keep.cons rfl (Keep.cons rfl (Keep.cons rfl (Keep.cons rfl (Keep.cons rfl (Keep.cons rfl (Keep.cons rfl (Keep.cons rfl (Keep.cons rfl (Keep.cons rfl (Keep.cons rfl (Keep.cons rfl (Keep.cons rfl (Keep.cons rfl (Keep.cons rfl (Keep.cons rfl (Keep.cons rfl (Keep.cons rfl (Keep.cons rfl (Keep.cons rfl (Keep.cons rfl (Keep.cons rfl (Keep.cons rfl (Keep.cons rfl (Keep.cons rfl (Keep.cons rfl (Keep.cons rfl (Keep.cons rfl (Keep.cons rfl (Keep.cons rfl (Keep.cons rfl (Keep.app rfl (Keep.rm rfl (Keep.cons rfl (Keep.cons rfl (Keep.cons rfl (Keep.base))))))))))))))))))))))))))))))))))))))))))))))))))))))))))))))⟩
             ·have hG75 := hg75; try simp only [gS] at hG75
              refine oq_off hf ?_; clear hf a; intro a hf
              refine oq_off hf ?_; clear hf a; intro a hf
              refine oq_off hf ?_; clear hf a; intro a hf
              refine oq_off hf ?_; clear hf a; intro a hf
              refine oq_off hf ?_; clear hf a; intro a hf
              refine oq_off hf ?_; clear hf a; intro a hf
              refine oq_off hf ?_; clear hf a; intro a hf
              refine oq_off hf ?_; clear hf a; intro a hf
              refine oq_off hf ?_; clear hf a; intro a hf
              refine oq_off hf ?_; clear hf a; intro a hf
              refine oq_off hf ?_; clear hf a; intro a hf
              refine oq_v hf (y_pf rfl rfl) ?_; clear hf a; intro a hf
              refine oq_v hf (y_pf rfl rfl) ?_; clear hf a; intro a hf
              refine q_end fun w hh => ?_
              refine then_n ?_
              refine c_f hf ?_
              refine sy_skip ?_
              refine then_n ?_
              refine sy_exit ?_
              refine blk_x rfl ?_
              refine then_e ?_
              refine then_e ?_
              refine blk_e ?_
              refine then_n ?_
              exact ⟨(), hh, hf.head True.intro (Keep.cons rfl (Keep.cons rfl (Keep.cons rfl (Keep.cons rfl (Keep.cons rfl (Keep.cons rfl (Keep.cons rfl (Keep.cons rfl (Keep.cons rfl (Keep.cons rfl (Keep.cons rfl (Keep.cons rfl (Keep.cons rfl (Keep.cons rfl (Keep.cons rfl (Keep.cons rfl (Keep.cons rfl (Keep.cons rfl (Keep.cons rfl (Keep.cons rfl (Keep.cons rfl (Keep.cons rfl (Keep.cons rfl (Keep.cons rfl (Keep.cons rfl (Keep.cons rfl (Keep.cons rfl (Keep.cons rfl (Keep.cons rfl (Keep.cons rfl (Keep.cons rfl (Keep.cons rfl (Keep.cons rfl (Keep.cons rfl (Keep.cons rfl (Keep.cons rfl (Keep.cons rfl (Keep.cons rfl (Keep.cons rfl (Keep.cons rfl (Keep.cons rfl (Keep.cons rfl (Keep.cons rfl (Keep.cons rfl (Keep.cons rfl (Keep.cons rfl (Keep.cons rfl (Keep.cons rfl (Keep.cons rfl (Keep.cons rfl (Keep.cons rfl (Keep.cons rfl (Keep.cons rfl (Keep.cons rfl (Keep.cons rfl (Keep.cons rfl (Keep.app rfl (Keep.rm rfl (Keep.cons rfl (Keep.cons rfl (Keep.cons rfl (Keep.base))))))))))))))))))))))))))))))))))))))))))))))))))))))))))))))⟩
            ·have hG72 := hg72; try simp only [gS] at hG72
             refine sy_skip ?_
             refine blk_n ?_
             refine then_n ?_
             refine sy_ops ?_
             refine o_v hf hh (y_add rfl rfl) ?_; clear hf a; intro a hf
             refine o_v hf hh (yv_move rfl) ?_; clear hf a; intro a hf
             refine ops_end ?_
             refine then_n ?_
             first
               | exact ⟨i + 1, ⟨⟨by omega, fun hle => take_snoc (hqe hle) hp hq (by simp_all)⟩, (hf.head (by repeat' (first | exact True.intro | refine And.intro rfl ?_)) (Keep.cons rfl (Keep.cons rfl (Keep.cons rfl (Keep.cons rfl (Keep.cons rfl (Keep.cons rfl (Keep.cons rfl (Keep.cons rfl (Keep.cons rfl (Keep.cons rfl (Keep.cons rfl (Keep.cons rfl (Keep.cons rfl (Keep.cons rfl (Keep.cons rfl (Keep.cons rfl (Keep.cons rfl (Keep.cons rfl (Keep.cons rfl (Keep.cons rfl (Keep.cons rfl (Keep.app rfl (Keep.rm rfl Keep.base)))))))))))))))))))))))), hh⟩, by omega⟩
               | exact ⟨i + 1, ⟨⟨by omega, fun hle => absurd hle (by omega)⟩, (hf.head (by repeat' (first | exact True.intro | refine And.intro rfl ?_)) (Keep.cons rfl (Keep.cons rfl (Keep.cons rfl (Keep.cons rfl (Keep.cons rfl (Keep.cons rfl (Keep.cons rfl (Keep.cons rfl (Keep.cons rfl (Keep.cons rfl (Keep.cons rfl (Keep.cons rfl (Keep.cons rfl (Keep.cons rfl (Keep.cons rfl (Keep.cons rfl (Keep.cons rfl (Keep.cons rfl (Keep.cons rfl (Keep.cons rfl (Keep.cons rfl (Keep.app rfl (Keep.rm rfl Keep.base)))))))))))))))))))))))), hh⟩, by omega⟩
           ·have hG69 := hg69; try simp only [gS] at hG69
            refine oq_off hf ?_; clear hf a; intro a hf
            refine oq_off hf ?_; clear hf a; intro a hf
            refine oq_off hf ?_; clear hf a; intro a hf
            refine oq_off hf ?_; clear hf a; intro a hf
            refine oq_off hf ?_; clear hf a; intro a hf
            refine oq_off hf ?_; clear hf a; intro a hf
            refine oq_off hf ?_; clear hf a; intro a hf
            refine oq_off hf ?_; clear hf a; intro a hf
            refine oq_off hf ?_; clear hf a; intro a hf
            refine oq_v hf (y_pf rfl rfl) ?_; clear hf a; intro a hf
            refine q_end fun w hh => ?_
            refine then_n ?_
            refine c_f hf ?_
            refine sy_skip ?_
            refine blk_n ?_
            refine then_n ?_
            refine sy_ops ?_
            refine o_v hf hh (y_add rfl rfl) ?_; clear hf a; intro a hf
            refine o_v hf hh (yv_move rfl) ?_; clear hf a; intro a hf
            refine ops_end ?_
            refine then_n ?_
            first
              | exact ⟨i + 1, ⟨⟨by omega, fun hle => take_snoc (hqe hle) hp hq (by simp_all)⟩, (hf.head (by repeat' (first | exact True.intro | refine And.intro rfl ?_)) (Keep.cons rfl (Keep.cons rfl (Keep.cons rfl (Keep.cons rfl (Keep.cons rfl (Keep.cons rfl (Keep.cons rfl (Keep.cons rfl (Keep.cons rfl (Keep.cons rfl (Keep.cons rfl (Keep.cons rfl (Keep.cons rfl (Keep.cons rfl (Keep.cons rfl (Keep.cons rfl (Keep.cons rfl (Keep.cons rfl (Keep.cons rfl (Keep.cons rfl (Keep.cons rfl (Keep.app rfl (Keep.rm rfl Keep.base)))))))))))))))))))))))), hh⟩, by omega⟩
              | exact ⟨i + 1, ⟨⟨by omega, fun hle => absurd hle (by omega)⟩, (hf.head (by repeat' (first | exact True.intro | refine And.intro rfl ?_)) (Keep.cons rfl (Keep.cons rfl (Keep.cons rfl (Keep.cons rfl (Keep.cons rfl (Keep.cons rfl (Keep.cons rfl (Keep.cons rfl (Keep.cons rfl (Keep.cons rfl (Keep.cons rfl (Keep.cons rfl (Keep.cons rfl (Keep.cons rfl (Keep.cons rfl (Keep.cons rfl (Keep.cons rfl (Keep.cons rfl (Keep.cons rfl (Keep.cons rfl (Keep.cons rfl (Keep.app rfl (Keep.rm rfl Keep.base)))))))))))))))))))))))), hh⟩, by omega⟩
          ·have hG67 := hg67; try simp only [gS] at hG67
           refine sy_exit ?_
           refine then_e ?_
           refine then_e ?_
           refine blk_e ?_
           refine then_n ?_
           exact ⟨(), hh, hf.head True.intro (Keep.cons rfl (Keep.app rfl (Keep.rm rfl (Keep.cons rfl (Keep.cons rfl (Keep.cons rfl (Keep.base)))))))⟩
        ·rintro z a w hh hf
         obtain ⟨hg1, hg2⟩ := few_again hop
         refine sy_sq ?_
         refine o_v hf hh (y_lds Tryd.ag_26 rfl) ?_; clear hf a; intro a hf
         refine o_alloc hf hh Tryd.ze_26 ?_; clear hf hh a; intro B22 a w hf hh
         refine o_store hf hh Tryd.sz_26 fun w hh => ?_
         refine o_end ?_
         refine sy_sq ?_
         refine o_v hf hh (yv_move rfl) ?_; clear hf a; intro a hf
         refine o_v hf hh (yv_fieldAddr Tryd.fo_26_3 rfl) ?_; clear hf a; intro a hf
         refine o_store hf hh Tryd.sz_3 fun w hh => ?_
         refine o_end ?_
         refine sy_sq ?_
         refine o_v hf hh (y_lds Tryd.ag_26 rfl) ?_; clear hf a; intro a hf
         refine o_call hf Tryd.en_19 rfl rfl rfl (c19 (setH d (fewH d)) sa sb ca cb _ (hA2.ext hh.ext) (hB2.ext hh.ext)) ?_; clear hf a; intro v a w hR hf
         rw [hg1, hg2] at hR
         obtain ⟨sv3, X3, rfl, _, hx⟩ := hR; replace hh := hh.more hx.ext; clear hx
         refine o_v hf hh (yv_move rfl) ?_; clear hf a; intro a hf
         refine o_v hf hh (yv_extract rfl rfl) ?_; clear hf a; intro a hf
         refine o_v hf hh (yv_extract rfl rfl) ?_; clear hf a; intro a hf
         refine o_v hf hh (yv_extract rfl rfl) ?_; clear hf a; intro a hf
         refine o_v hf hh (yv_assign rfl) ?_; clear hf a; intro a hf
         refine o_v hf hh (yv_assign rfl) ?_; clear hf a; intro a hf
         refine o_v hf hh (yv_assign rfl) ?_; clear hf a; intro a hf
         refine o_end ?_
         refine sy_seq ?_
         refine sy_sq ?_
         refine o_v hf hh (yv_move rfl) ?_; clear hf a; intro a hf
         refine o_v hf hh (yv_bin rfl rfl rfl) ?_; clear hf a; intro a hf
         refine o_v hf hh (yv_move rfl) ?_; clear hf a; intro a hf
         refine o_v hf hh (yv_move rfl) ?_; clear hf a; intro a hf
         refine o_v hf hh (yv_move rfl) ?_; clear hf a; intro a hf
         refine o_v hf hh (yv_bin rfl rfl rfl) ?_; clear hf a; intro a hf
         refine o_v hf hh (y_pf rfl rfl) ?_; clear hf a; intro a hf
         refine o_end ?_
         refine c_f hf ?_
         refine sy_skip ?_
         refine then_n ?_
         refine sy_seq ?_
         refine sy_sq ?_
         refine o_v hf hh (yv_move rfl) ?_; clear hf a; intro a hf
         refine o_v hf hh (yv_bin rfl rfl rfl) ?_; clear hf a; intro a hf
         refine o_end ?_
         refine sy_cond hf rfl (fun hg84 => ?_) (fun hg84 => ?_)
         ·have hG84 := hg84; try simp only [gS] at hG84
          refine sy_seq ?_
          obtain ⟨hl1, hl2, hl3⟩ := few_less hop (by omega)
          refine sy_ops ?_
          refine o_v hf hh (yv_move rfl) ?_; clear hf a; intro a hf
          refine o_v hf hh (y_sub rfl rfl) ?_; clear hf a; intro a hf
          refine o_v hf hh (yv_fieldAddr Tryd.fo_26_3 rfl) ?_; clear hf a; intro a hf
          refine o_store hf hh Tryd.sz_3 fun w hh => ?_
          refine o_end ?_
          refine sy_sq ?_
          refine o_v hf hh (y_lds Tryd.ag_26 rfl) ?_; clear hf a; intro a hf
          refine o_call hf Tryd.en_17 rfl rfl rfl (c17 (setH d (fewH d - 1)) sa sb ca cb _ (hA2.ext hh.ext) (hB2.ext hh.ext)) ?_; clear hf a; intro v a w hR hf
          rw [hl2, hl3] at hR
          obtain ⟨rfl, hx⟩ := hR; replace hh := hh.more hx; clear hx
          refine o_v hf hh (yv_move rfl) ?_; clear hf a; intro a hf
          refine o_v hf hh (yv_extract rfl rfl) ?_; clear hf a; intro a hf
          refine o_v hf hh (yv_extract rfl rfl) ?_; clear hf a; intro a hf
          refine o_v hf hh (yv_assign rfl) ?_; clear hf a; intro a hf
          refine o_v hf hh (yv_assign rfl) ?_; clear hf a; intro a hf
          refine o_end ?_
          refine sy_sq ?_
          refine o_v hf hh (yv_move rfl) ?_; clear hf a; intro a hf
          refine o_v hf hh (yv_bin rfl rfl rfl) ?_; clear hf a; intro a hf
          refine o_v hf hh (yv_move rfl) ?_; clear hf a; intro a hf
          refine o_v hf hh (yv_move rfl) ?_; clear hf a; intro a hf
          refine o_v hf hh (yv_bin rfl rfl rfl) ?_; clear hf a; intro a hf
          refine o_v hf hh (y_pf rfl rfl) ?_; clear hf a; intro a hf
          refine o_end ?_
          refine c_f hf ?_
          refine sy_skip ?_
          refine then_n ?_
          refine sy_sq ?_
          refine o_call hf Tryd.en_14 rfl rfl rfl (c14 _ (hT2.ext hh.ext (by simp))) ?_; clear hf a; intro v a w hR hf
          obtain ⟨rfl, hx⟩ := hR; replace hh := hh.more hx; clear hx
          refine o_v hf hh (yv_assign rfl) ?_; clear hf a; intro a hf
          refine o_end ?_
          refine sy_ret ?_
          refine ret_r hf rfl rfl ?_
          first
            | exact ⟨rfl, hh.ext⟩
            | exact ⟨rfl, he1.trans hh.ext⟩
            | exact ⟨rfl, he0.trans hh.ext⟩
         ·have hG84 := hg84; try simp only [gS] at hG84
          refine sy_skip ?_
          refine then_n ?_
          refine sy_sq ?_
          refine o_call hf Tryd.en_14 rfl rfl rfl (c14 _ (hT2.ext hh.ext (by simp))) ?_; clear hf a; intro v a w hR hf
          obtain ⟨rfl, hx⟩ := hR; replace hh := hh.more hx; clear hx
          refine o_v hf hh (yv_assign rfl) ?_; clear hf a; intro a hf
          refine o_end ?_
          refine sy_ret ?_
          refine ret_r hf rfl rfl ?_
          first
            | exact ⟨rfl, hh.ext⟩
            | exact ⟨rfl, he1.trans hh.ext⟩
            | exact ⟨rfl, he0.trans hh.ext⟩
end Go.Proofs.YtemmhdgaagaglaaDoor
