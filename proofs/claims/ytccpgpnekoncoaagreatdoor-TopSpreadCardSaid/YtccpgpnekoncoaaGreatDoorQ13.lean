/- Lemmas, in order: Bits, and the pairs of slots in the program's order. The program's iterator of pairs, walked. The program's pairs of slots against the document's. The program's set of scenes that a plan takes, walked. The program's iterator of plans, and what takes a set, walked. The program's Taken and Fewest, walked. The program's Count and Most, walked. The program's collecting of pairs, walked. The program's Best, walked. The document's bar, told. TopSpread: the law. What a law is handed, opened: cards, bars, numbers.. -/
import Derived.Test.YtccpgpnekoncoaaGreatDoorQ12
import Derived.Shelf.Spec.TrailingZeros
import Derived.Test.YtccpgpnekoncoaaGreatDoorRows
import Derived.Test.YtccpgpnekoncoaaGreatDoorChecked
import Derived.JoinedOf
import Derived.LaidLaws
import Derived.Lib.LaidU8
import Derived.RowKit
import Derived.RowKitTokens
import Derived.LaidHandle
import Derived.Stop.Joined
import Derived.Lay
import Derived.OpenShut
import Derived.SizedLaws
import Derived.SevenTiedAt
namespace Go.BarM
open Go Go.Sy
theorem low_clear (t : Nat) : ∀ q : Nat, q.testBit t = true → (∀ i, i < t → q.testBit i = false) → ∀ j, (q &&& (q - 1)).testBit j = (q.testBit j && decide (j ≠ t)) := by
  induction t with
  | zero =>
    intro q h _ j
    rw [Nat.testBit_zero] at h
    have h1 : q % 2 = 1 := by simpa using h
    rw [Nat.testBit_and]
    cases j with
    | zero => simp [Nat.testBit_zero]; omega
    | succ j => rw [Nat.testBit_succ, Nat.testBit_succ, show (q - 1) / 2 = q / 2 by omega]; simp
  | succ t ih =>
    intro q h hl j
    have h0 := hl 0 (by omega)
    rw [Nat.testBit_zero] at h0
    have h1 : q % 2 = 0 := by simp at h0; omega
    have hq : q ≠ 0 := by rintro rfl; simp at h
    rw [Nat.testBit_succ] at h
    have e := ih (q / 2) h (fun i hi => by rw [← Nat.testBit_succ]; exact hl (i + 1) (by omega))
    cases j with
    | zero => rw [Nat.testBit_and, Nat.testBit_zero]; simp [h1]
    | succ j =>
      have := e j
      rw [Nat.testBit_and] at this
      rw [Nat.testBit_and, Nat.testBit_succ, Nat.testBit_succ, show (q - 1) / 2 = q / 2 - 1 by omega, this]
      simp
theorem ctz_bits {q : Nat} (h0 : q ≠ 0) (h : q < 65536) : Lib.ctz 64 q < 16 ∧ q.testBit (Lib.ctz 64 q) = true ∧ ∀ i, i < Lib.ctz 64 q → q.testBit i = false := by
  obtain ⟨m, hm, _⟩ := Lib.ctzFrom_spec 64 q (by omega) (by omega)
  have e : Lib.ctz 64 q = Lib.ctzFrom 64 q := by simp [Lib.ctz, h0]
  rw [e]
  generalize Lib.ctzFrom 64 q = t at hm
  have h1 : q.testBit t = true := by rw [hm, Nat.testBit_two_pow_mul]; simp [Nat.testBit_zero]
  have h2 : ∀ i, i < t → q.testBit i = false := by
    intro i hi; rw [hm, Nat.testBit_two_pow_mul]
    have : ¬ i ≥ t := by omega
    simp [this]
  refine ⟨?_, h1, h2⟩
  by_cases ht : t < 16
  · exact ht
  · have := Nat.testBit_lt_two_pow (x := q) (i := t) (Nat.lt_of_lt_of_le h (Nat.pow_le_pow_right (n := 2) (by omega) (show 16 ≤ t by omega)))
    rw [this] at h1; cases h1
def bitsOf (q : Nat) : List Nat := (List.range 16).filter (q.testBit ·)
theorem bitsOf_zero : bitsOf 0 = [] := by simp [bitsOf]
theorem bitsOf_next {q : Nat} (h0 : q ≠ 0) (h : q < 65536) : bitsOf q = Lib.ctz 64 q :: bitsOf (q &&& (q - 1)) := by
  obtain ⟨h1, h2, h3⟩ := ctz_bits h0 h
  have h4 := low_clear _ q h2 h3
  generalize Lib.ctz 64 q = t at *
  unfold bitsOf
  have hr : List.range 16 = List.range' 0 t ++ t :: List.range' (t + 1) (15 - t) := by
    have e1 : List.range' 0 16 = List.range' 0 t ++ List.range' (0 + t) (16 - t) := by rw [List.range'_append_1]; congr 1; omega
    rw [List.range_eq_range', e1, show 16 - t = (15 - t) + 1 by omega, List.range'_succ, Nat.zero_add]
  rw [hr, List.filter_append, List.filter_append, List.filter_cons, List.filter_cons]
  have a1 : (List.range' 0 t).filter (q.testBit ·) = [] := by
    rw [List.filter_eq_nil_iff]; intro x hx; rw [List.mem_range'_1] at hx; simp [h3 x (by omega)]
  have a2 : (List.range' 0 t).filter ((q &&& (q - 1)).testBit ·) = [] := by
    rw [List.filter_eq_nil_iff]; intro x hx; rw [List.mem_range'_1] at hx; rw [h4]; simp [h3 x (by omega)]
  have a3 : (List.range' (t + 1) (15 - t)).filter (q.testBit ·) = (List.range' (t + 1) (15 - t)).filter ((q &&& (q - 1)).testBit ·) := by
    apply List.filter_congr; intro x hx; rw [List.mem_range'_1] at hx; rw [h4]; simp; omega
  rw [a1, a2, a3, h4 t, h2]
  simp
/-- The two slots at a, d apart, if they take a scene. -/
def cand (p : Nat) (s : Scn) (d a : Nat) : Option (Nat × Nat × Nat) := if (between p a (a + d) : Int) ≤ s.calm then some (between p a (a + d), a, a + d) else none
def rowD (p : Nat) (s : Scn) (d : Nat) : List (Nat × Nat × Nat) := (bitsOf (p &&& (p >>> d))).filterMap (cand p s d)
def restD (p : Nat) (s : Scn) (hi d : Nat) : List (Nat × Nat × Nat) := (List.range' d (hi + 1 - d)).flatMap (rowD p s)
theorem restD_step (p : Nat) (s : Scn) {hi d : Nat} (h : d ≤ hi) : restD p s hi d = (bitsOf (p &&& (p >>> d))).filterMap (cand p s d) ++ restD p s hi (d + 1) := by
  unfold restD
  rw [show hi + 1 - d = (hi + 1 - (d + 1)) + 1 by omega, List.range'_succ, List.flatMap_cons]; rfl
theorem restD_end (p : Nat) (s : Scn) {hi d : Nat} (h : hi < d) : restD p s hi d = [] := by
  unfold restD
  rw [show hi + 1 - d = 0 by omega]; rfl
theorem next_yes {p : Nat} {s : Scn} {d q : Nat} {L D R : List (Nat × Nat × Nat)} (h : (between p (Lib.ctz 64 q) (Lib.ctz 64 q + d) : Int) ≤ s.calm) (h0 : q ≠ 0) (hq : q < 65536) (hx : L = D ++ ((bitsOf q).filterMap (cand p s d) ++ R)) :
    L = D ++ ((between p (Lib.ctz 64 q) (Lib.ctz 64 q + d), Lib.ctz 64 q, Lib.ctz 64 q + d) :: ((bitsOf (q &&& (q - 1))).filterMap (cand p s d) ++ R)) := by
  rw [hx, bitsOf_next h0 hq, List.filterMap_cons]
  have : cand p s d (Lib.ctz 64 q) = some (between p (Lib.ctz 64 q) (Lib.ctz 64 q + d), Lib.ctz 64 q, Lib.ctz 64 q + d) := by unfold cand; rw [if_pos h]
  rw [this]; rfl
theorem next_no {p : Nat} {s : Scn} {d q : Nat} {L D R : List (Nat × Nat × Nat)} (h : ¬ (between p (Lib.ctz 64 q) (Lib.ctz 64 q + d) : Int) ≤ s.calm) (h0 : q ≠ 0) (hq : q < 65536) (hx : L = D ++ ((bitsOf q).filterMap (cand p s d) ++ R)) :
    L = D ++ ((bitsOf (q &&& (q - 1))).filterMap (cand p s d) ++ R) := by
  rw [hx, bitsOf_next h0 hq, List.filterMap_cons]
  have : cand p s d (Lib.ctz 64 q) = none := by unfold cand; rw [if_neg h]
  rw [this]
end Go.BarM

namespace Go.Proofs.YtccpgpnekoncoaaGreatDoor
open Go Go.Sy Go.BarM
theorem c42 (bp p i : Nat) (u : World) : Calls Tryz.prog 24 #[ptr bp 0, .int .u64 p, .int .i64 i] u
    (Ret fun v w' => ∃ B1 B2 B3, v = .func (.func 59) #[] #[ptr B1 0, ptr B2 0, ptr B3 0] ∧ Hp u [] [(B2, .cells #[.int .i64 i] 3), (B3, .cells #[.int .u64 p] 75), (B1, .cells #[ptr bp 0] 62)] w') := by
  refine calls_of Tryz.func24 rfl rfl (fun a hf => ?_)
  have hh := Hp.init u []
  refine sy_seq ?_
  refine sy_ops ?_
  refine ops_box hf hh rfl (.inl rfl) rfl ?_; clear hf hh; clear a; intro B3 a w hf hh
  refine ops_box hf hh rfl (.inl rfl) rfl ?_; clear hf hh; clear a; intro B4 a w hf hh
  refine ops_box hf hh rfl (.inl rfl) rfl ?_; clear hf hh; clear a; intro B5 a w hf hh
  refine ops_v hf hh (yv_assign rfl) (.inl rfl) rfl rfl rfl ?_; clear hf; clear a; intro a hf
  refine ops_end ?_
  refine then_n ?_
  refine sy_seq ?_
  refine sy_ops ?_
  refine ops_v hf hh (yv_makeFunc rfl rfl) (.inl rfl) rfl rfl rfl ?_; clear hf; clear a; intro a hf
  refine ops_v hf hh (yv_assign rfl) (.inl rfl) rfl rfl rfl ?_; clear hf; clear a; intro a hf
  refine ops_end ?_
  refine then_n ?_
  refine sy_ret ?_
  refine ret_r hf rfl rfl ?_
  exact ⟨B3, B5, B4, rfl, hh⟩
/-- What the iterator of pairs looks at. -/
def MemP (b : BarD) (sa : Option Addr) (sc bp bm p i B1 B2 B3 : Nat) (w : World) : Prop :=
  w.heap[B1]? = some (.cells #[ptr bp 0] 62 (0, 0)) ∧ w.heap[B2]? = some (.cells #[.int .i64 i] 3 (0, 0)) ∧ w.heap[B3]? = some (.cells #[.int .u64 p] 75 (0, 0)) ∧ BarO w b sa sc bp bm ∧ ScAt w sa b.scenes ∧ GTab w
def tw (x : Nat × Nat × Nat) : Array Value := #[.agg #[.int .i64 x.1, .int .i64 x.2.1, .int .i64 x.2.2]]
/-- The pairs of slots by which a plan takes a scene, in the program's order. -/
def pairsP (b : BarD) (p : Nat) (s : Scn) : List (Nat × Nat × Nat) := restD p s (hiS b s).toNat (loS b s).toNat
theorem at_done {L D R : List (Nat × Nat × Nat)} {x : Nat × Nat × Nat} (h : L = D ++ x :: R) : (L.map tw)[D.length]? = some (tw x) := by
  subst h; simp
theorem it62 (b : BarD) (sa : Option Addr) (sc bp bm p i B1 B2 B3 : Nat) (s : Scn) (hV : Valid b) (hs : b.scenes[i]? = some s) (hp : p < 65536) :
    IterSpec Tryz.prog 59 #[] #[ptr B1 0, ptr B2 0, ptr B3 0] ((pairsP b p s).map tw) (MemP b sa sc bp bm p i B1 B2 B3) := by
  intro l J K u hJM hJe hKe hy hJ0
  have hil := len_of hs
  have hn := hV.n
  have hO := hV.sc s (List.mem_of_getElem? hs)
  have hlb := loS_bd hV hO
  have hhb := hiS_bd hV hO
  have hs2 := hV.s2
  have hle2 := @Nat.and_le_left p
  obtain ⟨blk, off, _, _, _, e, _, _⟩ := (hJM _ _ hJ0).2.2.2.2.1 i s hs; subst e
  show Calls Tryz.prog 59 #[.func (.yield l) #[] #[], ptr B1 0, ptr B2 0, ptr B3 0] u _
  refine calls_of Tryz.func59 rfl rfl (fun a hf => ?_)
  have hh := Hp.init u []
  obtain ⟨m1, m2, m3, ⟨cs, hb, hcs⟩, hS, hT⟩ := hJM _ _ hJ0
  obtain ⟨blk', off', c, T, fr, e, hbs, hc⟩ := hS i s hs; cases e
  have c4 := hcs.c4
  have hlo : cs[0 + 5 + ((i : Nat) : Int).toNat * 2 + (0 : Int).toNat * 1]? = some (.int .i64 (loS b s)) := by simpa using hcs.lo i s hil hs
  have hhi : cs[0 + 5 + ((i : Nat) : Int).toNat * 2 + (1 : Int).toNat * 1]? = some (.int .i64 (hiS b s)) := by simpa using hcs.hi i s hil hs
  have hcalm : c[off + ((i : Nat) : Int).toNat * 3 + 2]? = some (.int .i64 s.calm) := by simpa using (cellsAt_get 3 _ _ hc).2 2 _ rfl
  have hh := Hp.init u []
  refine sy_seq ?_
  refine sy_quiet (C := Hp _ _ _) Tryz.follows (by kernel_rfl) (hh.drawn _) ?_
  refine q_v hf (yv_load Tryz.sc_62 rfl (fun _ h => by first | exact h.at (i := 0) rfl | exact h.old m1 | exact h.old m2 | exact h.old m3 | exact h.old hb | exact h.old hbs) (by first | rfl | assumption)) (.inl rfl) rfl rfl ?_; clear hf; clear a; intro a hf
  refine q_v hf (yv_load Tryz.sc_3 rfl (fun _ h => by first | exact h.at (i := 0) rfl | exact h.old m1 | exact h.old m2 | exact h.old m3 | exact h.old hb | exact h.old hbs) (by first | rfl | assumption)) (.inl rfl) rfl rfl ?_; clear hf; clear a; intro a hf
  refine q_v hf (yv_nilCheck rfl) (.inl rfl) rfl rfl ?_; clear hf; clear a; intro a hf
  refine q_v hf (yv_fieldAddr Tryz.fo_128_1 rfl) (.inl rfl) rfl rfl ?_; clear hf; clear a; intro a hf
  refine q_v hf (yv_indexArr Tryz.ae_126 rfl rfl (by omega) (by omega)) (.inl rfl) rfl rfl ?_; clear hf; clear a; intro a hf
  refine q_v hf (yv_indexArr Tryz.ae_83 rfl rfl (by omega) (by omega)) (.inl rfl) rfl rfl ?_; clear hf; clear a; intro a hf
  refine q_v hf (yv_load Tryz.sc_3 rfl (fun _ h => by first | exact h.at (i := 0) rfl | exact h.old m1 | exact h.old m2 | exact h.old m3 | exact h.old hb | exact h.old hbs) (by first | rfl | assumption)) (.inl rfl) rfl rfl ?_; clear hf; clear a; intro a hf
  refine q_v hf (yv_assign rfl) (.inl rfl) rfl rfl ?_; clear hf; clear a; intro a hf
  refine q_end fun w hh => ?_
  refine then_n ?_
  refine sy_block ?_
  refine sy_loopH (σ := Nat) [5, 6, 7, 8, 16, 17, 18, 19, 20, 21, 22, 23, 24, 25, 26, 27, 28, 29, 30, 31, 32, 33, 34, 35, 36, 37, 38, 39, 40, 41, 42, 43, 44, 45, 46, 47, 48, 49, 50, 51, 52, 53, 54, 55, 56, 57, 58, 59, 60, 61, 62, 63, 64, 65, 66, 67] (fun d => [(5, .int .i64 d)]) (fun d => fun w' => (1 ≤ d ∧ d ≤ 20001) ∧ ∃ done, pairsP b p s = done ++ restD p s (hiS b s).toNat d ∧ J done.length w') (fun d => 20002 - d) ((loS b s).toNat) hf ?_ ?_ ?_
  · exact ⟨congrArg (fun z => some (Value.int IntKind.i64 z)) (Int.toNat_of_nonneg (by omega)).symm, True.intro⟩
  · exact ⟨by omega, [], rfl, hJe _ _ _ hJ0 hh.ext⟩
  · rintro d a w ⟨⟨hd1, hd2⟩, done, hx, hJ⟩ hf
    obtain ⟨m1, m2, m3, ⟨cs, hb, hcs⟩, hS, hT⟩ := hJM _ _ hJ
    obtain ⟨blk', off', c, T, fr, e, hbs, hc⟩ := hS i s hs; cases e
    have c4 := hcs.c4
    have hlo : cs[0 + 5 + ((i : Nat) : Int).toNat * 2 + (0 : Int).toNat * 1]? = some (.int .i64 (loS b s)) := by simpa using hcs.lo i s hil hs
    have hhi : cs[0 + 5 + ((i : Nat) : Int).toNat * 2 + (1 : Int).toNat * 1]? = some (.int .i64 (hiS b s)) := by simpa using hcs.hi i s hil hs
    have hcalm : c[off + ((i : Nat) : Int).toNat * 3 + 2]? = some (.int .i64 s.calm) := by simpa using (cellsAt_get 3 _ _ hc).2 2 _ rfl
    have hh := Hp.init w []
    refine sy_seq ?_
    refine sy_seq ?_
    refine sy_quiet (C := Hp _ _ _) Tryz.follows (by kernel_rfl) (hh.drawn _) ?_
    refine q_v hf (yv_move rfl) (.inl rfl) rfl rfl ?_; clear hf; clear a; intro a hf
    refine q_v hf (yv_load Tryz.sc_62 rfl (fun _ h => by first | exact h.at (i := 0) rfl | exact h.old m1 | exact h.old m2 | exact h.old m3 | exact h.old hb | exact h.old hbs) (by first | rfl | assumption)) (.inl rfl) rfl rfl ?_; clear hf; clear a; intro a hf
    refine q_v hf (yv_load Tryz.sc_3 rfl (fun _ h => by first | exact h.at (i := 0) rfl | exact h.old m1 | exact h.old m2 | exact h.old m3 | exact h.old hb | exact h.old hbs) (by first | rfl | assumption)) (.inl rfl) rfl rfl ?_; clear hf; clear a; intro a hf
    refine q_v hf (yv_nilCheck rfl) (.inl rfl) rfl rfl ?_; clear hf; clear a; intro a hf
    refine q_v hf (yv_fieldAddr Tryz.fo_128_1 rfl) (.inl rfl) rfl rfl ?_; clear hf; clear a; intro a hf
    refine q_v hf (yv_indexArr Tryz.ae_126 rfl rfl (by omega) (by omega)) (.inl rfl) rfl rfl ?_; clear hf; clear a; intro a hf
    refine q_v hf (yv_indexArr Tryz.ae_83 rfl rfl (by omega) (by omega)) (.inl rfl) rfl rfl ?_; clear hf; clear a; intro a hf
    refine q_v hf (yv_load Tryz.sc_3 rfl (fun _ h => by first | exact h.at (i := 0) rfl | exact h.old m1 | exact h.old m2 | exact h.old m3 | exact h.old hb | exact h.old hbs) (by first | rfl | assumption)) (.inl rfl) rfl rfl ?_; clear hf; clear a; intro a hf
    refine q_v hf (yv_bin rfl rfl rfl) (.inl rfl) rfl rfl ?_; clear hf; clear a; intro a hf
    refine q_end fun w hh => ?_
    refine then_n ?_
    refine sy_cond hf rfl (fun hg2 => ?_) (fun hg2 => ?_)
    · have hG2 := hg2; try simp only [gS] at hG2
      refine sy_skip ?_
      refine then_n ?_
      refine sy_seq ?_
      refine sy_block ?_
      refine sy_seq ?_
      have hshr := Nat.shiftRight_le p d
      obtain ⟨z, hz⟩ : ∃ z, z = p >>> d := ⟨_, rfl⟩
      rw [← hz] at hshr
      have hle := @Nat.and_le_left p z
      refine sy_quiet (C := Hp _ _ _) Tryz.follows (by kernel_rfl) (hh.drawn _) ?_
      refine q_v hf (yv_load Tryz.sc_75 rfl (fun _ h => by first | exact h.at (i := 0) rfl | exact h.old m1 | exact h.old m2 | exact h.old m3 | exact h.old hb | exact h.old hbs) (by first | rfl | assumption)) (.inl rfl) rfl rfl ?_; clear hf; clear a; intro a hf
      refine q_v hf (yv_load Tryz.sc_75 rfl (fun _ h => by first | exact h.at (i := 0) rfl | exact h.old m1 | exact h.old m2 | exact h.old m3 | exact h.old hb | exact h.old hbs) (by first | rfl | assumption)) (.inl rfl) rfl rfl ?_; clear hf; clear a; intro a hf
      refine q_v hf (yv_move rfl) (.inl rfl) rfl rfl ?_; clear hf; clear a; intro a hf
      refine q_v hf (yv_cast (yv_shrx (.inr rfl) rfl rfl (by omega) (by omega) (by omega)) (intv (b := ((p >>> d : Nat) : Int)) (by rw [Int.toNat_natCast, Int.toNat_natCast]))) (.inl rfl) rfl rfl ?_; clear hf; clear a; intro a hf
      refine q_v hf (yv_cast (yv_and (.inr rfl) rfl rfl (by omega) (by simp only [IntKind.top]; omega) (by rw [← hz]; omega) (by rw [← hz]; simp only [IntKind.top]; omega)) (intv (b := ((p &&& (p >>> d) : Nat) : Int)) (by rw [Int.toNat_natCast, Int.toNat_natCast]))) (.inl rfl) rfl rfl ?_; clear hf; clear a; intro a hf
      refine q_v hf (yv_assign rfl) (.inl rfl) rfl rfl ?_; clear hf; clear a; intro a hf
      refine q_end fun w hh => ?_
      refine then_n ?_
      refine sy_block ?_
      refine sy_loopH (σ := Nat) [6, 7, 8, 32, 33, 34, 35, 36, 37, 38, 39, 40, 41, 42, 43, 44, 45, 46, 47, 48, 49, 50, 51, 52, 53, 54, 55, 56, 57, 58, 59, 60, 61, 62, 63, 64, 65, 66, 67] (fun q => [(6, .int .u64 q)]) (fun q => fun w' => q < 65536 ∧ ∃ done, pairsP b p s = done ++ ((bitsOf q).filterMap (cand p s d) ++ restD p s (hiS b s).toNat (d + 1)) ∧ J done.length w') (fun q => q) (p &&& (p >>> d)) hf ?_ ?_ ?_
      · exact ⟨rfl, True.intro⟩
      · exact ⟨by rw [← hz]; omega, done, by rw [hx, restD_step p s (by omega)], hJe _ _ _ hJ hh.ext⟩
      · rintro q a w ⟨hq, done2, hx2, hJ2⟩ hf
        obtain ⟨m1, m2, m3, ⟨cs, hb, hcs⟩, hS, hT⟩ := hJM _ _ hJ2
        obtain ⟨blk', off', c, T, fr, e, hbs, hc⟩ := hS i s hs; cases e
        have c4 := hcs.c4
        have hlo : cs[0 + 5 + ((i : Nat) : Int).toNat * 2 + (0 : Int).toNat * 1]? = some (.int .i64 (loS b s)) := by simpa using hcs.lo i s hil hs
        have hhi : cs[0 + 5 + ((i : Nat) : Int).toNat * 2 + (1 : Int).toNat * 1]? = some (.int .i64 (hiS b s)) := by simpa using hcs.hi i s hil hs
        have hcalm : c[off + ((i : Nat) : Int).toNat * 3 + 2]? = some (.int .i64 s.calm) := by simpa using (cellsAt_get 3 _ _ hc).2 2 _ rfl
        have hh := Hp.init w []
        refine sy_seq ?_
        refine sy_seq ?_
        refine sy_ops ?_
        refine ops_v hf hh (yv_move rfl) (.inl rfl) rfl rfl rfl ?_; clear hf; clear a; intro a hf
        refine ops_v hf hh (yv_bin rfl rfl rfl) (.inl rfl) rfl rfl rfl ?_; clear hf; clear a; intro a hf
        refine ops_end ?_
        refine then_n ?_
        refine sy_cond hf rfl (fun hg6 => ?_) (fun hg6 => ?_)
        · have hG6 := hg6; try simp only [gS] at hG6
          refine sy_skip ?_
          refine then_n ?_
          refine sy_seq ?_
          refine sy_block ?_
          refine sy_seq ?_
          have hq0 : q ≠ 0 := by omega
          obtain ⟨ht16, _, _⟩ := ctz_bits hq0 hq
          refine sy_ops ?_
          refine ops_v hf hh (yv_move rfl) (.inl rfl) rfl rfl rfl ?_; clear hf; clear a; intro a hf
          refine ops_call hf Tryz.en_60 rfl rfl rfl (.inl rfl) rfl (c63 q hq (by omega) _ (hT.ext hh.ext (by simp))) ?_; clear hf; clear a; intro v a w hR hf
          obtain ⟨rfl, hx⟩ := hR; replace hh := hh.more hx; clear hx
          refine ops_v hf hh (yv_assign rfl) (.inl rfl) rfl rfl rfl ?_; clear hf; clear a; intro a hf
          refine ops_end ?_
          refine then_n ?_
          refine sy_seq ?_
          refine sy_ops ?_
          refine ops_v hf hh (yv_load Tryz.sc_75 rfl (fun _ h => by first | exact h.at (i := 0) rfl | exact h.old m1 | exact h.old m2 | exact h.old m3 | exact h.old hb | exact h.old hbs) (by first | rfl | assumption)) (.inl rfl) rfl rfl rfl ?_; clear hf; clear a; intro a hf
          refine ops_v hf hh (yv_move rfl) (.inl rfl) rfl rfl rfl ?_; clear hf; clear a; intro a hf
          refine ops_v hf hh (yv_move rfl) (.inl rfl) rfl rfl rfl ?_; clear hf; clear a; intro a hf
          refine ops_v hf hh (yv_move rfl) (.inl rfl) rfl rfl rfl ?_; clear hf; clear a; intro a hf
          refine ops_v hf hh (yv_cast (yv_add rfl rfl (by omega) (by omega)) (intv (b := ((Lib.ctz 64 q + d : Nat) : Int)) (by omega))) (.inl rfl) rfl rfl rfl ?_; clear hf; clear a; intro a hf
          refine ops_call hf Tryz.en_61 rfl rfl rfl (.inl rfl) rfl (c64 p (Lib.ctz 64 q) (Lib.ctz 64 q + d) _ hp (by omega) (by omega)) ?_; clear hf; clear a; intro v a w hR hf
          obtain ⟨rfl, hx⟩ := hR; replace hh := hh.more hx; clear hx
          refine ops_v hf hh (yv_assign rfl) (.inl rfl) rfl rfl rfl ?_; clear hf; clear a; intro a hf
          refine ops_end ?_
          refine then_n ?_
          refine sy_seq ?_
          refine sy_tail (C := Hp _ _ _) 19 Tryz.follows (by kernel_rfl) rfl rfl (hh.drawn _) ?_
          refine q_v hf (yv_move rfl) (.inl rfl) rfl rfl ?_; clear hf; clear a; intro a hf
          refine q_v hf (yv_load Tryz.sc_62 rfl (fun _ h => by first | exact h.at (i := 0) rfl | exact h.old m1 | exact h.old m2 | exact h.old m3 | exact h.old hb | exact h.old hbs) (by first | rfl | assumption)) (.inl rfl) rfl rfl ?_; clear hf; clear a; intro a hf
          refine q_v hf (yv_nilCheck rfl) (.inl rfl) rfl rfl ?_; clear hf; clear a; intro a hf
          refine q_v hf (yv_fieldAddr Tryz.fo_128_0 rfl) (.inl rfl) rfl rfl ?_; clear hf; clear a; intro a hf
          refine q_v hf (yv_fieldAddr Tryz.fo_24_4 rfl) (.inl rfl) rfl rfl ?_; clear hf; clear a; intro a hf
          refine q_v hf (yv_load Tryz.sc_22 rfl (fun _ h => by first | exact h.at (i := 0) rfl | exact h.old m1 | exact h.old m2 | exact h.old m3 | exact h.old hb | exact h.old hbs) (by first | rfl | assumption)) (.inl rfl) rfl rfl ?_; clear hf; clear a; intro a hf
          refine q_v hf (yv_load Tryz.sc_3 rfl (fun _ h => by first | exact h.at (i := 0) rfl | exact h.old m1 | exact h.old m2 | exact h.old m3 | exact h.old hb | exact h.old hbs) (by first | rfl | assumption)) (.inl rfl) rfl rfl ?_; clear hf; clear a; intro a hf
          refine q_v hf (yv_indexAddr Tryz.se_22 rfl rfl (by omega) (by omega)) (.inl rfl) rfl rfl ?_; clear hf; clear a; intro a hf
          refine q_v hf (yv_fieldAddr Tryz.fo_33_2 rfl) (.inl rfl) rfl rfl ?_; clear hf; clear a; intro a hf
          refine q_v hf (yv_load Tryz.sc_3 rfl (fun _ h => by first | exact h.at (i := 0) rfl | exact h.old m1 | exact h.old m2 | exact h.old m3 | exact h.old hb | exact h.old hbs) (by first | rfl | assumption)) (.inl rfl) rfl rfl ?_; clear hf; clear a; intro a hf
          refine q_v hf (yv_bin rfl rfl rfl) (.inl rfl) rfl rfl ?_; clear hf; clear a; intro a hf
          refine q_v hf (yv_move rfl) (.inl rfl) rfl rfl ?_; clear hf; clear a; intro a hf
          refine guard_splitq hf (t := 57) rfl (fun hg11 => ?_) (fun hg11 => ?_)
          · have hG11 := hg11; try simp only [gS] at hG11
            refine q_v hf (yv_move rfl) (gon rfl rfl rfl (by first | assumption | rfl | (simp; done))) rfl rfl ?_; clear hf; clear a; intro a hf
            refine q_v hf (yv_move rfl) (gon rfl rfl rfl (by first | assumption | rfl | (simp; done))) rfl rfl ?_; clear hf; clear a; intro a hf
            refine q_v hf (yv_move rfl) (gon rfl rfl rfl (by first | assumption | rfl | (simp; done))) rfl rfl ?_; clear hf; clear a; intro a hf
            refine q_v hf (yv_move rfl) (gon rfl rfl rfl (by first | assumption | rfl | (simp; done))) rfl rfl ?_; clear hf; clear a; intro a hf
            refine q_v hf (yv_move rfl) (gon rfl rfl rfl (by first | assumption | rfl | (simp; done))) rfl rfl ?_; clear hf; clear a; intro a hf
            refine q_v hf (yv_cast (yv_add rfl rfl (by omega) (by omega)) (intv (b := ((Lib.ctz 64 q + d : Nat) : Int)) (by omega))) (gon rfl rfl rfl (by first | assumption | rfl | (simp; done))) rfl rfl ?_; clear hf; clear a; intro a hf
            refine q_v hf (yv_buildS Tryz.bs_70 rfl rfl) (gon rfl rfl rfl (by first | assumption | rfl | (simp; done))) rfl rfl ?_; clear hf; clear a; intro a hf
            refine q_end fun w hh => ?_
            have hxy := next_yes (by assumption) hq0 hq hx2
            refine ops_yield hf rfl rfl (gon rfl rfl rfl (by first | assumption | rfl | (simp; done))) rfl (hy _ _ _ (at_done hxy) (hJe _ _ _ hJ2 hh.ext)) ?_; clear hf; clear a; intro v a w hR hf
            have hR2 : ∃ o : Bool, v = .bool o ∧ (o = true → J (done2.length + 1) w) ∧ (o = false → K done2.length w) := by
              rcases hR with ⟨rfl, h⟩ | ⟨rfl, h⟩
              · exact ⟨true, rfl, fun _ => h, fun h => by cases h⟩
              · exact ⟨false, rfl, (fun h => by cases h), fun _ => h⟩
            clear hR
            obtain ⟨o, rfl, ho1, ho2⟩ := hR2
            clear hh; have hh := Hp.init w []
            refine ops_v hf hh (yv_not rfl) (gon rfl rfl rfl (by first | assumption | rfl | (simp; done))) rfl rfl rfl ?_; clear hf; clear a; intro a hf
            refine ops_v hf hh (yv_pick_t rfl (by first | assumption | rfl | (simp; done)) rfl) (.inl rfl) rfl rfl rfl ?_; clear hf; clear a; intro a hf
            refine ops_end ?_
            refine then_n ?_
            refine sy_cond hf rfl (fun hg14 => ?_) (fun hg14 => ?_)
            · have hG14 := hg14; try simp only [gS] at hG14
              refine sy_ret ?_
              refine blk_r ?_
              refine then_r ?_
              refine then_r ?_
              refine blk_r ?_
              refine blk_r ?_
              refine then_r ?_
              refine then_r ?_
              refine blk_r ?_
              refine ret_r hf rfl rfl ?_
              first
                | exact .inr ⟨_, hKe _ _ _ (ho2 (by assumption)) hh.ext⟩
                | (refine .inl ?_
                   have hle : pairsP b p s = done := by rw [hx, restD_end p s (by omega), List.append_nil]
                   rw [hle, List.length_map]
                   exact hJe _ _ _ hJ hh.ext)
            · have hG14 := hg14; try simp only [gS] at hG14
              refine sy_skip ?_
              refine blk_n ?_
              refine then_n ?_
              refine sy_ops ?_
              refine ops_v hf hh (yv_move rfl) (.inl rfl) rfl rfl rfl ?_; clear hf; clear a; intro a hf
              refine ops_v hf hh (yv_move rfl) (.inl rfl) rfl rfl rfl ?_; clear hf; clear a; intro a hf
              refine ops_v hf hh (yv_cast (yv_subx (.inr rfl) rfl rfl (by omega) (by simp only [IntKind.top]; omega)) (intv (b := ((q - 1 : Nat) : Int)) (by omega))) (.inl rfl) rfl rfl rfl ?_; clear hf; clear a; intro a hf
              refine ops_v hf hh (yv_cast (yv_and (.inr rfl) rfl rfl (by omega) (by simp only [IntKind.top]; omega) (by omega) (by simp only [IntKind.top]; omega)) (intv (b := ((q &&& (q - 1) : Nat) : Int)) (by rw [Int.toNat_natCast, Int.toNat_natCast]))) (.inl rfl) rfl rfl rfl ?_; clear hf; clear a; intro a hf
              refine ops_v hf hh (yv_assign rfl) (.inl rfl) rfl rfl rfl ?_; clear hf; clear a; intro a hf
              refine ops_end ?_
              refine then_n ?_
              have hlt : q &&& (q - 1) < q := by have := @Nat.and_le_right q (q - 1); omega
              first
                | (have hxy := next_no (by omega) hq0 hq hx2
                   exact ⟨q &&& (q - 1), ⟨⟨by omega, done2, hxy, hJe _ _ _ hJ2 hh.ext⟩, hf.head ⟨rfl, True.intro⟩ (Keep.cons rfl (Keep.cons rfl (Keep.cons rfl (Keep.cons rfl (Keep.cons rfl (Keep.cons rfl (Keep.cons rfl (Keep.cons rfl (Keep.cons rfl (Keep.cons rfl (Keep.cons rfl (Keep.cons rfl (Keep.cons rfl (Keep.cons rfl (Keep.cons rfl (Keep.cons rfl (Keep.cons rfl (Keep.cons rfl (Keep.cons rfl (Keep.cons rfl (Keep.cons rfl (Keep.cons rfl (Keep.cons rfl (Keep.cons rfl (Keep.cons rfl (Keep.cons rfl (Keep.cons rfl (Keep.cons rfl (Keep.cons rfl (Keep.cons rfl (Keep.cons rfl (Keep.cons rfl (Keep.cons rfl (Keep.cons rfl (Keep.cons rfl (Keep.cons rfl (Keep.cons rfl (Keep.cons rfl (Keep.cons rfl (Keep.app rfl (Keep.rm rfl Keep.base)))))))))))))))))))))))))))))))))))))))))⟩, hlt⟩)
                | (refine ⟨q &&& (q - 1), ⟨⟨by omega, done2 ++ [(between p (Lib.ctz 64 q) (Lib.ctz 64 q + d), Lib.ctz 64 q, Lib.ctz 64 q + d)], by rw [hxy, List.append_assoc]; rfl, ?_⟩, hf.head ⟨rfl, True.intro⟩ (Keep.cons rfl (Keep.cons rfl (Keep.cons rfl (Keep.cons rfl (Keep.cons rfl (Keep.cons rfl (Keep.cons rfl (Keep.cons rfl (Keep.cons rfl (Keep.cons rfl (Keep.cons rfl (Keep.cons rfl (Keep.cons rfl (Keep.cons rfl (Keep.cons rfl (Keep.cons rfl (Keep.cons rfl (Keep.cons rfl (Keep.cons rfl (Keep.cons rfl (Keep.cons rfl (Keep.cons rfl (Keep.cons rfl (Keep.cons rfl (Keep.cons rfl (Keep.cons rfl (Keep.cons rfl (Keep.cons rfl (Keep.cons rfl (Keep.cons rfl (Keep.cons rfl (Keep.cons rfl (Keep.cons rfl (Keep.cons rfl (Keep.cons rfl (Keep.cons rfl (Keep.cons rfl (Keep.cons rfl (Keep.cons rfl (Keep.app rfl (Keep.rm rfl Keep.base)))))))))))))))))))))))))))))))))))))))))⟩, hlt⟩
                   rw [List.length_append]
                   exact hJe _ _ _ (ho1 (by assumption)) hh.ext)
          · have hG11 := hg11; try simp only [gS] at hG11
            refine q_off hf (goff rfl rfl rfl (by first | assumption | rfl | (simp; done))) rfl rfl ?_; clear hf; clear a; intro a hf
            refine q_off hf (goff rfl rfl rfl (by first | assumption | rfl | (simp; done))) rfl rfl ?_; clear hf; clear a; intro a hf
            refine q_off hf (goff rfl rfl rfl (by first | assumption | rfl | (simp; done))) rfl rfl ?_; clear hf; clear a; intro a hf
            refine q_off hf (goff rfl rfl rfl (by first | assumption | rfl | (simp; done))) rfl rfl ?_; clear hf; clear a; intro a hf
            refine q_off hf (goff rfl rfl rfl (by first | assumption | rfl | (simp; done))) rfl rfl ?_; clear hf; clear a; intro a hf
            refine q_off hf (goff rfl rfl rfl (by first | assumption | rfl | (simp; done))) rfl rfl ?_; clear hf; clear a; intro a hf
            refine q_off hf (goff rfl rfl rfl (by first | assumption | rfl | (simp; done))) rfl rfl ?_; clear hf; clear a; intro a hf
            refine q_end fun w hh => ?_
            refine ops_off hf (goff rfl rfl rfl (by first | assumption | rfl | (simp; done))) rfl rfl ?_; clear hf; clear a; intro a hf
            refine ops_off hf (goff rfl rfl rfl (by first | assumption | rfl | (simp; done))) rfl rfl ?_; clear hf; clear a; intro a hf
            refine ops_v hf hh (yv_pick_f rfl (by first | assumption | rfl | (simp; done)) rfl) (.inl rfl) rfl rfl rfl ?_; clear hf; clear a; intro a hf
            refine ops_end ?_
            refine then_n ?_
            refine sy_cf hf rfl (by first | assumption | rfl | (simp; done)) ?_
            refine sy_skip ?_
            refine blk_n ?_
            refine then_n ?_
            refine sy_ops ?_
            refine ops_v hf hh (yv_move rfl) (.inl rfl) rfl rfl rfl ?_; clear hf; clear a; intro a hf
            refine ops_v hf hh (yv_move rfl) (.inl rfl) rfl rfl rfl ?_; clear hf; clear a; intro a hf
            refine ops_v hf hh (yv_cast (yv_subx (.inr rfl) rfl rfl (by omega) (by simp only [IntKind.top]; omega)) (intv (b := ((q - 1 : Nat) : Int)) (by omega))) (.inl rfl) rfl rfl rfl ?_; clear hf; clear a; intro a hf
            refine ops_v hf hh (yv_cast (yv_and (.inr rfl) rfl rfl (by omega) (by simp only [IntKind.top]; omega) (by omega) (by simp only [IntKind.top]; omega)) (intv (b := ((q &&& (q - 1) : Nat) : Int)) (by rw [Int.toNat_natCast, Int.toNat_natCast]))) (.inl rfl) rfl rfl rfl ?_; clear hf; clear a; intro a hf
            refine ops_v hf hh (yv_assign rfl) (.inl rfl) rfl rfl rfl ?_; clear hf; clear a; intro a hf
            refine ops_end ?_
            refine then_n ?_
            have hlt : q &&& (q - 1) < q := by have := @Nat.and_le_right q (q - 1); omega
            first
              | (have hxy := next_no (by omega) hq0 hq hx2
                 exact ⟨q &&& (q - 1), ⟨⟨by omega, done2, hxy, hJe _ _ _ hJ2 hh.ext⟩, hf.head ⟨rfl, True.intro⟩ (Keep.cons rfl (Keep.cons rfl (Keep.cons rfl (Keep.cons rfl (Keep.cons rfl (Keep.cons rfl (Keep.cons rfl (Keep.cons rfl (Keep.cons rfl (Keep.cons rfl (Keep.cons rfl (Keep.cons rfl (Keep.cons rfl (Keep.cons rfl (Keep.cons rfl (Keep.cons rfl (Keep.cons rfl (Keep.cons rfl (Keep.cons rfl (Keep.cons rfl (Keep.cons rfl (Keep.cons rfl (Keep.cons rfl (Keep.cons rfl (Keep.cons rfl (Keep.cons rfl (Keep.cons rfl (Keep.cons rfl (Keep.cons rfl (Keep.cons rfl (Keep.cons rfl (Keep.cons rfl (Keep.cons rfl (Keep.cons rfl (Keep.cons rfl (Keep.cons rfl (Keep.cons rfl (Keep.cons rfl (Keep.cons rfl (Keep.app rfl (Keep.rm rfl Keep.base)))))))))))))))))))))))))))))))))))))))))⟩, hlt⟩)
              | (refine ⟨q &&& (q - 1), ⟨⟨by omega, done2 ++ [(between p (Lib.ctz 64 q) (Lib.ctz 64 q + d), Lib.ctz 64 q, Lib.ctz 64 q + d)], by rw [hxy, List.append_assoc]; rfl, ?_⟩, hf.head ⟨rfl, True.intro⟩ (Keep.cons rfl (Keep.cons rfl (Keep.cons rfl (Keep.cons rfl (Keep.cons rfl (Keep.cons rfl (Keep.cons rfl (Keep.cons rfl (Keep.cons rfl (Keep.cons rfl (Keep.cons rfl (Keep.cons rfl (Keep.cons rfl (Keep.cons rfl (Keep.cons rfl (Keep.cons rfl (Keep.cons rfl (Keep.cons rfl (Keep.cons rfl (Keep.cons rfl (Keep.cons rfl (Keep.cons rfl (Keep.cons rfl (Keep.cons rfl (Keep.cons rfl (Keep.cons rfl (Keep.cons rfl (Keep.cons rfl (Keep.cons rfl (Keep.cons rfl (Keep.cons rfl (Keep.cons rfl (Keep.cons rfl (Keep.cons rfl (Keep.cons rfl (Keep.cons rfl (Keep.cons rfl (Keep.cons rfl (Keep.cons rfl (Keep.app rfl (Keep.rm rfl Keep.base)))))))))))))))))))))))))))))))))))))))))⟩, hlt⟩
                 rw [List.length_append]
                 exact hJe _ _ _ (ho1 (by assumption)) hh.ext)
        · have hG6 := hg6; try simp only [gS] at hG6
          refine sy_exit ?_
          refine then_e ?_
          refine then_e ?_
          refine blk_e ?_
          refine blk_n ?_
          refine then_n ?_
          refine sy_ops ?_
          refine ops_v hf hh (yv_move rfl) (.inl rfl) rfl rfl rfl ?_; clear hf; clear a; intro a hf
          first | refine ops_v hf hh (yv_add rfl rfl (by omega) (by omega)) (.inl rfl) rfl rfl rfl ?_; clear hf; clear a; intro a hf | refine ops_v hf hh (yv_bin rfl rfl rfl) (.inl rfl) rfl rfl rfl ?_; clear hf; clear a; intro a hf
          refine ops_v hf hh (yv_assign rfl) (.inl rfl) rfl rfl rfl ?_; clear hf; clear a; intro a hf
          refine ops_end ?_
          refine then_n ?_
          have hq00 : q = 0 := by omega
          subst hq00
          refine ⟨d + 1, ⟨⟨⟨by omega, by omega⟩, done2, by rw [hx2, bitsOf_zero]; rfl, hJe _ _ _ hJ2 hh.ext⟩, hf.head ⟨rfl, True.intro⟩ (Keep.cons rfl (Keep.cons rfl (Keep.cons rfl (Keep.cons rfl (Keep.cons rfl (Keep.app rfl (Keep.rm rfl (Keep.cons rfl (Keep.cons rfl (Keep.cons rfl (Keep.cons rfl (Keep.cons rfl (Keep.cons rfl (Keep.cons rfl (Keep.cons rfl (Keep.cons rfl (Keep.cons rfl (Keep.cons rfl (Keep.cons rfl (Keep.cons rfl (Keep.cons rfl (Keep.cons rfl (Keep.app rfl (Keep.rm rfl Keep.base))))))))))))))))))))))))⟩, by omega⟩
    · have hG2 := hg2; try simp only [gS] at hG2
      refine sy_exit ?_
      refine then_e ?_
      refine then_e ?_
      refine blk_e ?_
      refine ret_n hf rfl rfl ?_
      first
        | exact .inr ⟨_, hKe _ _ _ (ho2 (by assumption)) hh.ext⟩
        | (refine .inl ?_
           have hle : pairsP b p s = done := by rw [hx, restD_end p s (by omega), List.append_nil]
           rw [hle, List.length_map]
           exact hJe _ _ _ hJ hh.ext)
end Go.Proofs.YtccpgpnekoncoaaGreatDoor

namespace Go.BarM
open Go Go.Sy Go.Proofs.YtccpgpnekoncoaaGreatDoor
theorem lo_le {b : BarD} {s : Scn} {d : Int} (hV : Valid b) (hO : OkS s) : loS b s ≤ d ↔ 1 ≤ d ∧ s.least ≤ b.pitch * d := by
  have hp := hV.p1
  unfold loS
  rw [Int.max_le]
  refine and_congr_right fun h1 => ?_
  have e : (s.least + b.pitch - 1) / b.pitch < d + 1 ↔ s.least + b.pitch - 1 < (d + 1) * b.pitch := Int.ediv_lt_iff_lt_mul (by omega)
  have e2 : (d + 1) * b.pitch = b.pitch * d + b.pitch := by rw [Int.add_mul, Int.one_mul, Int.mul_comm]
  rw [e2] at e
  omega
theorem le_hi {b : BarD} {s : Scn} {d : Int} (hV : Valid b) (hO : OkS s) : d ≤ hiS b s ↔ d ≤ b.slots - 1 ∧ b.pitch * d ≤ s.most := by
  have hp := hV.p1
  unfold hiS
  rw [Int.le_min]
  refine and_congr_right fun h1 => ?_
  rw [Int.le_ediv_iff_mul_le (by omega), Int.mul_comm]
theorem bit_lt {p n k : Nat} (h : p < 2 ^ n) (hb : p.testBit k = true) : k < n := by
  by_cases hk : k < n
  · exact hk
  · rw [testBit_lt h (by omega)] at hb; cases hb
theorem mem_pairsP {b : BarD} {p : Nat} {s : Scn} (hV : Valid b) (hO : OkS s) (hp : p < 2 ^ b.slots.toNat) (n l r : Nat) :
    (n, l, r) ∈ pairsP b p s ↔ byB b p s l r = true ∧ n = between p l r := by
  have hs1 := hV.s1; have hs2 := hV.s2
  have hl := loS_bd hV hO; have hh := hiS_bd hV hO
  unfold pairsP restD rowD bitsOf byB
  simp only [List.mem_flatMap, List.mem_range'_1, List.mem_filterMap, List.mem_filter, List.mem_range, Nat.testBit_and, Nat.testBit_shiftRight, Bool.and_eq_true, decide_eq_true_eq]
  constructor
  · rintro ⟨d, ⟨hd1, hd2⟩, a, ⟨ha, hb1, hb2⟩, hc⟩
    unfold cand at hc
    split at hc
    · rename_i hcalm
      simp only [Option.some.injEq, Prod.mk.injEq] at hc
      obtain ⟨rfl, rfl, rfl⟩ := hc
      have e1 := (lo_le (d := (d : Int)) hV hO).1 (by omega)
      have e2 := (le_hi (d := (d : Int)) hV hO).1 (by omega)
      have e3 : (((a + d : Nat) : Int) - (a : Int)) = d := by omega
      rw [e3]
      exact ⟨⟨⟨⟨⟨by omega, hb1⟩, by rw [Nat.add_comm]; exact hb2⟩, e1.2, e2.2⟩, hcalm⟩, rfl⟩
    · cases hc
  · rintro ⟨⟨⟨⟨⟨h1, h2⟩, h3⟩, h4⟩, h5⟩, rfl⟩
    have hr := bit_lt hp h3
    have e3 : ((r : Int) - (l : Int)) = ((r - l : Nat) : Int) := by omega
    rw [e3] at h4
    have e1 := (lo_le (d := ((r - l : Nat) : Int)) hV hO).2 ⟨by omega, h4.1⟩
    have e2 := (le_hi (d := ((r - l : Nat) : Int)) hV hO).2 ⟨by omega, h4.2⟩
    refine ⟨r - l, ⟨by omega, by omega⟩, l, ⟨by omega, h2, by rw [show r - l + l = r by omega]; exact h3⟩, ?_⟩
    unfold cand
    rw [show l + (r - l) = r by omega, if_pos h5]
/-- A pair is not worse than another. -/
abbrev bef (p : Nat) (c x : Nat × Nat) : Bool := befV (between p c.1 c.2) c.1 c.2 (between p x.1 x.2) x.1 x.2
theorem better_iff (p : Nat) (c x : Nat × Nat) (hc : c.1 < c.2) (hx : x.1 < x.2) (hl : x.1 ≤ c.1) : better p c x = bef p c x := by
  unfold better bef befV
  rw [Bool.eq_iff_iff]
  simp only [Bool.or_eq_true, Bool.and_eq_true, decide_eq_true_eq]
  omega
theorem bef_trans {p : Nat} {a c x : Nat × Nat} (h1 : bef p c x = true) (h2 : bef p a x = false) : bef p a c = false := by
  unfold bef befV at *
  simp only [decide_eq_true_eq, decide_eq_false_iff_not] at *
  omega
theorem bef_antisymm {p : Nat} {a c : Nat × Nat} (h1 : bef p c a = false) (h2 : bef p a c = false) : a = c := by
  unfold bef befV at *
  simp only [decide_eq_false_iff_not] at *
  have e1 : a.1 = c.1 := by omega
  have e2 : a.2 = c.2 := by omega
  exact Prod.ext e1 e2
/-- The best of a list's members that take a scene. -/
def BestOf (b : BarD) (p : Nat) (s : Scn) (L : List (Nat × Nat)) : Option (Nat × Nat) → Prop
  | none => ∀ c ∈ L, byB b p s c.1 c.2 = false
  | some x => x ∈ L ∧ byB b p s x.1 x.2 = true ∧ ∀ c ∈ L, byB b p s c.1 c.2 = true → bef p c x = false
theorem byB_lt {b : BarD} {p : Nat} {s : Scn} {l r : Nat} (h : byB b p s l r = true) : l < r := by
  unfold byB at h; simp only [Bool.and_eq_true, decide_eq_true_eq] at h; exact h.1.1.1.1
theorem bestOf_fold (b : BarD) (p : Nat) (s : Scn) : ∀ (L D : List (Nat × Nat)) (o : Option (Nat × Nat)), BestOf b p s D o → (∀ x ∈ D, ∀ c ∈ L, x.1 ≤ c.1) → L.Pairwise (fun x c => x.1 ≤ c.1) → BestOf b p s (D ++ L) (L.foldl (upd b p s) o)
  | [], D, o, h, _, _ => by simpa using h
  | c :: L, D, o, h, hD, hL => by
    rw [List.pairwise_cons] at hL
    have e : D ++ c :: L = (D ++ [c]) ++ L := by simp
    rw [e, List.foldl_cons]
    refine bestOf_fold b p s L (D ++ [c]) _ ?_ ?_ hL.2
    · unfold upd
      by_cases hb : byB b p s c.1 c.2 = true
      · rw [if_pos hb]
        cases o with
        | none => exact ⟨by simp, hb, fun y hy hby => by
            rcases List.mem_append.1 hy with hy | hy
            · rw [h y hy] at hby; cases hby
            · simp at hy; subst hy; exact befV_same _ _ _⟩
        | some x =>
          obtain ⟨hx1, hx2, hx3⟩ := h
          have hbt := better_iff p c x (byB_lt hb) (byB_lt hx2) (hD x hx1 c (by simp))
          simp only
          rw [hbt]
          by_cases hc : bef p c x = true
          · rw [if_pos hc]
            exact ⟨by simp, hb, fun y hy hby => by
              rcases List.mem_append.1 hy with hy | hy
              · exact bef_trans hc (hx3 y hy hby)
              · simp at hy; subst hy; exact befV_same _ _ _⟩
          · rw [if_neg hc]
            exact ⟨by simp [hx1], hx2, fun y hy hby => by
              rcases List.mem_append.1 hy with hy | hy
              · exact hx3 y hy hby
              · simp at hy; subst hy; simpa using hc⟩
      · rw [if_neg hb]
        cases o with
        | none => intro y hy; rcases List.mem_append.1 hy with hy | hy
                  · exact h y hy
                  · simp at hy; subst hy; simpa using hb
        | some x =>
          obtain ⟨hx1, hx2, hx3⟩ := h
          exact ⟨by simp [hx1], hx2, fun y hy hby => by
              rcases List.mem_append.1 hy with hy | hy
              · exact hx3 y hy hby
              · simp at hy; subst hy; exact absurd hby hb⟩
    · intro x hx y hy
      rcases List.mem_append.1 hx with hx | hx
      · exact hD x hx y (by simp [hy])
      · simp at hx; subst hx; exact hL.1 y hy
theorem pairsTo_sorted (S : Nat) : ∀ l, (pairsTo S l).Pairwise (fun x c => x.1 ≤ c.1)
  | 0 => by simp [pairsTo]
  | l + 1 => by
    rw [pairsTo_step, List.pairwise_append]
    refine ⟨pairsTo_sorted S l, ?_, fun x hx c hc => ?_⟩
    · unfold rowTo
      rw [List.pairwise_map]
      exact List.pairwise_of_forall (fun _ _ => Nat.le_refl _)
    · have h1 := mem_pairsTo hx; have h2 := mem_rowTo hc; omega
theorem mem_pairsTo' {S l : Nat} {c : Nat × Nat} (h1 : c.1 < l) (h2 : c.1 < c.2) (h3 : c.2 < S) : c ∈ pairsTo S l := by
  unfold pairsTo rowTo
  refine List.mem_flatMap.2 ⟨c.1, by simpa using h1, List.mem_map.2 ⟨c.2, by rw [List.mem_range'_1]; omega, rfl⟩⟩
theorem byB_in {b : BarD} {p : Nat} {s : Scn} {l r : Nat} (hp : p < 2 ^ b.slots.toNat) (h : byB b p s l r = true) : (l, r) ∈ pairsTo b.slots.toNat b.slots.toNat := by
  have h1 := byB_lt h
  have h2 : p.testBit r = true := by unfold byB at h; simp only [Bool.and_eq_true] at h; exact h.1.1.2
  have h3 := bit_lt hp h2
  exact mem_pairsTo' (by simp; omega) h1 h3
theorem best_of (b : BarD) (p : Nat) (s : Scn) : BestOf b p s (pairsTo b.slots.toNat b.slots.toNat) (best b p s) := by
  have := bestOf_fold b p s (pairsTo b.slots.toNat b.slots.toNat) [] none (fun c hc => by cases hc) (fun x hx => by cases hx) (pairsTo_sorted _ _)
  unfold best; simpa using this
theorem best_none {b : BarD} {p : Nat} {s : Scn} (hp : p < 2 ^ b.slots.toNat) : best b p s = none ↔ ∀ l r, byB b p s l r = false := by
  have h := best_of b p s
  constructor
  · intro e l r
    rw [e] at h
    cases hb : byB b p s l r
    · rfl
    · have := h (l, r) (byB_in hp hb); rw [← hb]; exact this
  · intro hn
    cases e : best b p s with
    | none => rfl
    | some x => rw [e] at h; have := h.2.1; rw [hn] at this; cases this
theorem best_some {b : BarD} {p : Nat} {s : Scn} {x : Nat × Nat} (hp : p < 2 ^ b.slots.toNat) : best b p s = some x ↔ byB b p s x.1 x.2 = true ∧ ∀ l r, byB b p s l r = true → bef p (l, r) x = false := by
  have h := best_of b p s
  constructor
  · intro e
    rw [e] at h
    exact ⟨h.2.1, fun l r hb => h.2.2 (l, r) (byB_in hp hb) hb⟩
  · rintro ⟨h1, h2⟩
    cases e : best b p s with
    | none => rw [(best_none hp).1 e] at h1; cases h1
    | some y =>
      rw [e] at h
      have e1 := h.2.2 x (byB_in hp h1) h1
      have e2 := h2 y.1 y.2 h.2.1
      rw [bef_antisymm e2 e1]
theorem pairsP_nil {b : BarD} {p : Nat} {s : Scn} (hV : Valid b) (hO : OkS s) (hp : p < 2 ^ b.slots.toNat) : pairsP b p s = [] ↔ best b p s = none := by
  rw [best_none hp, List.eq_nil_iff_forall_not_mem]
  constructor
  · intro h l r
    cases hb : byB b p s l r
    · rfl
    · exact absurd ((mem_pairsP hV hO hp _ l r).2 ⟨hb, rfl⟩) (h _)
  · rintro h ⟨n, l, r⟩ hm
    have := ((mem_pairsP hV hO hp n l r).1 hm).1
    rw [h] at this; cases this
end Go.BarM

namespace Go.Proofs.YtccpgpnekoncoaaGreatDoor
open Go Go.Sy Go.BarM
/-- An opened bar, its scenes, the library's table, and where its memory of tries lies. -/
structure BarA (w : World) (b : BarD) (sa : Option Addr) (sc bp bm : Nat) : Prop where
  bo : BarO w b sa sc bp bm
  sn : ScAt w sa b.scenes
  gt : GTab w
  n1 : bp ≠ bm
  n2 : 1 ≠ bm
  n3 : ∀ (i : Nat) (s : Scn), b.scenes[i]? = some s → ∀ a, sa = some a → a.block ≠ bm
theorem BarA.ext {w w' : World} {b : BarD} {sa : Option Addr} {sc bp bm : Nat} {M : List Nat} (h : BarA w b sa sc bp bm) (e : Ext M w w') (hM : ∀ x ∈ M, x = bm) : BarA w' b sa sc bp bm :=
  ⟨h.bo.ext e (fun hm => h.n1 (hM _ hm)), fun i s hs => by
    obtain ⟨blk, off, c, T, fr, h1, h2, h3⟩ := h.sn i s hs
    exact ⟨blk, off, c, T, fr, h1, e.getM h2 (fun hm => h.n3 i s hs _ h1 (hM _ hm)), h3⟩, h.gt.ext e (fun hm => h.n2 (hM _ hm)), h.n1, h.n2, h.n3⟩
/-- What the memory of tries says of a plan. -/
def memF (b : BarD) : Int → Int := fun x => ((taken b x.toNat : Nat) : Int)
theorem taken_or (b : BarD) (p k : Nat) : takenTo b p k ||| 2 ^ k = takenTo b p k + 2 ^ k := by
  have h := Nat.two_pow_add_eq_or_of_lt (takenTo_lt b p k) 1
  rw [Nat.mul_one] at h
  rw [Nat.or_comm, ← h, Nat.add_comm]
theorem c37 (b : BarD) (sa : Option Addr) (sc bp bm p cm : Nat) (es : Array MapEntry) (u : World) (hV : Valid b) (hp : p < 2 ^ b.slots.toNat) (hA : BarA u b sa sc bp bm)
    (hm : u.heap[bm]? = some (.map es cm)) (hM : Memo .u64 .u64 (memF b) es) : Calls Tryz.prog 83 #[ptr bp 0, .int .u64 p] u
    (Ret fun v w' => v = .int .u64 (taken b p) ∧ ∃ es' c', Memo .u64 .u64 (memF b) es' ∧ Hp u [bm] [(bm, .map es' c')] w') := by
  refine calls_ofM Tryz.func83 rfl rfl (fun a hf => ?_)
  have hh := Hp.init1 hm
  obtain ⟨cs, hb, hcs⟩ := hA.bo
  have hn1 : bp ∉ [bm] := by simpa using hA.n1
  have c4 := hcs.c4; have c25 := hcs.c25
  have hs1 := hV.s1; have hs2 := hV.s2; have hn := hV.n
  have hpw := shl_bd hs1 hs2
  have hp16 : p < 65536 := by omega
  refine sy_seq ?_
  refine sy_ops ?_
  refine ops_alloc hf hh Tryz.ze_74 (.inl rfl) rfl ?_; clear hf hh; clear a; intro B4 a w hf hh
  refine ops_end ?_
  refine then_n ?_
  refine sy_scope ?_
  refine sy_seq ?_
  refine sy_seq ?_
  refine sy_ops ?_
  refine ops_v hf hh (yv_move rfl) (.inl rfl) rfl rfl rfl ?_; clear hf; clear a; intro a hf
  refine ops_v hf hh (yv_nilCheck rfl) (.inl rfl) rfl rfl rfl ?_; clear hf; clear a; intro a hf
  refine ops_v hf hh (yv_fieldAddr Tryz.fo_128_2 rfl) (.inl rfl) rfl rfl rfl ?_; clear hf; clear a; intro a hf
  refine ops_v hf hh (yv_load Tryz.sc_125 rfl (fun _ h => by first | exact h.at (i := 0) rfl | exact h.at (i := 1) rfl | exact h.at (i := 2) rfl | exact h.at (i := 3) rfl | exact h.at (i := 4) rfl | exact h.at (i := 5) rfl | exact h.at (i := 6) rfl | exact h.at (i := 7) rfl | exact h.at (i := 8) rfl | exact h.oldM hb hn1) (by first | rfl | assumption)) (.inl rfl) rfl rfl rfl ?_; clear hf; clear a; intro a hf
  refine ops_v hf hh (yv_move rfl) (.inl rfl) rfl rfl rfl ?_; clear hf; clear a; intro a hf
  refine ops_v hf hh (yv_cast (v' := .tuple #[.int .u64 (if memoHas es (p : Int) then ((taken b p : Nat) : Int) else 0), .bool (memoHas es (p : Int))]) (yv_lookup (F := memF b) Tryz.mt_125 Tryz.ze_74 rfl rfl (fun _ h => h.at (i := 1) rfl) hM) rfl) (.inl rfl) rfl rfl rfl ?_; clear hf; clear a; intro a hf
  refine ops_v hf hh (yv_move rfl) (.inl rfl) rfl rfl rfl ?_; clear hf; clear a; intro a hf
  refine ops_v hf hh (yv_extract rfl rfl) (.inl rfl) rfl rfl rfl ?_; clear hf; clear a; intro a hf
  refine ops_v hf hh (yv_extract rfl rfl) (.inl rfl) rfl rfl rfl ?_; clear hf; clear a; intro a hf
  refine ops_v hf hh (yv_assign rfl) (.inl rfl) rfl rfl rfl ?_; clear hf; clear a; intro a hf
  refine ops_v hf hh (yv_assign rfl) (.inl rfl) rfl rfl rfl ?_; clear hf; clear a; intro a hf
  refine ops_end ?_
  refine then_n ?_
  refine sy_seq ?_
  refine sy_ops ?_
  refine ops_v hf hh (yv_move rfl) (.inl rfl) rfl rfl rfl ?_; clear hf; clear a; intro a hf
  refine ops_end ?_
  refine then_n ?_
  refine sy_cond hf rfl (fun hg4 => ?_) (fun hg4 => ?_)
  · have hG4 := hg4; try simp only [gS] at hG4
    refine sy_seq ?_
    refine sy_ops ?_
    refine ops_v hf hh (yv_move rfl) (.inl rfl) rfl rfl rfl ?_; clear hf; clear a; intro a hf
    first | refine ops_store (i := 0) hf hh rfl rfl rfl Tryz.sz_74 rfl rfl rfl (.inl rfl) fun w hh => ?_ | refine ops_store (i := 1) hf hh rfl rfl rfl Tryz.sz_74 rfl rfl rfl (.inl rfl) fun w hh => ?_ | refine ops_store (i := 2) hf hh rfl rfl rfl Tryz.sz_74 rfl rfl rfl (.inl rfl) fun w hh => ?_ | refine ops_store (i := 3) hf hh rfl rfl rfl Tryz.sz_74 rfl rfl rfl (.inl rfl) fun w hh => ?_ | refine ops_store (i := 4) hf hh rfl rfl rfl Tryz.sz_74 rfl rfl rfl (.inl rfl) fun w hh => ?_ | refine ops_store (i := 5) hf hh rfl rfl rfl Tryz.sz_74 rfl rfl rfl (.inl rfl) fun w hh => ?_ | refine ops_store (i := 6) hf hh rfl rfl rfl Tryz.sz_74 rfl rfl rfl (.inl rfl) fun w hh => ?_ | refine ops_store (i := 7) hf hh rfl rfl rfl Tryz.sz_74 rfl rfl rfl (.inl rfl) fun w hh => ?_ | refine ops_store (i := 8) hf hh rfl rfl rfl Tryz.sz_74 rfl rfl rfl (.inl rfl) fun w hh => ?_
    refine ops_end ?_
    refine then_n ?_
    refine sy_ret ?_
    refine then_r ?_
    refine ng_r ?_
    rw [if_pos (by assumption)] at hh
    refine ret_mb (Ds := []) (H := [(B4, .cells #[.int .u64 (taken b p : Nat)] 74), (bm, .map es cm)]) hf hh fun w' hh => ?_
    exact ⟨[.int .u64 (taken b p : Nat)], ⟨⟨B4, 0, _, _, _, rfl, hh.at (i := 0) rfl, .inl ⟨Tryz.sc_74, rfl⟩⟩, True.intro⟩, rfl, es, cm, hM, hh.less (.cons _ (.refl _))⟩
  · have hG4 := hg4; try simp only [gS] at hG4
    refine sy_skip ?_
    refine then_n ?_
    refine sy_seq ?_
    refine sy_label ?_
    refine then_n ?_
    refine sy_seq ?_
    refine sy_seq ?_
    refine sy_ops ?_
    refine ops_v hf hh (yv_move rfl) (.inl rfl) rfl rfl rfl ?_; clear hf; clear a; intro a hf
    refine ops_v hf hh (yv_nilCheck rfl) (.inl rfl) rfl rfl rfl ?_; clear hf; clear a; intro a hf
    refine ops_v hf hh (yv_fieldAddr Tryz.fo_128_0 rfl) (.inl rfl) rfl rfl rfl ?_; clear hf; clear a; intro a hf
    refine ops_v hf hh (yv_fieldAddr Tryz.fo_24_4 rfl) (.inl rfl) rfl rfl rfl ?_; clear hf; clear a; intro a hf
    refine ops_v hf hh (yv_load Tryz.sc_22 rfl (fun _ h => by first | exact h.at (i := 0) rfl | exact h.at (i := 1) rfl | exact h.at (i := 2) rfl | exact h.at (i := 3) rfl | exact h.at (i := 4) rfl | exact h.at (i := 5) rfl | exact h.at (i := 6) rfl | exact h.at (i := 7) rfl | exact h.at (i := 8) rfl | exact h.oldM hb hn1) (by first | rfl | assumption)) (.inl rfl) rfl rfl rfl ?_; clear hf; clear a; intro a hf
    refine ops_v hf hh (yv_len Tryz.se_22 rfl) (.inl rfl) rfl rfl rfl ?_; clear hf; clear a; intro a hf
    refine ops_v hf hh (yv_move rfl) (.inl rfl) rfl rfl rfl ?_; clear hf; clear a; intro a hf
    refine ops_end ?_
    refine then_n ?_
    refine sy_block ?_
    refine sy_loopM (σ := Nat × List Nat) [7, 25, 26, 27, 28, 29, 30, 31, 38] (fun q => mkd (q.2)) (fun q => [(25, .int .i64 (q.1 : Nat))]) (fun q => fun w' => q.1 ≤ b.scenes.length ∧ Hp u [bm] ([(B4, .cells #[.int .u64 (takenTo b p q.1 : Nat)] 74), (bm, .map es cm)] ++ dls q.2) w') (fun q => b.scenes.length - q.1) ((0, [])) hf rfl ?_ ?_ ?_
    · repeat' (first | exact True.intro | refine And.intro rfl ?_)
    · refine ⟨Nat.zero_le _, ?_⟩
      show Hp u [bm] [(B4, .cells #[.int .u64 ((takenTo b p 0 : Nat) : Int)] 74), (bm, .map es cm)] w
      rw [takenTo_zero]; exact hh
    · rintro q a w ⟨hq1, hh⟩ hf
      refine sy_seq ?_
      refine sy_ops ?_
      refine ops_v hf hh (yv_bin rfl rfl rfl) (.inl rfl) rfl rfl rfl ?_; clear hf; clear a; intro a hf
      refine ops_end ?_
      refine then_n ?_
      refine sy_seq ?_
      refine sy_cond hf rfl (fun hg6 => ?_) (fun hg6 => ?_)
      · have hG6 := hg6; try simp only [gS] at hG6
        refine sy_skip ?_
        refine then_n ?_
        refine sy_seq ?_
        refine sy_block ?_
        refine sy_seq ?_
        obtain ⟨s, hs⟩ := scn_of (l := b.scenes) (i := q.1) (by omega)
        have hO := hV.sc s (List.mem_of_getElem? hs)
        have hst := takenTo_step b p q.1 s hs
        have hnil := pairsP_nil hV hO hp
        refine sy_ops ?_
        refine ops_v hf hh (yv_move rfl) (.inl rfl) rfl rfl rfl ?_; clear hf; clear a; intro a hf
        refine ops_alloc hf hh Tryz.ze_3 (.inl rfl) rfl ?_; clear hf hh; clear a; intro B7 a w hf hh
        first | refine ops_store (i := 0) hf hh rfl rfl rfl Tryz.sz_3 rfl rfl rfl (.inl rfl) fun w hh => ?_ | refine ops_store (i := 1) hf hh rfl rfl rfl Tryz.sz_3 rfl rfl rfl (.inl rfl) fun w hh => ?_ | refine ops_store (i := 2) hf hh rfl rfl rfl Tryz.sz_3 rfl rfl rfl (.inl rfl) fun w hh => ?_ | refine ops_store (i := 3) hf hh rfl rfl rfl Tryz.sz_3 rfl rfl rfl (.inl rfl) fun w hh => ?_ | refine ops_store (i := 4) hf hh rfl rfl rfl Tryz.sz_3 rfl rfl rfl (.inl rfl) fun w hh => ?_ | refine ops_store (i := 5) hf hh rfl rfl rfl Tryz.sz_3 rfl rfl rfl (.inl rfl) fun w hh => ?_ | refine ops_store (i := 6) hf hh rfl rfl rfl Tryz.sz_3 rfl rfl rfl (.inl rfl) fun w hh => ?_ | refine ops_store (i := 7) hf hh rfl rfl rfl Tryz.sz_3 rfl rfl rfl (.inl rfl) fun w hh => ?_ | refine ops_store (i := 8) hf hh rfl rfl rfl Tryz.sz_3 rfl rfl rfl (.inl rfl) fun w hh => ?_
        refine ops_end ?_
        refine then_n ?_
        refine sy_seq ?_
        refine sy_ops ?_
        refine ops_v hf hh (yv_move rfl) (.inl rfl) rfl rfl rfl ?_; clear hf; clear a; intro a hf
        refine ops_v hf hh (yv_move rfl) (.inl rfl) rfl rfl rfl ?_; clear hf; clear a; intro a hf
        refine ops_v hf hh (yv_load Tryz.sc_3 rfl (fun _ h => by first | exact h.at (i := 0) rfl | exact h.at (i := 1) rfl | exact h.at (i := 2) rfl | exact h.at (i := 3) rfl | exact h.at (i := 4) rfl | exact h.at (i := 5) rfl | exact h.at (i := 6) rfl | exact h.at (i := 7) rfl | exact h.at (i := 8) rfl | exact h.oldM hb hn1) (by first | rfl | assumption)) (.inl rfl) rfl rfl rfl ?_; clear hf; clear a; intro a hf
        refine ops_call hf Tryz.en_24 rfl rfl rfl (.inl rfl) rfl (c42 bp p q.1 _) ?_; clear hf; clear a; intro v a w hR hf
        obtain ⟨B1, B2, B3, rfl, hx⟩ := hR; replace hh := hh.join hx; clear hx
        refine ops_end ?_
        refine then_n ?_
        refine sy_block ?_
        refine sy_range (I := fun j H => j = 0 ∧ H = (B2, .cells #[.int .i64 ((q.1 : Nat) : Int)] 3) :: (B3, .cells #[.int .u64 p] 75) :: (B1, .cells #[ptr bp 0] 62) :: (B7, .cells #[.int .i64 ((q.1 : Nat) : Int)] 3) :: (B4, .cells #[.int .u64 (takenTo b p q.1 : Nat)] 74) :: (bm, .map es cm) :: dls q.2) (X := fun j c H => c = .exit 1 ∧ pairsP b p s ≠ [] ∧ H = (B2, .cells #[.int .i64 ((q.1 : Nat) : Int)] 3) :: (B3, .cells #[.int .u64 p] 75) :: (B1, .cells #[ptr bp 0] 62) :: (B7, .cells #[.int .i64 ((q.1 : Nat) : Int)] 3) :: (B4, .cells #[.int .u64 (takenTo b p (q.1 + 1) : Nat)] 74) :: (bm, .map es cm) :: dls q.2) hf hh Tryz.en_59 rfl (it62 b sa sc bp bm p q.1 B1 B2 B3 s hV hs hp16) rfl (by intro x hx; obtain ⟨y, _, rfl⟩ := List.mem_map.1 hx; rfl) ?_ ?_ ?_ ?_ ?_
        · exact ⟨rfl, rfl⟩
        · rintro _ _ l D o w ⟨rfl, rfl⟩ h
          have hA2 := hA.ext h.ext (by simp)
          exact ⟨h.at (i := 4) rfl, h.at (i := 2) rfl, h.at (i := 3) rfl, hA2.bo, hA2.sn, hA2.gt⟩
        · rintro j x fn D l H w a tm hx ⟨hz, rfl⟩ hh hf
          have hne : pairsP b p s ≠ [] := by intro e; rw [e] at hx; simp at hx
          obtain ⟨y, rfl⟩ : ∃ y, x = tw y := by
            obtain ⟨y, _, e⟩ := List.mem_map.1 (List.mem_of_getElem? hx)
            exact ⟨y, e.symm⟩
          refine sy_skip ?_
          refine then_n (Go.Sy.begun (i := 0) hh rfl fun w hh => ?_)
          refine sy_block ?_
          refine sy_seq ?_
          have htl := takenTo_lt b p q.1
          have hp10 : 2 ^ q.1 ≤ 2 ^ 10 := Nat.pow_le_pow_right (by omega) (by omega)
          refine sy_tail (C := Hp _ _ _) 3 Tryz.follows (by kernel_rfl) rfl rfl (hh.drawn _) ?_
          refine q_v hf (yv_load Tryz.sc_74 rfl (fun _ h => by first | exact h.at (i := 0) rfl | exact h.at (i := 1) rfl | exact h.at (i := 2) rfl | exact h.at (i := 3) rfl | exact h.at (i := 4) rfl | exact h.at (i := 5) rfl | exact h.at (i := 6) rfl | exact h.at (i := 7) rfl | exact h.at (i := 8) rfl | exact h.oldM hb hn1) (by first | rfl | assumption)) (.inl rfl) rfl rfl ?_; clear hf; clear a; intro a hf
          refine q_v hf (yv_load Tryz.sc_3 rfl (fun _ h => by first | exact h.at (i := 0) rfl | exact h.at (i := 1) rfl | exact h.at (i := 2) rfl | exact h.at (i := 3) rfl | exact h.at (i := 4) rfl | exact h.at (i := 5) rfl | exact h.at (i := 6) rfl | exact h.at (i := 7) rfl | exact h.at (i := 8) rfl | exact h.oldM hb hn1) (by first | rfl | assumption)) (.inl rfl) rfl rfl ?_; clear hf; clear a; intro a hf
          refine q_v hf (yv_cast (yv_shl1 (.inr rfl) rfl rfl (by omega) (by omega)) (intv (b := ((2 ^ q.1 : Nat) : Int)) rfl)) (.inl rfl) rfl rfl ?_; clear hf; clear a; intro a hf
          refine q_end fun w hh => ?_
          refine ops_buildSl hf hh Tryz.bl_202_2 rfl rfl (.inl rfl) rfl ?_; clear hf hh; clear a; intro B36 a w hf hh
          refine ops_call hf Tryz.en_110 rfl rfl rfl (.inl rfl) rfl (c60 (takenTo b p q.1) (2 ^ q.1) (by omega) (by omega) _ _ _ _ (hh.at (i := 0) rfl)) ?_; clear hf; clear a; intro v a w hR hf
          obtain ⟨rfl, hx⟩ := hR; replace hh := hh.more hx; clear hx
          first | refine ops_store (i := 0) hf hh rfl rfl rfl Tryz.sz_74 rfl rfl rfl (.inl rfl) fun w hh => ?_ | refine ops_store (i := 1) hf hh rfl rfl rfl Tryz.sz_74 rfl rfl rfl (.inl rfl) fun w hh => ?_ | refine ops_store (i := 2) hf hh rfl rfl rfl Tryz.sz_74 rfl rfl rfl (.inl rfl) fun w hh => ?_ | refine ops_store (i := 3) hf hh rfl rfl rfl Tryz.sz_74 rfl rfl rfl (.inl rfl) fun w hh => ?_ | refine ops_store (i := 4) hf hh rfl rfl rfl Tryz.sz_74 rfl rfl rfl (.inl rfl) fun w hh => ?_ | refine ops_store (i := 5) hf hh rfl rfl rfl Tryz.sz_74 rfl rfl rfl (.inl rfl) fun w hh => ?_ | refine ops_store (i := 6) hf hh rfl rfl rfl Tryz.sz_74 rfl rfl rfl (.inl rfl) fun w hh => ?_ | refine ops_store (i := 7) hf hh rfl rfl rfl Tryz.sz_74 rfl rfl rfl (.inl rfl) fun w hh => ?_ | refine ops_store (i := 8) hf hh rfl rfl rfl Tryz.sz_74 rfl rfl rfl (.inl rfl) fun w hh => ?_
          refine ops_end ?_
          refine then_n ?_
          refine sy_exit ?_
          refine blk_x rfl ?_
          have hu : takenTo b p q.1 ||| 2 ^ q.1 = takenTo b p (q.1 + 1) := by
            rw [taken_or, hst, if_pos]
            cases hbb : best b p s with
            | none => exact absurd (hnil.2 hbb) hne
            | some x => rfl
          rw [hu] at hh
          exact ⟨_, ⟨rfl, hne, rfl⟩, (hh.less (.cons _ (List.Sublist.refl _)))⟩
        · rintro D H a w ⟨hz, rfl⟩ hf hh
          have hz' : pairsP b p s = [] := by simpa using hz
          have hu : takenTo b p q.1 = takenTo b p (q.1 + 1) := by rw [hst, if_neg]; rw [hnil.1 hz']; simp
          rw [hu] at hh
          refine blk_n ?_
          refine blk_n ?_
          refine then_n ?_
          refine sy_ops ?_
          first | refine ops_v hf hh (yv_add rfl rfl (by omega) (by omega)) (.inl rfl) rfl rfl rfl ?_; clear hf; clear a; intro a hf | refine ops_v hf hh (yv_bin rfl rfl rfl) (.inl rfl) rfl rfl rfl ?_; clear hf; clear a; intro a hf
          refine ops_v hf hh (yv_move rfl) (.inl rfl) rfl rfl rfl ?_; clear hf; clear a; intro a hf
          refine ops_end ?_
          refine then_n ?_
          first
            | exact ⟨(q.1 + 1, D :: q.2), ⟨⟨by show q.1 + 1 ≤ _; omega, Hp.mark (X := [(B4, .cells #[.int .u64 (takenTo b p (q.1 + 1) : Nat)] 74), (bm, .map es cm)]) (hh.less (.cons_cons _ (.cons _ (.cons _ (.cons _ (.cons _ (.refl _)))))))⟩, hf.head ⟨rfl, True.intro⟩ (Keep.cons rfl (Keep.cons rfl (Keep.cons rfl (Keep.cons rfl (Keep.cons rfl (Keep.cons rfl (Keep.cons rfl (Keep.cons rfl (Keep.cons rfl (Keep.app rfl (Keep.rm rfl Keep.base)))))))))))⟩, by show b.scenes.length - (q.1 + 1) < _; omega⟩
        · rintro j c D H a w hX hf hh
          obtain ⟨rfl, hne, rfl⟩ := hX
          refine sy_exit ?_
          refine blk_x rfl ?_
          refine blk_e ?_
          refine then_n ?_
          refine sy_ops ?_
          first | refine ops_v hf hh (yv_add rfl rfl (by omega) (by omega)) (.inl rfl) rfl rfl rfl ?_; clear hf; clear a; intro a hf | refine ops_v hf hh (yv_bin rfl rfl rfl) (.inl rfl) rfl rfl rfl ?_; clear hf; clear a; intro a hf
          refine ops_v hf hh (yv_move rfl) (.inl rfl) rfl rfl rfl ?_; clear hf; clear a; intro a hf
          refine ops_end ?_
          refine then_n ?_
          first
            | exact ⟨(q.1 + 1, D :: q.2), ⟨⟨by show q.1 + 1 ≤ _; omega, Hp.mark (X := [(B4, .cells #[.int .u64 (takenTo b p (q.1 + 1) : Nat)] 74), (bm, .map es cm)]) (hh.less (.cons_cons _ (.cons _ (.cons _ (.cons _ (.cons _ (.refl _)))))))⟩, hf.head ⟨rfl, True.intro⟩ (Keep.cons rfl (Keep.cons rfl (Keep.cons rfl (Keep.cons rfl (Keep.cons rfl (Keep.cons rfl (Keep.cons rfl (Keep.cons rfl (Keep.cons rfl (Keep.app rfl (Keep.rm rfl Keep.base)))))))))))⟩, by show b.scenes.length - (q.1 + 1) < _; omega⟩
      · have hG6 := hg6; try simp only [gS] at hG6
        refine sy_exit ?_
        refine then_e ?_
        refine then_e ?_
        refine blk_e ?_
        refine then_n ?_
        refine sy_seq ?_
        have hkk : q.1 = b.scenes.length := by omega
        have ht : takenTo b p q.1 = taken b p := by rw [hkk]; unfold taken; rfl
        rw [ht] at hh
        refine sy_tail (C := Hp _ _ _) 6 Tryz.follows (by kernel_rfl) rfl rfl (hh.drawn _) ?_
        refine q_v hf (yv_move rfl) (.inl rfl) rfl rfl ?_; clear hf; clear a; intro a hf
        refine q_v hf (yv_nilCheck rfl) (.inl rfl) rfl rfl ?_; clear hf; clear a; intro a hf
        refine q_v hf (yv_fieldAddr Tryz.fo_128_2 rfl) (.inl rfl) rfl rfl ?_; clear hf; clear a; intro a hf
        refine q_v hf (yv_load Tryz.sc_125 rfl (fun _ h => by first | exact h.at (i := 0) rfl | exact h.at (i := 1) rfl | exact h.at (i := 2) rfl | exact h.at (i := 3) rfl | exact h.at (i := 4) rfl | exact h.at (i := 5) rfl | exact h.at (i := 6) rfl | exact h.at (i := 7) rfl | exact h.at (i := 8) rfl | exact h.oldM hb hn1) (by first | rfl | assumption)) (.inl rfl) rfl rfl ?_; clear hf; clear a; intro a hf
        refine q_v hf (yv_move rfl) (.inl rfl) rfl rfl ?_; clear hf; clear a; intro a hf
        refine q_v hf (yv_load Tryz.sc_74 rfl (fun _ h => by first | exact h.at (i := 0) rfl | exact h.at (i := 1) rfl | exact h.at (i := 2) rfl | exact h.at (i := 3) rfl | exact h.at (i := 4) rfl | exact h.at (i := 5) rfl | exact h.at (i := 6) rfl | exact h.at (i := 7) rfl | exact h.at (i := 8) rfl | exact h.oldM hb hn1) (by first | rfl | assumption)) (.inl rfl) rfl rfl ?_; clear hf; clear a; intro a hf
        refine q_end fun w hh => ?_
        refine ops_mapUpdate (i := 1) (F := memF b) hf hh Tryz.mt_125 rfl rfl rfl rfl hM (.inl rfl) fun es2 cm2 w hM2 hh => ?_
        refine ops_end ?_
        refine then_n ?_
        refine sy_seq ?_
        refine sy_ops ?_
        refine ops_v hf hh (yv_load Tryz.sc_74 rfl (fun _ h => by first | exact h.at (i := 0) rfl | exact h.at (i := 1) rfl | exact h.at (i := 2) rfl | exact h.at (i := 3) rfl | exact h.at (i := 4) rfl | exact h.at (i := 5) rfl | exact h.at (i := 6) rfl | exact h.at (i := 7) rfl | exact h.at (i := 8) rfl | exact h.oldM hb hn1) (by first | rfl | assumption)) (.inl rfl) rfl rfl rfl ?_; clear hf; clear a; intro a hf
        first | refine ops_store (i := 0) hf hh rfl rfl rfl Tryz.sz_74 rfl rfl rfl (.inl rfl) fun w hh => ?_ | refine ops_store (i := 1) hf hh rfl rfl rfl Tryz.sz_74 rfl rfl rfl (.inl rfl) fun w hh => ?_ | refine ops_store (i := 2) hf hh rfl rfl rfl Tryz.sz_74 rfl rfl rfl (.inl rfl) fun w hh => ?_ | refine ops_store (i := 3) hf hh rfl rfl rfl Tryz.sz_74 rfl rfl rfl (.inl rfl) fun w hh => ?_ | refine ops_store (i := 4) hf hh rfl rfl rfl Tryz.sz_74 rfl rfl rfl (.inl rfl) fun w hh => ?_ | refine ops_store (i := 5) hf hh rfl rfl rfl Tryz.sz_74 rfl rfl rfl (.inl rfl) fun w hh => ?_ | refine ops_store (i := 6) hf hh rfl rfl rfl Tryz.sz_74 rfl rfl rfl (.inl rfl) fun w hh => ?_ | refine ops_store (i := 7) hf hh rfl rfl rfl Tryz.sz_74 rfl rfl rfl (.inl rfl) fun w hh => ?_ | refine ops_store (i := 8) hf hh rfl rfl rfl Tryz.sz_74 rfl rfl rfl (.inl rfl) fun w hh => ?_
        refine ops_end ?_
        refine then_n ?_
        refine sy_ret ?_
        refine ng_r ?_
        refine ret_mb (Ds := q.2) (H := [(B4, .cells #[.int .u64 (taken b p : Nat)] 74), (bm, .map es2 cm2)]) hf hh fun w' hh => ?_
        exact ⟨[.int .u64 (taken b p : Nat)], ⟨⟨B4, 0, _, _, _, rfl, hh.at (i := 0) rfl, .inl ⟨Tryz.sc_74, rfl⟩⟩, True.intro⟩, rfl, es2, cm2, hM2, hh.less (.cons _ (.refl _))⟩
end Go.Proofs.YtccpgpnekoncoaaGreatDoor

namespace Go.Proofs.YtccpgpnekoncoaaGreatDoor
open Go Go.Sy Go.BarM
/-- Is a number with these many slots a plan? -/
def good (b : BarD) (m p : Nat) : Bool := decide (pc p = m) && decide (p &&& b.broken.toNat = 0)
def rowF (b : BarD) (m p : Nat) : List Nat := (List.range' p (2 ^ b.slots.toNat - p)).filter (good b m)
def topM (b : BarD) : Nat := (min b.most b.slots).toNat
def restM (b : BarD) (m : Nat) : List Nat := (List.range' m (topM b + 1 - m)).flatMap fun k => rowF b k 0
/-- All plans, in the program's order. -/
def plansL (b : BarD) : List Nat := restM b 0
theorem rowF_yes {b : BarD} {m p : Nat} (h : p < 2 ^ b.slots.toNat) (hg : good b m p = true) : rowF b m p = p :: rowF b m (p + 1) := by
  unfold rowF
  rw [show 2 ^ b.slots.toNat - p = (2 ^ b.slots.toNat - (p + 1)) + 1 by omega, List.range'_succ, List.filter_cons, if_pos hg]
theorem rowF_no {b : BarD} {m p : Nat} (h : p < 2 ^ b.slots.toNat) (hg : good b m p = false) : rowF b m p = rowF b m (p + 1) := by
  unfold rowF
  rw [show 2 ^ b.slots.toNat - p = (2 ^ b.slots.toNat - (p + 1)) + 1 by omega, List.range'_succ, List.filter_cons, if_neg (by rw [hg]; simp)]
theorem rowF_end {b : BarD} {m p : Nat} (h : 2 ^ b.slots.toNat ≤ p) : rowF b m p = [] := by
  unfold rowF; rw [show 2 ^ b.slots.toNat - p = 0 by omega]; rfl
theorem restM_step {b : BarD} {m : Nat} (h : m ≤ topM b) : restM b m = rowF b m 0 ++ restM b (m + 1) := by
  unfold restM; rw [show topM b + 1 - m = (topM b + 1 - (m + 1)) + 1 by omega, List.range'_succ, List.flatMap_cons]
theorem restM_end {b : BarD} {m : Nat} (h : topM b < m) : restM b m = [] := by
  unfold restM; rw [show topM b + 1 - m = 0 by omega]; rfl
def tq (x : Nat) : Array Value := #[.int .u64 x]
theorem at_doneq {L D R : List Nat} {x : Nat} (h : L = D ++ x :: R) : (L.map tq)[D.length]? = some (tq x) := by
  subst h; simp
theorem mem_plansL {b : BarD} (hV : Valid b) {p : Nat} : p ∈ plansL b ↔ isPlan b p = true := by
  rw [isPlan_land]
  have hs1 := hV.s1; have hm1 := hV.m1
  unfold plansL restM rowF good topM
  simp only [List.mem_flatMap, List.mem_range'_1, List.mem_filter, Bool.and_eq_true, decide_eq_true_eq]
  constructor
  · rintro ⟨k, ⟨_, h1⟩, ⟨_, h2⟩, h3, h4⟩
    exact ⟨by omega, h4, by omega⟩
  · rintro ⟨h1, h2, h3⟩
    have h4 : pc p ≤ b.slots.toNat := by
      have e := popF_eq 64 b.slots.toNat p h1 (by have := hV.s2; omega)
      have e2 := popF_le b.slots.toNat p
      unfold pc; omega
    exact ⟨pc p, by omega, by omega, rfl, h2⟩
/-- What the iterator of plans looks at. -/
def MemQ (b : BarD) (sa : Option Addr) (sc bp bm B1 : Nat) (w : World) : Prop := w.heap[B1]? = some (.cells #[ptr bp 0] 62 (0, 0)) ∧ BarO w b sa sc bp bm
theorem c47 (bp : Nat) (u : World) : Calls Tryz.prog 50 #[ptr bp 0] u (Ret fun v w' => ∃ B1, v = .func (.func 81) #[] #[ptr B1 0] ∧ Hp u [] [(B1, .cells #[ptr bp 0] 62)] w') := by
  refine calls_of Tryz.func50 rfl rfl (fun a hf => ?_)
  have hh := Hp.init u []
  refine sy_seq ?_
  refine sy_ops ?_
  refine ops_box hf hh rfl (.inl rfl) rfl ?_; clear hf hh; clear a; intro B1 a w hf hh
  refine ops_v hf hh (yv_assign rfl) (.inl rfl) rfl rfl rfl ?_; clear hf; clear a; intro a hf
  refine ops_end ?_
  refine then_n ?_
  refine sy_seq ?_
  refine sy_ops ?_
  refine ops_v hf hh (yv_makeFunc rfl rfl) (.inl rfl) rfl rfl rfl ?_; clear hf; clear a; intro a hf
  refine ops_v hf hh (yv_assign rfl) (.inl rfl) rfl rfl rfl ?_; clear hf; clear a; intro a hf
  refine ops_end ?_
  refine then_n ?_
  refine sy_ret ?_
  refine ret_r hf rfl rfl ?_
  exact ⟨B1, rfl, hh⟩
theorem c48 (bp set : Nat) (u : World) : Calls Tryz.prog 51 #[ptr bp 0, .int .u64 set] u (Ret fun v w' => ∃ Bs Bb, v = .func (.func 82) #[] #[ptr Bs 0, ptr Bb 0] ∧ Hp u [] [(Bs, .cells #[.int .u64 set] 74), (Bb, .cells #[ptr bp 0] 62)] w') := by
  refine calls_of Tryz.func51 rfl rfl (fun a hf => ?_)
  have hh := Hp.init u []
  refine sy_seq ?_
  refine sy_ops ?_
  refine ops_box hf hh rfl (.inl rfl) rfl ?_; clear hf hh; clear a; intro B2 a w hf hh
  refine ops_box hf hh rfl (.inl rfl) rfl ?_; clear hf hh; clear a; intro B3 a w hf hh
  refine ops_v hf hh (yv_assign rfl) (.inl rfl) rfl rfl rfl ?_; clear hf; clear a; intro a hf
  refine ops_end ?_
  refine then_n ?_
  refine sy_seq ?_
  refine sy_ops ?_
  refine ops_v hf hh (yv_makeFunc rfl rfl) (.inl rfl) rfl rfl rfl ?_; clear hf; clear a; intro a hf
  refine ops_v hf hh (yv_assign rfl) (.inl rfl) rfl rfl rfl ?_; clear hf; clear a; intro a hf
  refine ops_end ?_
  refine then_n ?_
  refine sy_ret ?_
  refine ret_r hf rfl rfl ?_
  exact ⟨B3, B2, rfl, hh⟩
theorem it69 (b : BarD) (sa : Option Addr) (sc bp bm B1 : Nat) (hV : Valid b) : IterSpec Tryz.prog 81 #[] #[ptr B1 0] ((plansL b).map tq) (MemQ b sa sc bp bm B1) := by
  intro l J K u hJM hJe hKe hy hJ0
  have hs1 := hV.s1; have hs2 := hV.s2; have hm1 := hV.m1; have hm2 := hV.m2; have hk1 := hV.k1; have hk2 := hV.k2
  have hpw := shl_bd hs1 hs2
  have hpw2 := cast_pow b.slots.toNat
  have htop : ((topM b : Nat) : Int) = min b.most b.slots := by unfold topM; omega
  show Calls Tryz.prog 81 #[.func (.yield l) #[] #[], ptr B1 0] u _
  refine calls_of Tryz.func81 rfl rfl (fun a hf => ?_)
  have hh := Hp.init u []
  obtain ⟨m1, ⟨cs, hb, hcs⟩⟩ := hJM _ _ hJ0
  have c0 := hcs.c0; have c2 := hcs.c2; have c3 := hcs.c3
  have hh := Hp.init u []
  refine sy_seq ?_
  refine sy_quiet (C := Hp _ _ _) Tryz.follows (by kernel_rfl) (hh.drawn _) ?_
  refine q_v hf (yv_load Tryz.sc_62 rfl (fun _ h => by first | exact h.at (i := 0) rfl | exact h.old m1 | exact h.old hb) (by first | rfl | assumption)) (.inl rfl) rfl rfl ?_; clear hf; clear a; intro a hf
  refine q_v hf (yv_nilCheck rfl) (.inl rfl) rfl rfl ?_; clear hf; clear a; intro a hf
  refine q_v hf (yv_fieldAddr Tryz.fo_128_0 rfl) (.inl rfl) rfl rfl ?_; clear hf; clear a; intro a hf
  refine q_v hf (yv_fieldAddr Tryz.fo_24_3 rfl) (.inl rfl) rfl rfl ?_; clear hf; clear a; intro a hf
  refine q_v hf (yv_load Tryz.sc_3 rfl (fun _ h => by first | exact h.at (i := 0) rfl | exact h.old m1 | exact h.old hb) (by first | rfl | assumption)) (.inl rfl) rfl rfl ?_; clear hf; clear a; intro a hf
  refine q_v hf (yv_load Tryz.sc_62 rfl (fun _ h => by first | exact h.at (i := 0) rfl | exact h.old m1 | exact h.old hb) (by first | rfl | assumption)) (.inl rfl) rfl rfl ?_; clear hf; clear a; intro a hf
  refine q_v hf (yv_nilCheck rfl) (.inl rfl) rfl rfl ?_; clear hf; clear a; intro a hf
  refine q_v hf (yv_fieldAddr Tryz.fo_128_0 rfl) (.inl rfl) rfl rfl ?_; clear hf; clear a; intro a hf
  refine q_v hf (yv_fieldAddr Tryz.fo_24_0 rfl) (.inl rfl) rfl rfl ?_; clear hf; clear a; intro a hf
  refine q_v hf (yv_load Tryz.sc_3 rfl (fun _ h => by first | exact h.at (i := 0) rfl | exact h.old m1 | exact h.old hb) (by first | rfl | assumption)) (.inl rfl) rfl rfl ?_; clear hf; clear a; intro a hf
  refine q_v hf (yv_min rfl rfl) (.inl rfl) rfl rfl ?_; clear hf; clear a; intro a hf
  first | refine q_v hf (yv_add rfl rfl (by omega) (by omega)) (.inl rfl) rfl rfl ?_; clear hf; clear a; intro a hf | refine q_v hf (yv_bin rfl rfl rfl) (.inl rfl) rfl rfl ?_; clear hf; clear a; intro a hf
  refine q_v hf (yv_move rfl) (.inl rfl) rfl rfl ?_; clear hf; clear a; intro a hf
  refine q_end fun w hh => ?_
  refine then_n ?_
  refine sy_block ?_
  refine sy_loopH (σ := Nat) [3, 4, 17, 18, 19, 20, 21, 22, 23, 24, 25, 26, 27, 28, 29, 30, 31, 32, 33, 34, 35, 36, 37, 38, 39, 40, 41, 42, 43, 44, 45, 46, 47, 48, 49, 50, 51] (fun m => [(17, .int .i64 m)]) (fun m => fun w' => m ≤ 17 ∧ ∃ done, plansL b = done ++ restM b m ∧ J done.length w') (fun m => 18 - m) (0) hf ?_ ?_ ?_
  · repeat' (first | exact True.intro | refine And.intro rfl ?_)
  · exact ⟨by omega, [], rfl, hJe _ _ _ hJ0 hh.ext⟩
  · rintro m a w ⟨hm, done, hx, hJ⟩ hf
    obtain ⟨m1, ⟨cs, hb, hcs⟩⟩ := hJM _ _ hJ
    have c0 := hcs.c0; have c2 := hcs.c2; have c3 := hcs.c3
    have hh := Hp.init w []
    refine sy_seq ?_
    refine sy_ops ?_
    refine ops_v hf hh (yv_bin rfl rfl rfl) (.inl rfl) rfl rfl rfl ?_; clear hf; clear a; intro a hf
    refine ops_end ?_
    refine then_n ?_
    refine sy_seq ?_
    refine sy_cond hf rfl (fun hg2 => ?_) (fun hg2 => ?_)
    · have hG2 := hg2; try simp only [gS] at hG2
      refine sy_skip ?_
      refine then_n ?_
      refine sy_seq ?_
      refine sy_block ?_
      refine sy_seq ?_
      refine sy_ops ?_
      refine ops_v hf hh (yv_move rfl) (.inl rfl) rfl rfl rfl ?_; clear hf; clear a; intro a hf
      refine ops_v hf hh (yv_assign rfl) (.inl rfl) rfl rfl rfl ?_; clear hf; clear a; intro a hf
      refine ops_end ?_
      refine then_n ?_
      refine sy_seq ?_
      refine sy_ops ?_
      refine ops_v hf hh (yv_assign rfl) (.inl rfl) rfl rfl rfl ?_; clear hf; clear a; intro a hf
      refine ops_end ?_
      refine then_n ?_
      refine sy_block ?_
      refine sy_loopH (σ := Nat) [4, 20, 21, 22, 23, 24, 25, 26, 27, 28, 29, 30, 31, 32, 33, 34, 35, 36, 37, 38, 39, 40, 41, 42, 43, 44, 45, 46, 47, 48, 49, 50] (fun p => [(4, .int .u64 p)]) (fun p => fun w' => p ≤ 65536 ∧ ∃ done, plansL b = done ++ (rowF b m p ++ restM b (m + 1)) ∧ J done.length w') (fun p => 65536 - p) (0) hf ?_ ?_ ?_
      · exact ⟨rfl, True.intro⟩
      · exact ⟨by omega, done, by rw [hx, restM_step (by omega)], hJe _ _ _ hJ hh.ext⟩
      · rintro p a w ⟨hp, done2, hx2, hJ2⟩ hf
        obtain ⟨m1, ⟨cs, hb, hcs⟩⟩ := hJM _ _ hJ2
        have c0 := hcs.c0; have c2 := hcs.c2; have c3 := hcs.c3
        have hh := Hp.init w []
        refine sy_seq ?_
        refine sy_seq ?_
        refine sy_ops ?_
        refine ops_v hf hh (yv_move rfl) (.inl rfl) rfl rfl rfl ?_; clear hf; clear a; intro a hf
        refine ops_v hf hh (yv_load Tryz.sc_62 rfl (fun _ h => by first | exact h.at (i := 0) rfl | exact h.old m1 | exact h.old hb) (by first | rfl | assumption)) (.inl rfl) rfl rfl rfl ?_; clear hf; clear a; intro a hf
        refine ops_v hf hh (yv_nilCheck rfl) (.inl rfl) rfl rfl rfl ?_; clear hf; clear a; intro a hf
        refine ops_v hf hh (yv_fieldAddr Tryz.fo_128_0 rfl) (.inl rfl) rfl rfl rfl ?_; clear hf; clear a; intro a hf
        refine ops_v hf hh (yv_fieldAddr Tryz.fo_24_0 rfl) (.inl rfl) rfl rfl rfl ?_; clear hf; clear a; intro a hf
        refine ops_v hf hh (yv_load Tryz.sc_3 rfl (fun _ h => by first | exact h.at (i := 0) rfl | exact h.old m1 | exact h.old hb) (by first | rfl | assumption)) (.inl rfl) rfl rfl rfl ?_; clear hf; clear a; intro a hf
        refine ops_v hf hh (yv_shl1 (.inr rfl) rfl rfl (by omega) (by omega)) (.inl rfl) rfl rfl rfl ?_; clear hf; clear a; intro a hf
        refine ops_v hf hh (yv_bin rfl rfl rfl) (.inl rfl) rfl rfl rfl ?_; clear hf; clear a; intro a hf
        refine ops_end ?_
        refine then_n ?_
        refine sy_cond hf rfl (fun hg4 => ?_) (fun hg4 => ?_)
        · have hG4 := hg4; try simp only [gS] at hG4
          refine sy_skip ?_
          refine then_n ?_
          refine sy_seq ?_
          refine sy_block ?_
          refine sy_seq ?_
          refine sy_ops ?_
          refine ops_v hf hh (yv_move rfl) (.inl rfl) rfl rfl rfl ?_; clear hf; clear a; intro a hf
          refine ops_call hf Tryz.en_57 rfl rfl rfl (.inl rfl) rfl (c53 p (by omega) _) ?_; clear hf; clear a; intro v a w hR hf
          obtain ⟨rfl, hx⟩ := hR; replace hh := hh.more hx; clear hx
          refine ops_v hf hh (yv_move rfl) (.inl rfl) rfl rfl rfl ?_; clear hf; clear a; intro a hf
          refine ops_v hf hh (yv_bin rfl rfl rfl) (.inl rfl) rfl rfl rfl ?_; clear hf; clear a; intro a hf
          refine ops_v hf hh (yv_move rfl) (.inl rfl) rfl rfl rfl ?_; clear hf; clear a; intro a hf
          refine guard_split hf (t := 34) rfl (fun hg7 => ?_) (fun hg7 => ?_)
          · have hG7 := hg7; try simp only [gS] at hG7
            refine ops_v hf hh (yv_move rfl) (gon rfl rfl rfl (by first | assumption | rfl | (simp; done))) rfl rfl rfl ?_; clear hf; clear a; intro a hf
            refine ops_v hf hh (yv_load Tryz.sc_62 rfl (fun _ h => by first | exact h.at (i := 0) rfl | exact h.old m1 | exact h.old hb) (by first | rfl | assumption)) (gon rfl rfl rfl (by first | assumption | rfl | (simp; done))) rfl rfl rfl ?_; clear hf; clear a; intro a hf
            refine ops_v hf hh (yv_nilCheck rfl) (gon rfl rfl rfl (by first | assumption | rfl | (simp; done))) rfl rfl rfl ?_; clear hf; clear a; intro a hf
            refine ops_v hf hh (yv_fieldAddr Tryz.fo_128_0 rfl) (gon rfl rfl rfl (by first | assumption | rfl | (simp; done))) rfl rfl rfl ?_; clear hf; clear a; intro a hf
            refine ops_v hf hh (yv_fieldAddr Tryz.fo_24_2 rfl) (gon rfl rfl rfl (by first | assumption | rfl | (simp; done))) rfl rfl rfl ?_; clear hf; clear a; intro a hf
            refine ops_v hf hh (yv_load Tryz.sc_3 rfl (fun _ h => by first | exact h.at (i := 0) rfl | exact h.old m1 | exact h.old hb) (by first | rfl | assumption)) (gon rfl rfl rfl (by first | assumption | rfl | (simp; done))) rfl rfl rfl ?_; clear hf; clear a; intro a hf
            first | refine ops_v hf hh (yv_convx (.inr rfl) (by kernel_rfl) Tryz.un_75 rfl (by omega) (by simp only [IntKind.top]; omega)) (gon rfl rfl rfl (by first | assumption | rfl | (simp; done))) rfl rfl rfl ?_; clear hf; clear a; intro a hf | refine ops_v hf hh (yv_conv (by kernel_rfl) Tryz.un_75 rfl) (gon rfl rfl rfl (by first | assumption | rfl | (simp; done))) rfl rfl rfl ?_; clear hf; clear a; intro a hf
            refine ops_v hf hh (yv_cast (yv_and (.inr rfl) rfl rfl (by omega) (by simp only [IntKind.top]; omega) (by omega) (by simp only [IntKind.top]; omega)) (intv (b := ((p &&& b.broken.toNat : Nat) : Int)) rfl)) (gon rfl rfl rfl (by first | assumption | rfl | (simp; done))) rfl rfl rfl ?_; clear hf; clear a; intro a hf
            refine ops_v hf hh (yv_bin rfl rfl rfl) (gon rfl rfl rfl (by first | assumption | rfl | (simp; done))) rfl rfl rfl ?_; clear hf; clear a; intro a hf
            refine ops_v hf hh (yv_pick_t rfl (by first | assumption | rfl | (simp; done)) rfl) (.inl rfl) rfl rfl rfl ?_; clear hf; clear a; intro a hf
            refine ops_v hf hh (yv_move rfl) (.inl rfl) rfl rfl rfl ?_; clear hf; clear a; intro a hf
            refine guard_split hf (t := 45) rfl (fun hg10 => ?_) (fun hg10 => ?_)
            · have hG10 := hg10; try simp only [gS] at hG10
              refine ops_v hf hh (yv_move rfl) (gon rfl rfl rfl (by first | assumption | rfl | (simp; done))) rfl rfl rfl ?_; clear hf; clear a; intro a hf
              refine ops_v hf hh (yv_move rfl) (gon rfl rfl rfl (by first | assumption | rfl | (simp; done))) rfl rfl rfl ?_; clear hf; clear a; intro a hf
              have hxy := rowF_yes (b := b) (m := m) (p := p) (by omega) (by unfold good; rw [Bool.and_eq_true, decide_eq_true_eq, decide_eq_true_eq]; omega)
              rw [hxy] at hx2
              refine ops_yield hf rfl rfl (gon rfl rfl rfl (by first | assumption | rfl | (simp; done))) rfl (hy _ _ _ (at_doneq hx2) (hJe _ _ _ hJ2 hh.ext)) ?_; clear hf; clear a; intro v a w hR hf
              have hR2 : ∃ o : Bool, v = .bool o ∧ (o = true → J (done2.length + 1) w) ∧ (o = false → K done2.length w) := by
                rcases hR with ⟨rfl, h⟩ | ⟨rfl, h⟩
                · exact ⟨true, rfl, fun _ => h, fun h => by cases h⟩
                · exact ⟨false, rfl, (fun h => by cases h), fun _ => h⟩
              clear hR
              obtain ⟨o, rfl, ho1, ho2⟩ := hR2
              clear hh; have hh := Hp.init w []
              refine ops_v hf hh (yv_not rfl) (gon rfl rfl rfl (by first | assumption | rfl | (simp; done))) rfl rfl rfl ?_; clear hf; clear a; intro a hf
              refine ops_v hf hh (yv_pick_t rfl (by first | assumption | rfl | (simp; done)) rfl) (.inl rfl) rfl rfl rfl ?_; clear hf; clear a; intro a hf
              refine ops_end ?_
              refine then_n ?_
              refine sy_cond hf rfl (fun hg12 => ?_) (fun hg12 => ?_)
              · have hG12 := hg12; try simp only [gS] at hG12
                refine sy_ret ?_
                refine blk_r ?_
                refine then_r ?_
                refine then_r ?_
                refine blk_r ?_
                refine blk_r ?_
                refine then_r ?_
                refine then_r ?_
                refine blk_r ?_
                refine ret_r hf rfl rfl ?_
                first
                  | exact .inr ⟨_, hKe _ _ _ (ho2 (by assumption)) hh.ext⟩
                  | (refine .inl ?_
                     have hle : plansL b = done := by rw [hx, restM_end (by omega), List.append_nil]
                     rw [hle, List.length_map]
                     exact hJe _ _ _ hJ hh.ext)
              · have hG12 := hg12; try simp only [gS] at hG12
                refine sy_skip ?_
                refine blk_n ?_
                refine then_n ?_
                refine sy_ops ?_
                refine ops_v hf hh (yv_move rfl) (.inl rfl) rfl rfl rfl ?_; clear hf; clear a; intro a hf
                first | refine ops_v hf hh (yv_addx (.inr rfl) rfl rfl (by omega) (by simp only [IntKind.top]; omega)) (.inl rfl) rfl rfl rfl ?_; clear hf; clear a; intro a hf | refine ops_v hf hh (yv_bin rfl rfl rfl) (.inl rfl) rfl rfl rfl ?_; clear hf; clear a; intro a hf
                refine ops_v hf hh (yv_assign rfl) (.inl rfl) rfl rfl rfl ?_; clear hf; clear a; intro a hf
                refine ops_end ?_
                refine then_n ?_
                first
                  | (refine ⟨p + 1, ⟨⟨by omega, done2 ++ [p], by rw [hx2, List.append_assoc]; rfl, ?_⟩, hf.head ⟨rfl, True.intro⟩ (Keep.cons rfl (Keep.cons rfl (Keep.cons rfl (Keep.cons rfl (Keep.cons rfl (Keep.cons rfl (Keep.cons rfl (Keep.cons rfl (Keep.cons rfl (Keep.cons rfl (Keep.cons rfl (Keep.cons rfl (Keep.cons rfl (Keep.cons rfl (Keep.cons rfl (Keep.cons rfl (Keep.cons rfl (Keep.cons rfl (Keep.cons rfl (Keep.cons rfl (Keep.cons rfl (Keep.cons rfl (Keep.cons rfl (Keep.cons rfl (Keep.cons rfl (Keep.cons rfl (Keep.cons rfl (Keep.cons rfl (Keep.cons rfl (Keep.cons rfl (Keep.cons rfl (Keep.cons rfl (Keep.app rfl (Keep.rm rfl Keep.base))))))))))))))))))))))))))))))))))⟩, by omega⟩
                     rw [List.length_append]
                     exact hJe _ _ _ (ho1 (by assumption)) hh.ext)
                  | (have hno : good b m p = false := by
                       unfold good
                       rw [Bool.and_eq_false_iff, decide_eq_false_iff_not, decide_eq_false_iff_not]
                       omega
                     exact ⟨p + 1, ⟨⟨by omega, done2, by rw [hx2, rowF_no (by omega) hno], hJe _ _ _ hJ2 hh.ext⟩, hf.head ⟨rfl, True.intro⟩ (Keep.cons rfl (Keep.cons rfl (Keep.cons rfl (Keep.cons rfl (Keep.cons rfl (Keep.cons rfl (Keep.cons rfl (Keep.cons rfl (Keep.cons rfl (Keep.cons rfl (Keep.cons rfl (Keep.cons rfl (Keep.cons rfl (Keep.cons rfl (Keep.cons rfl (Keep.cons rfl (Keep.cons rfl (Keep.cons rfl (Keep.cons rfl (Keep.cons rfl (Keep.cons rfl (Keep.cons rfl (Keep.cons rfl (Keep.cons rfl (Keep.cons rfl (Keep.cons rfl (Keep.cons rfl (Keep.cons rfl (Keep.cons rfl (Keep.cons rfl (Keep.cons rfl (Keep.cons rfl (Keep.app rfl (Keep.rm rfl Keep.base))))))))))))))))))))))))))))))))))⟩, by omega⟩)
            · have hG10 := hg10; try simp only [gS] at hG10
              refine ops_off hf (goff rfl rfl rfl (by first | assumption | rfl | (simp; done))) rfl rfl ?_; clear hf; clear a; intro a hf
              refine ops_off hf (goff rfl rfl rfl (by first | assumption | rfl | (simp; done))) rfl rfl ?_; clear hf; clear a; intro a hf
              refine ops_off hf (goff rfl rfl rfl (by first | assumption | rfl | (simp; done))) rfl rfl ?_; clear hf; clear a; intro a hf
              refine ops_off hf (goff rfl rfl rfl (by first | assumption | rfl | (simp; done))) rfl rfl ?_; clear hf; clear a; intro a hf
              refine ops_v hf hh (yv_pick_f rfl (by first | assumption | rfl | (simp; done)) rfl) (.inl rfl) rfl rfl rfl ?_; clear hf; clear a; intro a hf
              refine ops_end ?_
              refine then_n ?_
              refine sy_cf hf rfl (by first | assumption | rfl | (simp; done)) ?_
              refine sy_skip ?_
              refine blk_n ?_
              refine then_n ?_
              refine sy_ops ?_
              refine ops_v hf hh (yv_move rfl) (.inl rfl) rfl rfl rfl ?_; clear hf; clear a; intro a hf
              first | refine ops_v hf hh (yv_addx (.inr rfl) rfl rfl (by omega) (by simp only [IntKind.top]; omega)) (.inl rfl) rfl rfl rfl ?_; clear hf; clear a; intro a hf | refine ops_v hf hh (yv_bin rfl rfl rfl) (.inl rfl) rfl rfl rfl ?_; clear hf; clear a; intro a hf
              refine ops_v hf hh (yv_assign rfl) (.inl rfl) rfl rfl rfl ?_; clear hf; clear a; intro a hf
              refine ops_end ?_
              refine then_n ?_
              first
                | (refine ⟨p + 1, ⟨⟨by omega, done2 ++ [p], by rw [hx2, List.append_assoc]; rfl, ?_⟩, hf.head ⟨rfl, True.intro⟩ (Keep.cons rfl (Keep.cons rfl (Keep.cons rfl (Keep.cons rfl (Keep.cons rfl (Keep.cons rfl (Keep.cons rfl (Keep.cons rfl (Keep.cons rfl (Keep.cons rfl (Keep.cons rfl (Keep.cons rfl (Keep.cons rfl (Keep.cons rfl (Keep.cons rfl (Keep.cons rfl (Keep.cons rfl (Keep.cons rfl (Keep.cons rfl (Keep.cons rfl (Keep.cons rfl (Keep.cons rfl (Keep.cons rfl (Keep.cons rfl (Keep.cons rfl (Keep.cons rfl (Keep.cons rfl (Keep.cons rfl (Keep.cons rfl (Keep.cons rfl (Keep.cons rfl (Keep.cons rfl (Keep.app rfl (Keep.rm rfl Keep.base))))))))))))))))))))))))))))))))))⟩, by omega⟩
                   rw [List.length_append]
                   exact hJe _ _ _ (ho1 (by assumption)) hh.ext)
                | (have hno : good b m p = false := by
                     unfold good
                     rw [Bool.and_eq_false_iff, decide_eq_false_iff_not, decide_eq_false_iff_not]
                     omega
                   exact ⟨p + 1, ⟨⟨by omega, done2, by rw [hx2, rowF_no (by omega) hno], hJe _ _ _ hJ2 hh.ext⟩, hf.head ⟨rfl, True.intro⟩ (Keep.cons rfl (Keep.cons rfl (Keep.cons rfl (Keep.cons rfl (Keep.cons rfl (Keep.cons rfl (Keep.cons rfl (Keep.cons rfl (Keep.cons rfl (Keep.cons rfl (Keep.cons rfl (Keep.cons rfl (Keep.cons rfl (Keep.cons rfl (Keep.cons rfl (Keep.cons rfl (Keep.cons rfl (Keep.cons rfl (Keep.cons rfl (Keep.cons rfl (Keep.cons rfl (Keep.cons rfl (Keep.cons rfl (Keep.cons rfl (Keep.cons rfl (Keep.cons rfl (Keep.cons rfl (Keep.cons rfl (Keep.cons rfl (Keep.cons rfl (Keep.cons rfl (Keep.cons rfl (Keep.app rfl (Keep.rm rfl Keep.base))))))))))))))))))))))))))))))))))⟩, by omega⟩)
          · have hG7 := hg7; try simp only [gS] at hG7
            refine ops_off hf (goff rfl rfl rfl (by first | assumption | rfl | (simp; done))) rfl rfl ?_; clear hf; clear a; intro a hf
            refine ops_off hf (goff rfl rfl rfl (by first | assumption | rfl | (simp; done))) rfl rfl ?_; clear hf; clear a; intro a hf
            refine ops_off hf (goff rfl rfl rfl (by first | assumption | rfl | (simp; done))) rfl rfl ?_; clear hf; clear a; intro a hf
            refine ops_off hf (goff rfl rfl rfl (by first | assumption | rfl | (simp; done))) rfl rfl ?_; clear hf; clear a; intro a hf
            refine ops_off hf (goff rfl rfl rfl (by first | assumption | rfl | (simp; done))) rfl rfl ?_; clear hf; clear a; intro a hf
            refine ops_off hf (goff rfl rfl rfl (by first | assumption | rfl | (simp; done))) rfl rfl ?_; clear hf; clear a; intro a hf
            refine ops_off hf (goff rfl rfl rfl (by first | assumption | rfl | (simp; done))) rfl rfl ?_; clear hf; clear a; intro a hf
            refine ops_off hf (goff rfl rfl rfl (by first | assumption | rfl | (simp; done))) rfl rfl ?_; clear hf; clear a; intro a hf
            refine ops_off hf (goff rfl rfl rfl (by first | assumption | rfl | (simp; done))) rfl rfl ?_; clear hf; clear a; intro a hf
            refine ops_v hf hh (yv_pick_f rfl (by first | assumption | rfl | (simp; done)) rfl) (.inl rfl) rfl rfl rfl ?_; clear hf; clear a; intro a hf
            refine ops_v hf hh (yv_move rfl) (.inl rfl) rfl rfl rfl ?_; clear hf; clear a; intro a hf
            refine ops_off hf (goff rfl rfl rfl (by first | assumption | rfl | (simp; done))) rfl rfl ?_; clear hf; clear a; intro a hf
            refine ops_off hf (goff rfl rfl rfl (by first | assumption | rfl | (simp; done))) rfl rfl ?_; clear hf; clear a; intro a hf
            refine ops_off hf (goff rfl rfl rfl (by first | assumption | rfl | (simp; done))) rfl rfl ?_; clear hf; clear a; intro a hf
            refine ops_off hf (goff rfl rfl rfl (by first | assumption | rfl | (simp; done))) rfl rfl ?_; clear hf; clear a; intro a hf
            refine ops_v hf hh (yv_pick_f rfl (by first | assumption | rfl | (simp; done)) rfl) (.inl rfl) rfl rfl rfl ?_; clear hf; clear a; intro a hf
            refine ops_end ?_
            refine then_n ?_
            refine sy_cf hf rfl (by first | assumption | rfl | (simp; done)) ?_
            refine sy_skip ?_
            refine blk_n ?_
            refine then_n ?_
            refine sy_ops ?_
            refine ops_v hf hh (yv_move rfl) (.inl rfl) rfl rfl rfl ?_; clear hf; clear a; intro a hf
            first | refine ops_v hf hh (yv_addx (.inr rfl) rfl rfl (by omega) (by simp only [IntKind.top]; omega)) (.inl rfl) rfl rfl rfl ?_; clear hf; clear a; intro a hf | refine ops_v hf hh (yv_bin rfl rfl rfl) (.inl rfl) rfl rfl rfl ?_; clear hf; clear a; intro a hf
            refine ops_v hf hh (yv_assign rfl) (.inl rfl) rfl rfl rfl ?_; clear hf; clear a; intro a hf
            refine ops_end ?_
            refine then_n ?_
            first
              | (refine ⟨p + 1, ⟨⟨by omega, done2 ++ [p], by rw [hx2, List.append_assoc]; rfl, ?_⟩, hf.head ⟨rfl, True.intro⟩ (Keep.cons rfl (Keep.cons rfl (Keep.cons rfl (Keep.cons rfl (Keep.cons rfl (Keep.cons rfl (Keep.cons rfl (Keep.cons rfl (Keep.cons rfl (Keep.cons rfl (Keep.cons rfl (Keep.cons rfl (Keep.cons rfl (Keep.cons rfl (Keep.cons rfl (Keep.cons rfl (Keep.cons rfl (Keep.cons rfl (Keep.cons rfl (Keep.cons rfl (Keep.cons rfl (Keep.cons rfl (Keep.cons rfl (Keep.cons rfl (Keep.cons rfl (Keep.cons rfl (Keep.cons rfl (Keep.cons rfl (Keep.cons rfl (Keep.cons rfl (Keep.cons rfl (Keep.cons rfl (Keep.app rfl (Keep.rm rfl Keep.base))))))))))))))))))))))))))))))))))⟩, by omega⟩
                 rw [List.length_append]
                 exact hJe _ _ _ (ho1 (by assumption)) hh.ext)
              | (have hno : good b m p = false := by
                   unfold good
                   rw [Bool.and_eq_false_iff, decide_eq_false_iff_not, decide_eq_false_iff_not]
                   omega
                 exact ⟨p + 1, ⟨⟨by omega, done2, by rw [hx2, rowF_no (by omega) hno], hJe _ _ _ hJ2 hh.ext⟩, hf.head ⟨rfl, True.intro⟩ (Keep.cons rfl (Keep.cons rfl (Keep.cons rfl (Keep.cons rfl (Keep.cons rfl (Keep.cons rfl (Keep.cons rfl (Keep.cons rfl (Keep.cons rfl (Keep.cons rfl (Keep.cons rfl (Keep.cons rfl (Keep.cons rfl (Keep.cons rfl (Keep.cons rfl (Keep.cons rfl (Keep.cons rfl (Keep.cons rfl (Keep.cons rfl (Keep.cons rfl (Keep.cons rfl (Keep.cons rfl (Keep.cons rfl (Keep.cons rfl (Keep.cons rfl (Keep.cons rfl (Keep.cons rfl (Keep.cons rfl (Keep.cons rfl (Keep.cons rfl (Keep.cons rfl (Keep.cons rfl (Keep.app rfl (Keep.rm rfl Keep.base))))))))))))))))))))))))))))))))))⟩, by omega⟩)
        · have hG4 := hg4; try simp only [gS] at hG4
          refine sy_exit ?_
          refine then_e ?_
          refine then_e ?_
          refine blk_e ?_
          refine blk_n ?_
          refine then_n ?_
          refine sy_ops ?_
          first | refine ops_v hf hh (yv_add rfl rfl (by omega) (by omega)) (.inl rfl) rfl rfl rfl ?_; clear hf; clear a; intro a hf | refine ops_v hf hh (yv_bin rfl rfl rfl) (.inl rfl) rfl rfl rfl ?_; clear hf; clear a; intro a hf
          refine ops_v hf hh (yv_move rfl) (.inl rfl) rfl rfl rfl ?_; clear hf; clear a; intro a hf
          refine ops_end ?_
          refine then_n ?_
          refine ⟨m + 1, ⟨⟨by omega, done2, ?_, hJe _ _ _ hJ2 hh.ext⟩, hf.head ⟨rfl, True.intro⟩ (Keep.cons rfl (Keep.cons rfl (Keep.cons rfl (Keep.cons rfl (Keep.cons rfl (Keep.cons rfl (Keep.cons rfl (Keep.cons rfl (Keep.cons rfl (Keep.cons rfl (Keep.app rfl (Keep.rm rfl (Keep.cons rfl (Keep.cons rfl (Keep.cons rfl (Keep.cons rfl (Keep.app rfl (Keep.rm rfl Keep.base))))))))))))))))))⟩, by omega⟩
          rw [hx2, rowF_end (by omega)]; rfl
    · have hG2 := hg2; try simp only [gS] at hG2
      refine sy_exit ?_
      refine then_e ?_
      refine then_e ?_
      refine blk_e ?_
      refine ret_n hf rfl rfl ?_
      first
        | exact .inr ⟨_, hKe _ _ _ (ho2 (by assumption)) hh.ext⟩
        | (refine .inl ?_
           have hle : plansL b = done := by rw [hx, restM_end (by omega), List.append_nil]
           rw [hle, List.length_map]
           exact hJe _ _ _ hJ hh.ext)
/-- Where the closure of takes lies. -/
structure TakC (w : World) (b : BarD) (sa : Option Addr) (sc bp bm set Bs Bb : Nat) : Prop where
  ba : BarA w b sa sc bp bm
  cs : w.heap[Bs]? = some (.cells #[.int .u64 (set : Nat)] 74 (0, 0))
  cb : w.heap[Bb]? = some (.cells #[ptr bp 0] 62 (0, 0))
  ns : Bs ∉ [bm]
  nb : Bb ∉ [bm]
theorem TakC.ext {w w' : World} {b : BarD} {sa : Option Addr} {sc bp bm set Bs Bb : Nat} (h : TakC w b sa sc bp bm set Bs Bb) (e : Ext [bm] w w') : TakC w' b sa sc bp bm set Bs Bb :=
  ⟨h.ba.ext e (by simp), e.getM h.cs h.ns, e.getM h.cb h.nb, h.ns, h.nb⟩
/-- Does a plan take all scenes of a set? -/
def takesB (b : BarD) (set p : Nat) : Bool := decide (andn set (taken b p) = 0)
theorem c70 (b : BarD) (sa : Option Addr) (sc bp bm set Bs Bb p cm : Nat) (es : Array MapEntry) (u : World) (hV : Valid b) (hp : p < 2 ^ b.slots.toNat) (hset : set ≤ 65536) (hC : TakC u b sa sc bp bm set Bs Bb)
    (hm : u.heap[bm]? = some (.map es cm)) (hM : Memo .u64 .u64 (memF b) es) : Calls Tryz.prog 82 #[.int .u64 p, ptr Bs 0, ptr Bb 0] u
    (Ret fun v w' => v = .bool (takesB b set p) ∧ ∃ es' c', Memo .u64 .u64 (memF b) es' ∧ Hp u [bm] [(bm, .map es' c')] w') := by
  refine calls_of Tryz.func82 rfl rfl (fun a hf => ?_)
  have hh := Hp.init1 hm
  have htl : taken b p < 2 ^ b.scenes.length := by have := takenTo_lt b p b.scenes.length; unfold taken; exact this
  have hn := hV.n
  have hp10 : 2 ^ b.scenes.length ≤ 2 ^ 10 := Nat.pow_le_pow_right (by omega) (by omega)
  refine sy_seq ?_
  refine sy_ops ?_
  refine ops_v hf hh (yv_assign rfl) (.inl rfl) rfl rfl rfl ?_; clear hf; clear a; intro a hf
  refine ops_end ?_
  refine then_n ?_
  refine sy_seq ?_
  refine sy_quiet (C := Mw .u64 .u64 (memF b) u [bm] [] bm) Tryz.follows (by kernel_rfl) (Mw.drawn (.of hM hh) _) ?_
  refine q_v hf (yv_load Tryz.sc_74 rfl (fun _ h => by first | exact h.at (i := 0) rfl | exact h.oldM hC.cs hC.ns | exact h.oldM hC.cb hC.nb) (by first | rfl | assumption)) (.inl rfl) rfl rfl ?_; clear hf; clear a; intro a hf
  refine q_v hf (yv_load Tryz.sc_62 rfl (fun _ h => by first | exact h.at (i := 0) rfl | exact h.oldM hC.cs hC.ns | exact h.oldM hC.cb hC.nb) (by first | rfl | assumption)) (.inl rfl) rfl rfl ?_; clear hf; clear a; intro a hf
  refine q_v hf (yv_move rfl) (.inl rfl) rfl rfl ?_; clear hf; clear a; intro a hf
  refine q_callM hf Tryz.en_83 rfl rfl rfl (.inl rfl) rfl (fun w es cm hM hh => c37 b sa sc bp bm p cm es _ hV hp (hC.ba.ext hh.ext (by simp)) (hh.at (i := 0) rfl) hM) ?_; clear hf; clear a; intro a hf
  first | refine q_v hf (yv_andn (.inr rfl) rfl rfl (by omega) (by simp only [IntKind.top]; omega) (by omega) (by simp only [IntKind.top]; omega)) (.inl rfl) rfl rfl ?_; clear hf; clear a; intro a hf | refine q_v hf (yv_bin rfl rfl rfl) (.inl rfl) rfl rfl ?_; clear hf; clear a; intro a hf
  refine q_v hf (yv_bin rfl rfl rfl) (.inl rfl) rfl rfl ?_; clear hf; clear a; intro a hf
  refine q_v hf (yv_assign rfl) (.inl rfl) rfl rfl ?_; clear hf; clear a; intro a hf
  refine q_end ?_
  rintro w ⟨es2, cm2, hM2, hh⟩
  refine then_n ?_
  refine sy_ret ?_
  refine ret_r hf rfl rfl ?_
  refine ⟨congrArg Value.bool ?_, es2, cm2, hM2, hh⟩
  unfold takesB
  simp only [Int.toNat_natCast]
  rw [Bool.eq_iff_iff, decide_eq_true_eq, decide_eq_true_eq]
  omega
attribute [irreducible] plansL
end Go.Proofs.YtccpgpnekoncoaaGreatDoor

namespace Go.Proofs.YtccpgpnekoncoaaGreatDoor
open Go Go.Sy Go.BarM
theorem findq_none {L : List Nat} {f : Nat → Bool} (h : ∀ j p, j < L.length → L[j]? = some p → f p = false) : L.find? f = none := by
  rw [List.find?_eq_none]
  intro x hx
  obtain ⟨j, hj⟩ := List.getElem?_of_mem hx
  rw [h j x (List.getElem?_eq_some_iff.1 hj).1 hj]; simp
theorem findq_at {L : List Nat} {f : Nat → Bool} {k p : Nat} (hk : L[k]? = some p) (hp : f p = true) (h : ∀ j q, j < k → L[j]? = some q → f q = false) : L.find? f = some p := by
  obtain ⟨hl, he⟩ := List.getElem?_eq_some_iff.1 hk
  rw [List.find?_eq_some_iff_getElem]
  refine ⟨hp, k, hl, he, fun j hj => ?_⟩
  rw [h j (L[j]'(by omega)) hj (by simp)]; rfl
theorem sc4 : scalB Tryz.prog 4 = true := by kernel_rfl
/-- The first plan that takes all scenes of a set. -/
def firstP (b : BarD) (set : Nat) : Option Nat := (plansL b).find? (takesB b set)
theorem pl_lt {b : BarD} (hV : Valid b) {j y : Nat} (h : (plansL b)[j]? = some y) : y < 2 ^ b.slots.toNat := ((isPlan_land b y).1 ((mem_plansL hV).1 (List.mem_of_getElem? h))).1
theorem tq_of {L : List Nat} {j : Nat} {x : Array Value} (h : (L.map tq)[j]? = some x) : ∃ y, L[j]? = some y ∧ x = tq y := by
  rw [List.getElem?_map] at h
  cases hy : L[j]? with
  | none => rw [hy] at h; cases h
  | some y => rw [hy] at h; exact ⟨y, rfl, (Option.some.inj h).symm⟩
end Go.Proofs.YtccpgpnekoncoaaGreatDoor
namespace Go.Sy
open Go Go.Proofs.YtccpgpnekoncoaaGreatDoor
theorem Hp.newer {u w : World} {H : List (Nat × Obj)} {i b c : Nat} {o o' : Obj} (h : Hp u [] H w) (hi : H[i]? = some (b, o)) (hc : u.heap[c]? = some o') : c ≠ b := by
  have h1 := h.mine _ (List.mem_of_getElem? hi)
  have h2 := (Array.getElem?_eq_some_iff.1 hc).1
  rintro rfl
  rcases h1 with h1 | h1
  · exact absurd h2 (by show ¬ c < _; exact Nat.not_lt.2 h1)
  · simp at h1
end Go.Sy
namespace Go.Proofs.YtccpgpnekoncoaaGreatDoor
open Go Go.Sy Go.BarM
end Go.Proofs.YtccpgpnekoncoaaGreatDoor
namespace Go.Sy
open Go Go.Proofs.YtccpgpnekoncoaaGreatDoor
theorem Hp.diff {u w : World} {M : List Nat} {H : List (Nat × Obj)} {i j b c : Nat} {o o' : Obj} (h : Hp u M H w) (hi : H[i]? = some (b, o)) (hj : H[j]? = some (c, o')) (hij : i ≠ j) : b ≠ c := by
  rintro rfl
  have hn := h.nodup
  have e1 : (H.map Prod.fst)[i]? = some b := by rw [List.getElem?_map, hi]; rfl
  have e2 : (H.map Prod.fst)[j]? = some b := by rw [List.getElem?_map, hj]; rfl
  obtain ⟨l1, f1⟩ := List.getElem?_eq_some_iff.1 e1
  obtain ⟨l2, f2⟩ := List.getElem?_eq_some_iff.1 e2
  rcases Nat.lt_or_gt_of_ne hij with hlt | hlt
  · exact (List.pairwise_iff_getElem.1 hn i j l1 l2 hlt) (f1.trans f2.symm)
  · exact (List.pairwise_iff_getElem.1 hn j i l2 l1 hlt) (f2.trans f1.symm)
end Go.Sy
namespace Go.Proofs.YtccpgpnekoncoaaGreatDoor
open Go Go.Sy Go.BarM
theorem mkBarA {u w : World} {H : List (Nat × Obj)} {b : BarD} {sa : Option Addr} {sc bp bm i j cm : Nat} {cs : Array Value} {es : Array MapEntry} (hh : Hp u [] H w) (hi : H[i]? = some (bp, .cells cs 128 (0, 0))) (hj : H[j]? = some (bm, .map es cm)) (hij : i ≠ j)
    (hcs : BarC b sa sc bm b.scenes.length cs) (hS : ScAt u sa b.scenes) (hT : GTab u) : BarA w b sa sc bp bm :=
  ⟨⟨cs, hh.at hi, hcs⟩, hS.ext hh.ext, hT.ext hh.ext (by simp), hh.diff hi hj hij, by obtain ⟨c, T, fr, h1, _⟩ := hT; exact hh.newer hj h1,
    fun k s hs a ha => by obtain ⟨blk, off, c, T, fr, e, h1, _⟩ := hS k s hs; rw [e] at ha; cases ha; exact hh.newer hj h1⟩
theorem memo_nil (b : BarD) : Memo .u64 .u64 (memF b) #[] := by intro e he; simp at he
theorem c46 (b : BarD) (sa : Option Addr) (sc bp bm set Bq Bs Bb cm : Nat) (es : Array MapEntry) (u : World) (hV : Valid b) (hset : set ≤ 65536) (hC : TakC u b sa sc bp bm set Bs Bb) (hq : u.heap[Bq]? = some (.cells #[ptr bp 0] 62 (0, 0))) (hnq : Bq ∉ [bm])
    (hm : u.heap[bm]? = some (.map es cm)) (hM : Memo .u64 .u64 (memF b) es) : Calls Tryz.prog 49 #[.func (.func 81) #[] #[ptr Bq 0], .func (.func 82) #[] #[ptr Bs 0, ptr Bb 0]] u
    (Ret fun v w' => v = .tuple #[.int .u64 ((firstP b set).getD 0 : Nat), .bool (firstP b set).isSome] ∧ ∃ es' c', Memo .u64 .u64 (memF b) es' ∧ Hp u [bm] [(bm, .map es' c')] w') := by
  refine calls_ofM Tryz.func49 rfl rfl (fun a hf => ?_)
  have hh := Hp.init1 hm
  refine sy_seq ?_
  refine sy_ops ?_
  refine ops_box hf hh rfl (.inl rfl) rfl ?_; clear hf hh; clear a; intro B3 a w hf hh
  refine ops_alloc hf hh Tryz.ze_75 (.inl rfl) rfl ?_; clear hf hh; clear a; intro B4 a w hf hh
  refine ops_alloc hf hh Tryz.ze_4 (.inl rfl) rfl ?_; clear hf hh; clear a; intro B5 a w hf hh
  refine ops_end ?_
  refine then_n ?_
  refine sy_seq ?_
  refine sy_seq ?_
  refine sy_ops ?_
  refine ops_v hf hh (yv_move rfl) (.inl rfl) rfl rfl rfl ?_; clear hf; clear a; intro a hf
  refine ops_end ?_
  refine then_n ?_
  refine sy_block ?_
  refine sy_range (I := fun k H => (∀ j p, j < k → (plansL b)[j]? = some p → takesB b set p = false) ∧ ∃ es2 cm2, Memo .u64 .u64 (memF b) es2 ∧ H = (B5, .cells #[.bool false] 4) :: (B4, .cells #[.int .u64 (0 : Nat)] 75) :: (B3, .cells #[.func (.func 82) #[] #[ptr Bs 0, ptr Bb 0]] 116) :: (bm, .map es2 cm2) :: []) (X := fun k c H => c = .ret ∧ ∃ p es2 cm2, (plansL b)[k]? = some p ∧ takesB b set p = true ∧ (∀ j p, j < k → (plansL b)[j]? = some p → takesB b set p = false) ∧ Memo .u64 .u64 (memF b) es2 ∧ H = (B5, .cells #[.bool true] 4) :: (B4, .cells #[.int .u64 (p : Nat)] 75) :: (B3, .cells #[.func (.func 82) #[] #[ptr Bs 0, ptr Bb 0]] 116) :: (bm, .map es2 cm2) :: []) hf hh Tryz.en_81 rfl (it69 b sa sc bp bm Bq hV) rfl (by intro x hx; obtain ⟨y, _, rfl⟩ := List.mem_map.1 hx; rfl) ?_ ?_ ?_ ?_ ?_
  · exact ⟨fun j p hj => absurd hj (Nat.not_lt_zero _), es, cm, hM, rfl⟩
  · rintro _ _ l D o w ⟨_, es2, cm2, _, rfl⟩ h
    exact ⟨h.oldM hq hnq, (hC.ba.ext h.ext (by simp)).bo⟩
  · rintro k x fn D l H w a tm hx ⟨hI, es2, cm2, hM2, rfl⟩ hh hf
    obtain ⟨y, hy1, rfl⟩ := tq_of hx
    refine sy_ops ?_
    refine ops_v hf hh (yv_assign rfl) (.inl rfl) rfl rfl rfl ?_; clear hf; clear a; intro a hf
    refine ops_end ?_
    refine then_n (Go.Sy.begun (i := 0) hh rfl fun w hh => ?_)
    refine sy_block ?_
    refine sy_seq ?_
    refine sy_ops ?_
    refine ops_v hf hh (yv_load Tryz.sc_116 rfl (fun _ h => by first | exact h.at (i := 0) rfl | exact h.at (i := 1) rfl | exact h.at (i := 2) rfl | exact h.at (i := 3) rfl | exact h.at (i := 4) rfl | exact h.at (i := 5) rfl | exact h.at (i := 6) rfl) (by first | rfl | assumption)) (.inl rfl) rfl rfl rfl ?_; clear hf; clear a; intro a hf
    refine ops_v hf hh (yv_move rfl) (.inl rfl) rfl rfl rfl ?_; clear hf; clear a; intro a hf
    refine ops_call hf Tryz.en_82 rfl rfl rfl (.inl rfl) rfl (c70 b sa sc bp bm set Bs Bb y cm2 es2 _ hV (pl_lt hV hy1) hset (hC.ext hh.ext) (hh.at (i := 5) rfl) hM2) ?_; clear hf; clear a; intro v a w hR hf
    obtain ⟨rfl, es3, cm3, hM3, hx2⟩ := hR; replace hh := hh.turn (i := 5) rfl hx2.ext (hx2.at (i := 0) rfl); clear hx2
    refine ops_end ?_
    refine then_n ?_
    refine sy_cond hf rfl (fun hg3 => ?_) (fun hg3 => ?_)
    · have hG3 := hg3; try simp only [gS] at hG3
      refine sy_seq ?_
      refine sy_ops ?_
      refine ops_v hf hh (yv_move rfl) (.inl rfl) rfl rfl rfl ?_; clear hf; clear a; intro a hf
      first | refine ops_store (i := 0) hf hh rfl rfl rfl Tryz.sz_75 rfl rfl rfl (.inl rfl) fun w hh => ?_ | refine ops_store (i := 1) hf hh rfl rfl rfl Tryz.sz_75 rfl rfl rfl (.inl rfl) fun w hh => ?_ | refine ops_store (i := 2) hf hh rfl rfl rfl Tryz.sz_75 rfl rfl rfl (.inl rfl) fun w hh => ?_ | refine ops_store (i := 3) hf hh rfl rfl rfl Tryz.sz_75 rfl rfl rfl (.inl rfl) fun w hh => ?_ | refine ops_store (i := 4) hf hh rfl rfl rfl Tryz.sz_75 rfl rfl rfl (.inl rfl) fun w hh => ?_ | refine ops_store (i := 5) hf hh rfl rfl rfl Tryz.sz_75 rfl rfl rfl (.inl rfl) fun w hh => ?_ | refine ops_store (i := 6) hf hh rfl rfl rfl Tryz.sz_75 rfl rfl rfl (.inl rfl) fun w hh => ?_
      first | refine ops_store (i := 0) hf hh rfl rfl rfl Tryz.sz_4 rfl rfl rfl (.inl rfl) fun w hh => ?_ | refine ops_store (i := 1) hf hh rfl rfl rfl Tryz.sz_4 rfl rfl rfl (.inl rfl) fun w hh => ?_ | refine ops_store (i := 2) hf hh rfl rfl rfl Tryz.sz_4 rfl rfl rfl (.inl rfl) fun w hh => ?_ | refine ops_store (i := 3) hf hh rfl rfl rfl Tryz.sz_4 rfl rfl rfl (.inl rfl) fun w hh => ?_ | refine ops_store (i := 4) hf hh rfl rfl rfl Tryz.sz_4 rfl rfl rfl (.inl rfl) fun w hh => ?_ | refine ops_store (i := 5) hf hh rfl rfl rfl Tryz.sz_4 rfl rfl rfl (.inl rfl) fun w hh => ?_ | refine ops_store (i := 6) hf hh rfl rfl rfl Tryz.sz_4 rfl rfl rfl (.inl rfl) fun w hh => ?_
      refine ops_end ?_
      refine then_n ?_
      refine sy_ret ?_
      refine blk_r ?_
      exact ⟨_, ⟨rfl, y, es3, cm3, hy1, by assumption, hI, hM3, rfl⟩, hh⟩
    · have hG3 := hg3; try simp only [gS] at hG3
      refine sy_skip ?_
      refine blk_n ?_
      refine ⟨_, ⟨fun j p hj hp => ?_, es3, cm3, hM3, rfl⟩, hh⟩
      by_cases hjk : j = k
      · subst hjk; rw [hy1] at hp; cases hp; assumption
      · exact hI j p (by omega) hp
  · rintro D H a w ⟨hI, es2, cm2, hM2, rfl⟩ hf hh
    have hnone : firstP b set = none := findq_none (fun j p hj hp => hI j p (by simpa using hj) hp)
    rw [hnone]
    refine blk_n ?_
    refine then_n ?_
    refine sy_seq ?_
    refine sy_ops ?_
    refine ops_v hf hh (yv_load Tryz.sc_75 rfl (fun _ h => by first | exact h.at (i := 0) rfl | exact h.at (i := 1) rfl | exact h.at (i := 2) rfl | exact h.at (i := 3) rfl | exact h.at (i := 4) rfl | exact h.at (i := 5) rfl | exact h.at (i := 6) rfl) (by first | rfl | assumption)) (.inl rfl) rfl rfl rfl ?_; clear hf; clear a; intro a hf
    first | refine ops_store (i := 0) hf hh rfl rfl rfl Tryz.sz_75 rfl rfl rfl (.inl rfl) fun w hh => ?_ | refine ops_store (i := 1) hf hh rfl rfl rfl Tryz.sz_75 rfl rfl rfl (.inl rfl) fun w hh => ?_ | refine ops_store (i := 2) hf hh rfl rfl rfl Tryz.sz_75 rfl rfl rfl (.inl rfl) fun w hh => ?_ | refine ops_store (i := 3) hf hh rfl rfl rfl Tryz.sz_75 rfl rfl rfl (.inl rfl) fun w hh => ?_ | refine ops_store (i := 4) hf hh rfl rfl rfl Tryz.sz_75 rfl rfl rfl (.inl rfl) fun w hh => ?_ | refine ops_store (i := 5) hf hh rfl rfl rfl Tryz.sz_75 rfl rfl rfl (.inl rfl) fun w hh => ?_ | refine ops_store (i := 6) hf hh rfl rfl rfl Tryz.sz_75 rfl rfl rfl (.inl rfl) fun w hh => ?_
    first | refine ops_store (i := 0) hf hh rfl rfl rfl Tryz.sz_4 rfl rfl rfl (.inl rfl) fun w hh => ?_ | refine ops_store (i := 1) hf hh rfl rfl rfl Tryz.sz_4 rfl rfl rfl (.inl rfl) fun w hh => ?_ | refine ops_store (i := 2) hf hh rfl rfl rfl Tryz.sz_4 rfl rfl rfl (.inl rfl) fun w hh => ?_ | refine ops_store (i := 3) hf hh rfl rfl rfl Tryz.sz_4 rfl rfl rfl (.inl rfl) fun w hh => ?_ | refine ops_store (i := 4) hf hh rfl rfl rfl Tryz.sz_4 rfl rfl rfl (.inl rfl) fun w hh => ?_ | refine ops_store (i := 5) hf hh rfl rfl rfl Tryz.sz_4 rfl rfl rfl (.inl rfl) fun w hh => ?_ | refine ops_store (i := 6) hf hh rfl rfl rfl Tryz.sz_4 rfl rfl rfl (.inl rfl) fun w hh => ?_
    refine ops_end ?_
    refine then_n ?_
    refine sy_ret ?_
    refine ret_m (Ds := [D]) (H := (B5, .cells #[.bool false] 4) :: (B4, .cells #[.int .u64 (0 : Nat)] 75) :: (B3, .cells #[.func (.func 82) #[] #[ptr Bs 0, ptr Bb 0]] 116) :: (bm, .map es2 cm2) :: []) hf hh fun w' hh => ?_
    exact ⟨[.int .u64 (0 : Nat), .bool false], ⟨⟨B4, 0, _, _, _, rfl, hh.at (i := 1) rfl, .inl ⟨Tryz.sc_75, rfl⟩⟩, ⟨B5, 0, _, _, _, rfl, hh.at (i := 0) rfl, .inl ⟨sc4, rfl⟩⟩, True.intro⟩, rfl, es2, cm2, hM2, hh.less (.cons _ (.cons _ (.cons _ (.refl _))))⟩
  · rintro k c D H a w hX hf hh
    obtain ⟨rfl, p, es2, cm2, hp1, hp2, hI, hM2, rfl⟩ := hX
    have hsome : firstP b set = some p := findq_at hp1 hp2 hI
    rw [hsome]
    refine sy_ret ?_
    refine blk_r ?_
    refine then_r ?_
    refine ret_m (Ds := [D]) (H := (B5, .cells #[.bool true] 4) :: (B4, .cells #[.int .u64 (p : Nat)] 75) :: (B3, .cells #[.func (.func 82) #[] #[ptr Bs 0, ptr Bb 0]] 116) :: (bm, .map es2 cm2) :: []) hf hh fun w' hh => ?_
    exact ⟨[.int .u64 (p : Nat), .bool true], ⟨⟨B4, 0, _, _, _, rfl, hh.at (i := 1) rfl, .inl ⟨Tryz.sc_75, rfl⟩⟩, ⟨B5, 0, _, _, _, rfl, hh.at (i := 0) rfl, .inl ⟨sc4, rfl⟩⟩, True.intro⟩, rfl, es2, cm2, hM2, hh.less (.cons _ (.cons _ (.cons _ (.refl _))))⟩
theorem c18v (b : BarD) (sa : Option Addr) (sc : Nat) (u : World) (hS : ScAt u sa b.scenes) (hT : GTab u) (hV : Valid b) : Calls Tryz.prog 17 #[barV b sa sc] u (Ret fun v w' => v = .tuple #[.int .i64 ((firstP b (2 ^ b.scenes.length - 1)).getD 0 : Nat), .int .i64 (if (firstP b (2 ^ b.scenes.length - 1)).isSome then 0 else 11)] ∧ Ext [] u w') := by
  refine calls_of Tryz.func17 rfl rfl (fun a hf => ?_)
  have hh := Hp.init u []
  have hn := hV.n
  have hm1 : 1 ≤ 2 ^ b.scenes.length := Nat.one_le_two_pow
  have hm2 : 2 ^ b.scenes.length ≤ 2 ^ 10 := Nat.pow_le_pow_right (by omega) hn
  have hs1 := hV.s1; have hs2 := hV.s2
  have hpw := shl_bd hs1 hs2
  have hfb : (firstP b (2 ^ b.scenes.length - 1)).getD 0 < 65536 := by
    cases h : firstP b (2 ^ b.scenes.length - 1) with
    | none => simp
    | some p =>
      have h2 := List.mem_of_find?_eq_some h
      obtain ⟨j, hj⟩ := List.getElem?_of_mem h2
      have := pl_lt hV hj
      simp; omega
  refine sy_seq ?_
  refine sy_ops ?_
  refine ops_box hf hh rfl (.inl rfl) rfl ?_; clear hf hh; clear a; intro B1 a w hf hh
  refine ops_v hf hh (yv_assign rfl) (.inl rfl) rfl rfl rfl ?_; clear hf; clear a; intro a hf
  refine ops_v hf hh (yv_assign rfl) (.inl rfl) rfl rfl rfl ?_; clear hf; clear a; intro a hf
  refine ops_end ?_
  refine then_n ?_
  refine sy_seq ?_
  refine sy_ops ?_
  refine ops_v hf hh (yv_loads Tryz.ag_24 rfl (fun _ h => by first | exact h.at (i := 0) rfl | exact h.at (i := 1) rfl | exact h.at (i := 2) rfl | exact h.at (i := 3) rfl) (by first | assumption | rfl)) (.inl rfl) rfl rfl rfl ?_; clear hf; clear a; intro a hf
  refine ops_call hf Tryz.en_20 rfl rfl rfl (.inl rfl) rfl (c35 b sa sc _ (hS.ext hh.ext) hV) ?_; clear hf; clear a; intro v a w hR hf
  obtain ⟨bp, bm, cs, rfl, hcs, hx⟩ := hR; replace hh := hh.join hx; clear hx
  refine ops_v hf hh (yv_move rfl) (.inl rfl) rfl rfl rfl ?_; clear hf; clear a; intro a hf
  refine ops_v hf hh (yv_extract rfl rfl) (.inl rfl) rfl rfl rfl ?_; clear hf; clear a; intro a hf
  refine ops_v hf hh (yv_extract rfl rfl) (.inl rfl) rfl rfl rfl ?_; clear hf; clear a; intro a hf
  refine ops_v hf hh (yv_assign rfl) (.inl rfl) rfl rfl rfl ?_; clear hf; clear a; intro a hf
  refine ops_v hf hh (yv_assign rfl) (.inl rfl) rfl rfl rfl ?_; clear hf; clear a; intro a hf
  refine ops_end ?_
  refine then_n ?_
  refine sy_seq ?_
  refine sy_seq ?_
  refine sy_ops ?_
  refine ops_v hf hh (yv_move rfl) (.inl rfl) rfl rfl rfl ?_; clear hf; clear a; intro a hf
  refine ops_v hf hh (yv_bin rfl rfl rfl) (.inl rfl) rfl rfl rfl ?_; clear hf; clear a; intro a hf
  refine ops_end ?_
  refine then_n ?_
  refine sy_cf hf rfl (by first | assumption | rfl | (simp; done)) ?_
  refine sy_skip ?_
  refine then_n ?_
  refine sy_seq ?_
  refine sy_ops ?_
  refine ops_v hf hh (yv_move rfl) (.inl rfl) rfl rfl rfl ?_; clear hf; clear a; intro a hf
  refine ops_call hf Tryz.en_50 rfl rfl rfl (.inl rfl) rfl (c47 bp _) ?_; clear hf; clear a; intro v a w hR hf
  obtain ⟨Bq, rfl, hx⟩ := hR; replace hh := hh.join hx; clear hx
  refine ops_v hf hh (yv_move rfl) (.inl rfl) rfl rfl rfl ?_; clear hf; clear a; intro a hf
  refine ops_v hf hh (yv_move rfl) (.inl rfl) rfl rfl rfl ?_; clear hf; clear a; intro a hf
  refine ops_call hf Tryz.en_52 rfl rfl rfl (.inl rfl) rfl (c49 b sa sc bp bm _ hV ⟨cs, hh.at (i := 1) rfl, hcs⟩) ?_; clear hf; clear a; intro v a w hR hf
  obtain ⟨rfl, hx⟩ := hR; replace hh := hh.more hx; clear hx
  refine ops_call hf Tryz.en_51 rfl rfl rfl (.inl rfl) rfl (c48 bp (2 ^ b.scenes.length - 1) _) ?_; clear hf; clear a; intro v a w hR hf
  obtain ⟨Bs, Bb, rfl, hx⟩ := hR; replace hh := hh.join hx; clear hx
  refine ops_call hf Tryz.en_49 rfl rfl rfl (.inl rfl) rfl (c46 b sa sc bp bm (2 ^ b.scenes.length - 1) Bq Bs Bb 0 #[] _ hV (by omega) ⟨mkBarA (i := 3) (j := 4) hh rfl rfl (by omega) hcs hS hT, hh.at (i := 0) rfl, hh.at (i := 1) rfl, by simpa using hh.diff (i := 0) (j := 4) rfl rfl (by omega), by simpa using hh.diff (i := 1) (j := 4) rfl rfl (by omega)⟩
        (hh.at (i := 2) rfl) (by simpa using hh.diff (i := 2) (j := 4) rfl rfl (by omega)) (hh.at (i := 4) rfl) (memo_nil b)) ?_; clear hf; clear a; intro v a w hR hf
  obtain ⟨rfl, es2, cm2, hM2, hx⟩ := hR; replace hh := hh.turn (i := 4) rfl hx.ext (hx.at (i := 0) rfl); clear hx
  refine ops_v hf hh (yv_move rfl) (.inl rfl) rfl rfl rfl ?_; clear hf; clear a; intro a hf
  refine ops_v hf hh (yv_extract rfl rfl) (.inl rfl) rfl rfl rfl ?_; clear hf; clear a; intro a hf
  refine ops_v hf hh (yv_extract rfl rfl) (.inl rfl) rfl rfl rfl ?_; clear hf; clear a; intro a hf
  refine ops_v hf hh (yv_assign rfl) (.inl rfl) rfl rfl rfl ?_; clear hf; clear a; intro a hf
  refine ops_v hf hh (yv_assign rfl) (.inl rfl) rfl rfl rfl ?_; clear hf; clear a; intro a hf
  refine ops_end ?_
  refine then_n ?_
  refine sy_seq ?_
  refine sy_seq ?_
  refine sy_ops ?_
  refine ops_v hf hh (yv_move rfl) (.inl rfl) rfl rfl rfl ?_; clear hf; clear a; intro a hf
  refine ops_v hf hh (yv_not rfl) (.inl rfl) rfl rfl rfl ?_; clear hf; clear a; intro a hf
  refine ops_end ?_
  refine then_n ?_
  refine sy_cond hf rfl (fun hg11 => ?_) (fun hg11 => ?_)
  · have hG11 := hg11; try simp only [gS] at hG11
    refine sy_seq ?_
    refine sy_ops ?_
    refine ops_v hf hh (yv_assign rfl) (.inl rfl) rfl rfl rfl ?_; clear hf; clear a; intro a hf
    refine ops_v hf hh (yv_assign rfl) (.inl rfl) rfl rfl rfl ?_; clear hf; clear a; intro a hf
    refine ops_end ?_
    refine then_n ?_
    refine sy_ret ?_
    refine then_r ?_
    refine ret_r hf rfl rfl ?_
    first
      | (have hfn : (firstP b (2 ^ b.scenes.length - 1)).isSome = true := by first | assumption | (simp_all; done)
         rw [if_pos hfn]; exact ⟨rfl, hh.ext⟩)
      | (have hfn : (firstP b (2 ^ b.scenes.length - 1)).isSome = false := by first | assumption | (simp_all; done)
         have hfe : firstP b (2 ^ b.scenes.length - 1) = none := by simpa using hfn
         rw [hfe]; exact ⟨rfl, hh.ext⟩)
  · have hG11 := hg11; try simp only [gS] at hG11
    refine sy_skip ?_
    refine then_n ?_
    refine sy_seq ?_
    refine sy_ops ?_
    refine ops_v hf hh (yv_move rfl) (.inl rfl) rfl rfl rfl ?_; clear hf; clear a; intro a hf
    first | refine ops_v hf hh (yv_convx (.inl rfl) (by kernel_rfl) Tryz.un_3 rfl (by omega) (by simp only [IntKind.top]; omega)) (.inl rfl) rfl rfl rfl ?_; clear hf; clear a; intro a hf | refine ops_v hf hh (yv_conv (by kernel_rfl) Tryz.un_3 rfl) (.inl rfl) rfl rfl rfl ?_; clear hf; clear a; intro a hf
    refine ops_v hf hh (yv_assign rfl) (.inl rfl) rfl rfl rfl ?_; clear hf; clear a; intro a hf
    refine ops_v hf hh (yv_assign rfl) (.inl rfl) rfl rfl rfl ?_; clear hf; clear a; intro a hf
    refine ops_end ?_
    refine then_n ?_
    refine sy_ret ?_
    refine ret_r hf rfl rfl ?_
    first
      | (have hfn : (firstP b (2 ^ b.scenes.length - 1)).isSome = true := by first | assumption | (simp_all; done)
         rw [if_pos hfn]; exact ⟨rfl, hh.ext⟩)
      | (have hfn : (firstP b (2 ^ b.scenes.length - 1)).isSome = false := by first | assumption | (simp_all; done)
         have hfe : firstP b (2 ^ b.scenes.length - 1) = none := by simpa using hfn
         rw [hfe]; exact ⟨rfl, hh.ext⟩)
attribute [irreducible] firstP
end Go.Proofs.YtccpgpnekoncoaaGreatDoor

namespace Go.Proofs.YtccpgpnekoncoaaGreatDoor
open Go Go.Sy Go.BarM
theorem flat_len {α β : Type} {n : Nat} {f : α → List β} : ∀ L : List α, (∀ x ∈ L, (f x).length ≤ n) → (L.flatMap f).length ≤ L.length * n
  | [], _ => by simp
  | x :: L, h => by
    rw [List.flatMap_cons, List.length_append, List.length_cons, Nat.add_mul]
    have h1 := h x (by simp)
    have h2 := flat_len L (fun y hy => h y (by simp [hy]))
    omega
/-- How many of the first k plans take all scenes. -/
def cntK (b : BarD) (set k : Nat) : Nat := ((plansL b).take k).countP (takesB b set)
/-- The plan that takes the most scenes, of the first k. -/
def bstK (b : BarD) (k : Nat) : Nat := ((plansL b).take k).foldl (fun m p => if pc (taken b m) < pc (taken b p) then p else m) 0
attribute [irreducible] cntK bstK
end Go.Proofs.YtccpgpnekoncoaaGreatDoor

namespace Go.Proofs.YtccpgpnekoncoaaGreatDoor
open Go Go.Sy Go.BarM
/-- The cells of pairs of slots. -/
def encL (L : List (Nat × Nat × Nat)) : List Value := L.flatMap fun x => [.int .i64 x.1, .int .i64 x.2.1, .int .i64 x.2.2]
theorem encL_take {L : List (Nat × Nat × Nat)} {k : Nat} {y : Nat × Nat × Nat} (h : L[k]? = some y) : encL (L.take (k + 1)) = encL (L.take k) ++ [.int .i64 y.1, .int .i64 y.2.1, .int .i64 y.2.2] := by
  unfold encL; rw [List.take_add_one, h, List.flatMap_append]; rfl
theorem encL_get : ∀ (L : List (Nat × Nat × Nat)) (k j : Nat) (y : Nat × Nat × Nat), L[k]? = some y → j < 3 → (encL L)[k * 3 + j]? = [Value.int .i64 y.1, .int .i64 y.2.1, .int .i64 y.2.2][j]?
  | [], k, j, y, h, _ => by simp at h
  | x :: L, 0, j, y, h, hj => by
    simp at h; subst h
    unfold encL; rw [List.flatMap_cons, Nat.zero_mul, Nat.zero_add, List.getElem?_append_left (by simpa using hj)]
  | x :: L, k + 1, j, y, h, hj => by
    have ih := encL_get L k j y (by simpa using h) hj
    unfold encL at *
    rw [List.flatMap_cons, List.getElem?_append_right (by simp; omega), ← ih]
    congr 1; simp; omega
theorem OwnSl.form {e size m : Nat} {v : Value} {xs : List Value} {X : List (Nat × Obj)} (h : OwnSl e size v m xs X) : ∃ oa cap, v = .slice oa m cap := by
  rcases h.2 with ⟨rfl, rfl, _⟩ | ⟨B, cap, _, rfl, _⟩
  · exact ⟨none, 0, rfl⟩
  · exact ⟨_, cap, rfl⟩
theorem pairsP_len {b : BarD} {p : Nat} {s : Scn} (hV : Valid b) (hO : OkS s) : (pairsP b p s).length ≤ 16 * 16 := by
  have h1 := hiS_bd hV hO; have h2 := loS_bd hV hO; have hs2 := hV.s2
  unfold pairsP restD
  have h := flat_len (n := 16) (f := rowD p s) (List.range' (loS b s).toNat ((hiS b s).toNat + 1 - (loS b s).toNat)) (fun d _ => by
    unfold rowD bitsOf
    refine Nat.le_trans (List.length_filterMap_le _ _) (Nat.le_trans (List.length_filter_le _ _) (by simp)))
  rw [List.length_range'] at h
  exact Nat.le_trans h (Nat.mul_le_mul_right _ (by omega))
theorem MemP.ext {b : BarD} {sa : Option Addr} {sc bp bm p i B1 B2 B3 : Nat} {w w' : World} (h : MemP b sa sc bp bm p i B1 B2 B3 w) (e : Ext [] w w') : MemP b sa sc bp bm p i B1 B2 B3 w' :=
  ⟨e.get h.1, e.get h.2.1, e.get h.2.2.1, h.2.2.2.1.ext e (by simp), h.2.2.2.2.1.ext e, h.2.2.2.2.2.ext e (by simp)⟩
theorem tw_of {L : List (Nat × Nat × Nat)} {j : Nat} {x : Array Value} (h : (L.map tw)[j]? = some x) : ∃ y, L[j]? = some y ∧ x = tw y := by
  rw [List.getElem?_map] at h
  cases hy : L[j]? with
  | none => rw [hy] at h; cases h
  | some y => rw [hy] at h; exact ⟨y, rfl, (Option.some.inj h).symm⟩
theorem c61 (b : BarD) (sa : Option Addr) (sc bp bm p i Ba Bi Bp : Nat) (s : Scn) (u : World) (hV : Valid b) (hs : b.scenes[i]? = some s) (hp : p < 65536) (hMem : MemP b sa sc bp bm p i Ba Bi Bp u) : Calls Tryz.prog 58 #[.slice none 0 0, .func (.func 59) #[] #[ptr Ba 0, ptr Bi 0, ptr Bp 0]] u (Ret fun v w' => ∃ X, OwnSl 70 3 v (pairsP b p s).length (encL (pairsP b p s)) X ∧ Hp u [] X w') := by
  refine calls_ofM Tryz.func58 rfl rfl (fun a hf => ?_)
  have hh := Hp.init u []
  have hO := hV.sc s (List.mem_of_getElem? hs)
  have hpl := pairsP_len (p := p) hV hO
  refine sy_seq ?_
  refine sy_ops ?_
  refine ops_box hf hh rfl (.inl rfl) rfl ?_; clear hf hh; clear a; intro B2 a w hf hh
  refine ops_v hf hh (yv_assign rfl) (.inl rfl) rfl rfl rfl ?_; clear hf; clear a; intro a hf
  refine ops_end ?_
  refine then_n ?_
  refine sy_seq ?_
  refine sy_seq ?_
  refine sy_ops ?_
  refine ops_v hf hh (yv_move rfl) (.inl rfl) rfl rfl rfl ?_; clear hf; clear a; intro a hf
  refine ops_end ?_
  refine then_n ?_
  refine sy_block ?_
  refine sy_range (I := fun k H => ∃ v X, OwnSl 70 3 v k (encL ((pairsP b p s).take k)) X ∧ H = (B2, .cells #[v] 67) :: X) (X := fun _ _ _ => False) hf hh Tryz.en_59 rfl (it62 b sa sc bp bm p i Ba Bi Bp s hV hs hp) rfl (by intro x hx; obtain ⟨y, _, rfl⟩ := List.mem_map.1 hx; rfl) ?_ ?_ ?_ ?_ ?_
  · exact ⟨.slice none 0 0, [], OwnSl.nil _ _, rfl⟩
  · rintro _ _ l D o w ⟨_, _, _, rfl⟩ h
    exact hMem.ext h.ext
  · rintro k x fn D l H w a tm hx ⟨v, X, hown, rfl⟩ hh hf
    obtain ⟨y, hy1, rfl⟩ := tw_of hx
    have hkl := (List.getElem?_eq_some_iff.1 hy1).1
    refine sy_ops ?_
    refine ops_alloc hf hh Tryz.ze_70 (.inl rfl) rfl ?_; clear hf hh; clear a; intro B5 a w hf hh
    first | refine ops_store (i := 0) hf hh rfl rfl rfl Tryz.sz_70 rfl rfl rfl (.inl rfl) fun w hh => ?_ | refine ops_store (i := 1) hf hh rfl rfl rfl Tryz.sz_70 rfl rfl rfl (.inl rfl) fun w hh => ?_ | refine ops_store (i := 2) hf hh rfl rfl rfl Tryz.sz_70 rfl rfl rfl (.inl rfl) fun w hh => ?_ | refine ops_store (i := 3) hf hh rfl rfl rfl Tryz.sz_70 rfl rfl rfl (.inl rfl) fun w hh => ?_ | refine ops_store (i := 4) hf hh rfl rfl rfl Tryz.sz_70 rfl rfl rfl (.inl rfl) fun w hh => ?_ | refine ops_store (i := 5) hf hh rfl rfl rfl Tryz.sz_70 rfl rfl rfl (.inl rfl) fun w hh => ?_
    refine ops_end ?_
    refine then_n (Go.Sy.begun (i := 1) hh rfl fun w hh => ?_)
    refine sy_block ?_
    refine sy_ops ?_
    refine ops_v hf hh (yv_load Tryz.sc_67 rfl (fun _ h => by first | exact h.at (i := 0) rfl | exact h.at (i := 1) rfl | exact h.at (i := 2) rfl | exact h.at (i := 3) rfl | exact h.at (i := 4) rfl | exact h.at (i := 5) rfl) (by first | rfl | assumption)) (.inl rfl) rfl rfl rfl ?_; clear hf; clear a; intro a hf
    refine ops_v hf hh (yv_loads Tryz.ag_70 rfl (fun _ h => by first | exact h.at (i := 0) rfl | exact h.at (i := 1) rfl | exact h.at (i := 2) rfl | exact h.at (i := 3) rfl | exact h.at (i := 4) rfl | exact h.at (i := 5) rfl) (by first | assumption | rfl)) (.inl rfl) rfl rfl rfl ?_; clear hf; clear a; intro a hf
    refine ops_buildSl hf hh Tryz.bl_67_1 rfl rfl (.inl rfl) rfl ?_; clear hf hh; clear a; intro B10 a w hf hh
    replace hh := hh.perm (H' := (B10, .cells #[.int .i64 y.1, .int .i64 y.2.1, .int .i64 y.2.2] 70) :: (X ++ [_, _, _, _])) (List.Perm.cons _ (List.perm_append_comm (l₁ := [_, _, _, _])))
    refine ops_append (e := 70) (size := 3) (xs := encL ((pairsP b p s).take k)) hf hh Tryz.eb_67 rfl rfl hown rfl rfl rfl (by simp only [maxLen]; omega) (by omega) (.inl rfl) rfl ?_; clear hf hh; clear a; intro v2 X2 a w hown2 hf hh
    replace hh := hh.perm (H' := [_, _, _, _] ++ X2) List.perm_append_comm
    obtain ⟨oa2, cap2, rfl⟩ := OwnSl.form hown2
    first | refine ops_store (i := 0) hf hh rfl rfl rfl Tryz.sz_67 rfl rfl rfl (.inl rfl) fun w hh => ?_ | refine ops_store (i := 1) hf hh rfl rfl rfl Tryz.sz_67 rfl rfl rfl (.inl rfl) fun w hh => ?_ | refine ops_store (i := 2) hf hh rfl rfl rfl Tryz.sz_67 rfl rfl rfl (.inl rfl) fun w hh => ?_ | refine ops_store (i := 3) hf hh rfl rfl rfl Tryz.sz_67 rfl rfl rfl (.inl rfl) fun w hh => ?_ | refine ops_store (i := 4) hf hh rfl rfl rfl Tryz.sz_67 rfl rfl rfl (.inl rfl) fun w hh => ?_ | refine ops_store (i := 5) hf hh rfl rfl rfl Tryz.sz_67 rfl rfl rfl (.inl rfl) fun w hh => ?_
    refine ops_end ?_
    refine blk_n ?_
    rw [← encL_take hy1] at hown2
    exact ⟨_, ⟨_, X2, hown2, rfl⟩, hh.less (.cons _ (.refl _))⟩
  · rintro D H a w ⟨v, X, hown, rfl⟩ hf hh
    rw [List.length_map, List.take_length] at hown
    refine blk_n ?_
    refine then_n ?_
    refine sy_seq ?_
    refine sy_ops ?_
    refine ops_v hf hh (yv_load Tryz.sc_67 rfl (fun _ h => by first | exact h.at (i := 0) rfl | exact h.at (i := 1) rfl | exact h.at (i := 2) rfl | exact h.at (i := 3) rfl | exact h.at (i := 4) rfl | exact h.at (i := 5) rfl) (by first | rfl | assumption)) (.inl rfl) rfl rfl rfl ?_; clear hf; clear a; intro a hf
    refine ops_v hf hh (yv_assign rfl) (.inl rfl) rfl rfl rfl ?_; clear hf; clear a; intro a hf
    refine ops_end ?_
    refine then_n ?_
    refine sy_ret ?_
    refine ret_m (Ds := [D]) (H := (B2, .cells #[v] 67) :: X) hf hh fun w' hh => ?_
    exact ⟨[v], ⟨rfl, True.intro⟩, X, hown, hh.less (.cons _ (.refl _))⟩
  · rintro k c D H a w hX hf hh
    exact hX.elim
theorem c41 (b : BarD) (sa : Option Addr) (sc bp bm p i Ba Bi Bp : Nat) (s : Scn) (u : World) (hV : Valid b) (hs : b.scenes[i]? = some s) (hp : p < 65536) (hMem : MemP b sa sc bp bm p i Ba Bi Bp u) : Calls Tryz.prog 23 #[.func (.func 59) #[] #[ptr Ba 0, ptr Bi 0, ptr Bp 0]] u (Ret fun v w' => ∃ X, OwnSl 70 3 v (pairsP b p s).length (encL (pairsP b p s)) X ∧ Hp u [] X w') := by
  refine calls_of Tryz.func23 rfl rfl (fun a hf => ?_)
  have hh := Hp.init u []
  refine sy_seq ?_
  refine sy_ops ?_
  refine ops_v hf hh (yv_assign rfl) (.inl rfl) rfl rfl rfl ?_; clear hf; clear a; intro a hf
  refine ops_end ?_
  refine then_n ?_
  refine sy_seq ?_
  refine sy_ops ?_
  refine ops_v hf hh (yv_move rfl) (.inl rfl) rfl rfl rfl ?_; clear hf; clear a; intro a hf
  refine ops_call hf Tryz.en_58 rfl rfl rfl (.inl rfl) rfl (c61 b sa sc bp bm p i Ba Bi Bp s _ hV hs hp (hMem.ext hh.ext)) ?_; clear hf; clear a; intro v a w hR hf
  obtain ⟨X, hown, hx⟩ := hR; replace hh := hh.join hx; clear hx
  refine ops_v hf hh (yv_assign rfl) (.inl rfl) rfl rfl rfl ?_; clear hf; clear a; intro a hf
  refine ops_end ?_
  refine then_n ?_
  refine sy_ret ?_
  refine ret_r hf rfl rfl ?_
  exact ⟨X, hown, by simpa using hh⟩
end Go.Proofs.YtccpgpnekoncoaaGreatDoor

namespace Go.Proofs.YtccpgpnekoncoaaGreatDoor
open Go Go.Sy Go.BarM
theorem cur_at {cur : Array Value} {L : List (Nat × Nat × Nat)} (h : cur.toList.take (L.length * 3) = encL L) {k : Nat} {y : Nat × Nat × Nat} (hk : L[k]? = some y) :
    cellsAt cur (0 + ((k : Nat) : Int).toNat * 3) 3 = some [.int .i64 y.1, .int .i64 y.2.1, .int .i64 y.2.2] := by
  have hl := (List.getElem?_eq_some_iff.1 hk).1
  have g : ∀ j, j < 3 → cur[k * 3 + j]? = [Value.int .i64 y.1, .int .i64 y.2.1, .int .i64 y.2.2][j]? := fun j hj => by
    rw [← encL_get L k j y hk hj, ← h, List.getElem?_take_of_lt (by omega), Array.getElem?_toList]
  have g0 := g 0 (by omega); have g1 := g 1 (by omega); have g2 := g 2 (by omega)
  rw [Int.toNat_natCast, Nat.zero_add]
  simp only [cellsAt, Nat.add_zero] at *
  rw [g0]; simp only [List.getElem?_cons_zero]
  rw [g1]; simp only [List.getElem?_cons_zero, List.getElem?_cons_succ]
  rw [show k * 3 + 1 + 1 = k * 3 + 2 from rfl, g2]; rfl
abbrev befT (c x : Nat × Nat × Nat) : Bool := befV c.1 c.2.1 c.2.2 x.1 x.2.1 x.2.2
def BestQ (L : List (Nat × Nat × Nat)) (k : Nat) (x : Nat × Nat × Nat) : Prop := x ∈ L ∧ ∀ j y, j < k → L[j]? = some y → befT y x = false
theorem BestQ.keep {L : List (Nat × Nat × Nat)} {k : Nat} {x y : Nat × Nat × Nat} (h : BestQ L k x) (hy : L[k]? = some y) (hb : befT y x = false) : BestQ L (k + 1) x :=
  ⟨h.1, fun j z hj hz => by
    by_cases hjk : j = k
    · subst hjk; rw [hy] at hz; cases hz; exact hb
    · exact h.2 j z (by omega) hz⟩
theorem BestQ.turn {L : List (Nat × Nat × Nat)} {k : Nat} {x y : Nat × Nat × Nat} (h : BestQ L k x) (hy : L[k]? = some y) (hb : befT y x = true) : BestQ L (k + 1) y :=
  ⟨List.mem_of_getElem? hy, fun j z hj hz => by
    by_cases hjk : j = k
    · subst hjk; rw [hy] at hz; cases hz; exact befV_same _ _ _
    · have h1 := h.2 j z (by omega) hz
      unfold befT befV at *
      simp only [decide_eq_true_eq, decide_eq_false_iff_not] at *
      omega⟩
theorem mem_bd {b : BarD} {p : Nat} {s : Scn} (hV : Valid b) (hO : OkS s) (hp : p < 2 ^ b.slots.toNat) {y : Nat × Nat × Nat} (h : y ∈ pairsP b p s) : y.2.1 ≤ y.2.2 ∧ y.2.2 ≤ 62 := by
  obtain ⟨h1, _⟩ := (mem_pairsP hV hO hp y.1 y.2.1 y.2.2).1 h
  have h2 := byB_lt h1
  have h3 : p.testBit y.2.2 = true := by unfold byB at h1; simp only [Bool.and_eq_true] at h1; exact h1.1.1.2
  have h4 := bit_lt hp h3
  have hs1 := hV.s1; have hs2 := hV.s2
  omega
theorem bestQ_best {b : BarD} {p : Nat} {s : Scn} (hV : Valid b) (hO : OkS s) (hp : p < 2 ^ b.slots.toNat) {x : Nat × Nat × Nat} (h : BestQ (pairsP b p s) (pairsP b p s).length x) : best b p s = some (x.2.1, x.2.2) := by
  rw [best_some hp]
  obtain ⟨h1, h2⟩ := (mem_pairsP hV hO hp x.1 x.2.1 x.2.2).1 h.1
  refine ⟨h1, fun l r hb => ?_⟩
  have hm := (mem_pairsP hV hO hp _ l r).2 ⟨hb, rfl⟩
  obtain ⟨j, hj⟩ := List.getElem?_of_mem hm
  have := h.2 j _ (List.getElem?_eq_some_iff.1 hj).1 hj
  unfold befT at this
  rw [h2] at this
  exact this
theorem bestV_nil {b : BarD} {p i : Int} {s : Scn} (h : okBar b = true) (hp : isPlanI b p = true) (h0 : 0 ≤ i) (hs : b.scenes[i.toNat]? = some s) (hx : best b p.toNat s = none) : bestV b p i = .tuple #[.int .i64 0, .int .i64 0, .int .i64 4] := by
  simp [bestV, h, hp, h0, hs, hx]
theorem bestV_one {b : BarD} {p i : Int} {s : Scn} {l r : Nat} (h : okBar b = true) (hp : isPlanI b p = true) (h0 : 0 ≤ i) (hs : b.scenes[i.toNat]? = some s) (hx : best b p.toNat s = some (l, r)) : bestV b p i = .tuple #[.int .i64 l, .int .i64 r, .int .i64 0] := by
  simp [bestV, h, hp, h0, hs, hx]
theorem c15n (b : BarD) (sa : Option Addr) (sc : Nat) (u : World) (hS : ScAt u sa b.scenes) (hb : okBar b = false) (p i : Int) : Calls Tryz.prog 6 #[barV b sa sc, .int .i64 p, .int .i64 i] u (Ret fun v w' => v = bestV b p i ∧ Ext [] u w') := by
  refine calls_of Tryz.func6 rfl rfl (fun a hf => ?_)
  have hh := Hp.init u []
  refine sy_seq ?_
  refine sy_ops ?_
  refine ops_box hf hh rfl (.inl rfl) rfl ?_; clear hf hh; clear a; intro B3 a w hf hh
  refine ops_v hf hh (yv_assign rfl) (.inl rfl) rfl rfl rfl ?_; clear hf; clear a; intro a hf
  refine ops_v hf hh (yv_assign rfl) (.inl rfl) rfl rfl rfl ?_; clear hf; clear a; intro a hf
  refine ops_v hf hh (yv_assign rfl) (.inl rfl) rfl rfl rfl ?_; clear hf; clear a; intro a hf
  refine ops_end ?_
  refine then_n ?_
  refine sy_seq ?_
  refine sy_ops ?_
  refine ops_v hf hh (yv_loads Tryz.ag_24 rfl (fun _ h => by first | exact h.at (i := 0) rfl | exact h.at (i := 1) rfl | exact h.at (i := 2) rfl | exact h.at (i := 3) rfl) (by first | assumption | rfl)) (.inl rfl) rfl rfl rfl ?_; clear hf; clear a; intro a hf
  refine ops_call hf Tryz.en_20 rfl rfl rfl (.inl rfl) rfl (c35n b sa sc _ (hS.ext hh.ext) hb) ?_; clear hf; clear a; intro v a w hR hf
  obtain ⟨rfl, hx⟩ := hR; replace hh := hh.more hx; clear hx
  refine ops_v hf hh (yv_move rfl) (.inl rfl) rfl rfl rfl ?_; clear hf; clear a; intro a hf
  refine ops_v hf hh (yv_extract rfl rfl) (.inl rfl) rfl rfl rfl ?_; clear hf; clear a; intro a hf
  refine ops_v hf hh (yv_extract rfl rfl) (.inl rfl) rfl rfl rfl ?_; clear hf; clear a; intro a hf
  refine ops_v hf hh (yv_assign rfl) (.inl rfl) rfl rfl rfl ?_; clear hf; clear a; intro a hf
  refine ops_v hf hh (yv_assign rfl) (.inl rfl) rfl rfl rfl ?_; clear hf; clear a; intro a hf
  refine ops_end ?_
  refine then_n ?_
  refine sy_seq ?_
  refine sy_block ?_
  refine sy_seq ?_
  refine sy_ops ?_
  refine ops_v hf hh (yv_move rfl) (.inl rfl) rfl rfl rfl ?_; clear hf; clear a; intro a hf
  refine ops_v hf hh (yv_bin rfl rfl rfl) (.inl rfl) rfl rfl rfl ?_; clear hf; clear a; intro a hf
  refine ops_v hf hh (yv_assign rfl) (.inl rfl) rfl rfl rfl ?_; clear hf; clear a; intro a hf
  refine ops_end ?_
  refine then_n ?_
  refine sy_ct hf rfl (by first | assumption | rfl | (simp; done)) ?_
  refine sy_seq ?_
  refine sy_ops ?_
  refine ops_v hf hh (yv_move rfl) (.inl rfl) rfl rfl rfl ?_; clear hf; clear a; intro a hf
  refine ops_v hf hh (yv_assign rfl) (.inl rfl) rfl rfl rfl ?_; clear hf; clear a; intro a hf
  refine ops_v hf hh (yv_assign rfl) (.inl rfl) rfl rfl rfl ?_; clear hf; clear a; intro a hf
  refine ops_v hf hh (yv_assign rfl) (.inl rfl) rfl rfl rfl ?_; clear hf; clear a; intro a hf
  refine ops_end ?_
  refine then_n ?_
  refine sy_ret ?_
  refine blk_r ?_
  refine then_r ?_
  refine ret_r hf rfl rfl ?_
  exact ⟨(bestV_arg hb).symm, hh.ext⟩
theorem c15v (b : BarD) (sa : Option Addr) (sc : Nat) (u : World) (hS : ScAt u sa b.scenes) (hT : GTab u) (hV : Valid b) (p i : Int) (hp1 : p ≤ 9223372036854775807) : Calls Tryz.prog 6 #[barV b sa sc, .int .i64 p, .int .i64 i] u (Ret fun v w' => v = bestV b p i ∧ Ext [] u w') := by
  refine calls_of Tryz.func6 rfl rfl (fun a hf => ?_)
  have hh := Hp.init u []
  have hn := hV.n
  have hm1 : 1 ≤ 2 ^ b.scenes.length := Nat.one_le_two_pow
  have hm2 : 2 ^ b.scenes.length ≤ 2 ^ 10 := Nat.pow_le_pow_right (by omega) hn
  have hs1 := hV.s1; have hs2 := hV.s2
  have hpw := shl_bd hs1 hs2
  have hok : okBar b = true := (okBar_iff b).2 hV
  refine sy_seq ?_
  refine sy_ops ?_
  refine ops_box hf hh rfl (.inl rfl) rfl ?_; clear hf hh; clear a; intro B3 a w hf hh
  refine ops_v hf hh (yv_assign rfl) (.inl rfl) rfl rfl rfl ?_; clear hf; clear a; intro a hf
  refine ops_v hf hh (yv_assign rfl) (.inl rfl) rfl rfl rfl ?_; clear hf; clear a; intro a hf
  refine ops_v hf hh (yv_assign rfl) (.inl rfl) rfl rfl rfl ?_; clear hf; clear a; intro a hf
  refine ops_end ?_
  refine then_n ?_
  refine sy_seq ?_
  refine sy_ops ?_
  refine ops_v hf hh (yv_loads Tryz.ag_24 rfl (fun _ h => by first | exact h.at (i := 0) rfl | exact h.at (i := 1) rfl | exact h.at (i := 2) rfl | exact h.at (i := 3) rfl) (by first | assumption | rfl)) (.inl rfl) rfl rfl rfl ?_; clear hf; clear a; intro a hf
  refine ops_call hf Tryz.en_20 rfl rfl rfl (.inl rfl) rfl (c35 b sa sc _ (hS.ext hh.ext) hV) ?_; clear hf; clear a; intro v a w hR hf
  obtain ⟨bp, bm, cs, rfl, hcs, hx⟩ := hR; replace hh := hh.join hx; clear hx
  refine ops_v hf hh (yv_move rfl) (.inl rfl) rfl rfl rfl ?_; clear hf; clear a; intro a hf
  refine ops_v hf hh (yv_extract rfl rfl) (.inl rfl) rfl rfl rfl ?_; clear hf; clear a; intro a hf
  refine ops_v hf hh (yv_extract rfl rfl) (.inl rfl) rfl rfl rfl ?_; clear hf; clear a; intro a hf
  refine ops_v hf hh (yv_assign rfl) (.inl rfl) rfl rfl rfl ?_; clear hf; clear a; intro a hf
  refine ops_v hf hh (yv_assign rfl) (.inl rfl) rfl rfl rfl ?_; clear hf; clear a; intro a hf
  refine ops_end ?_
  refine then_n ?_
  refine sy_seq ?_
  refine sy_block ?_
  refine sy_seq ?_
  refine sy_ops ?_
  refine ops_v hf hh (yv_move rfl) (.inl rfl) rfl rfl rfl ?_; clear hf; clear a; intro a hf
  refine ops_v hf hh (yv_bin rfl rfl rfl) (.inl rfl) rfl rfl rfl ?_; clear hf; clear a; intro a hf
  refine ops_v hf hh (yv_assign rfl) (.inl rfl) rfl rfl rfl ?_; clear hf; clear a; intro a hf
  refine ops_end ?_
  refine then_n ?_
  refine sy_cf hf rfl (by first | assumption | rfl | (simp; done)) ?_
  refine sy_seq ?_
  refine sy_ops ?_
  refine ops_v hf hh (yv_move rfl) (.inl rfl) rfl rfl rfl ?_; clear hf; clear a; intro a hf
  refine ops_v hf hh (yv_move rfl) (.inl rfl) rfl rfl rfl ?_; clear hf; clear a; intro a hf
  refine ops_call hf Tryz.en_21 rfl rfl rfl (.inl rfl) rfl (c36 b sa sc bp bm p _ hV ⟨cs, hh.at (i := 0) rfl, hcs⟩) ?_; clear hf; clear a; intro v a w hR hf
  obtain ⟨rfl, hx⟩ := hR; replace hh := hh.more hx; clear hx
  refine ops_v hf hh (yv_not rfl) (.inl rfl) rfl rfl rfl ?_; clear hf; clear a; intro a hf
  refine ops_v hf hh (yv_move rfl) (.inl rfl) rfl rfl rfl ?_; clear hf; clear a; intro a hf
  refine guard_split hf (t := 29) rfl (fun hg6 => ?_) (fun hg6 => ?_)
  · have hG6 := hg6; try simp only [gS] at hG6
    refine ops_off hf (goff rfl rfl rfl (by first | assumption | rfl | (simp; done))) rfl rfl ?_; clear hf; clear a; intro a hf
    refine ops_off hf (goff rfl rfl rfl (by first | assumption | rfl | (simp; done))) rfl rfl ?_; clear hf; clear a; intro a hf
    refine ops_off hf (goff rfl rfl rfl (by first | assumption | rfl | (simp; done))) rfl rfl ?_; clear hf; clear a; intro a hf
    refine ops_off hf (goff rfl rfl rfl (by first | assumption | rfl | (simp; done))) rfl rfl ?_; clear hf; clear a; intro a hf
    refine ops_off hf (goff rfl rfl rfl (by first | assumption | rfl | (simp; done))) rfl rfl ?_; clear hf; clear a; intro a hf
    refine ops_off hf (goff rfl rfl rfl (by first | assumption | rfl | (simp; done))) rfl rfl ?_; clear hf; clear a; intro a hf
    refine ops_off hf (goff rfl rfl rfl (by first | assumption | rfl | (simp; done))) rfl rfl ?_; clear hf; clear a; intro a hf
    refine ops_v hf hh (yv_pick_t rfl (by first | assumption | rfl | (simp; done)) rfl) (.inl rfl) rfl rfl rfl ?_; clear hf; clear a; intro a hf
    refine ops_v hf hh (yv_assign rfl) (.inl rfl) rfl rfl rfl ?_; clear hf; clear a; intro a hf
    refine ops_end ?_
    refine then_n ?_
    refine sy_ct hf rfl (by first | assumption | rfl | (simp; done)) ?_
    refine sy_seq ?_
    refine sy_ops ?_
    refine ops_v hf hh (yv_assign rfl) (.inl rfl) rfl rfl rfl ?_; clear hf; clear a; intro a hf
    refine ops_v hf hh (yv_assign rfl) (.inl rfl) rfl rfl rfl ?_; clear hf; clear a; intro a hf
    refine ops_v hf hh (yv_assign rfl) (.inl rfl) rfl rfl rfl ?_; clear hf; clear a; intro a hf
    refine ops_end ?_
    refine then_n ?_
    refine sy_ret ?_
    refine blk_r ?_
    refine then_r ?_
    refine ret_r hf rfl rfl ?_
    first
      | exact ⟨(bestV_plan hok (by assumption)).symm, hh.ext⟩
      | exact ⟨(bestV_scene hok (by assumption) (by omega)).symm, hh.ext⟩
      | (have hz : (pairsP b q s) = [] := List.eq_nil_of_length_eq_zero (by omega)
         exact ⟨(bestV_nil hok hpi hi0 hs (hnil.1 hz)).symm, hh.ext⟩)
      | (have hkk : k = (pairsP b q s).length := by omega
         subst hkk
         exact ⟨(bestV_one hok hpi hi0 hs (bestQ_best hV hO hpl hbq)).symm, hh.ext⟩)
  · have hG6 := hg6; try simp only [gS] at hG6
    refine ops_v hf hh (yv_move rfl) (gon rfl rfl rfl (by first | assumption | rfl | (simp; done))) rfl rfl rfl ?_; clear hf; clear a; intro a hf
    refine ops_v hf hh (yv_fieldAddr Tryz.fo_24_4 rfl) (gon rfl rfl rfl (by first | assumption | rfl | (simp; done))) rfl rfl rfl ?_; clear hf; clear a; intro a hf
    refine ops_v hf hh (yv_load Tryz.sc_22 rfl (fun _ h => by first | exact h.at (i := 0) rfl | exact h.at (i := 1) rfl | exact h.at (i := 2) rfl | exact h.at (i := 3) rfl) (by first | rfl | assumption)) (gon rfl rfl rfl (by first | assumption | rfl | (simp; done))) rfl rfl rfl ?_; clear hf; clear a; intro a hf
    refine ops_v hf hh (yv_len Tryz.se_22 rfl) (gon rfl rfl rfl (by first | assumption | rfl | (simp; done))) rfl rfl rfl ?_; clear hf; clear a; intro a hf
    first | refine ops_v hf hh (yv_sub rfl rfl (by omega) (by omega)) (gon rfl rfl rfl (by first | assumption | rfl | (simp; done))) rfl rfl rfl ?_; clear hf; clear a; intro a hf | refine ops_v hf hh (yv_bin rfl rfl rfl) (gon rfl rfl rfl (by first | assumption | rfl | (simp; done))) rfl rfl rfl ?_; clear hf; clear a; intro a hf
    refine ops_call hf Tryz.en_22 rfl rfl rfl (gon rfl rfl rfl (by first | assumption | rfl | (simp; done))) rfl (c40 _ _ _ _) ?_; clear hf; clear a; intro v a w hR hf
    obtain ⟨rfl, hx⟩ := hR; replace hh := hh.more hx; clear hx
    refine ops_v hf hh (yv_not rfl) (gon rfl rfl rfl (by first | assumption | rfl | (simp; done))) rfl rfl rfl ?_; clear hf; clear a; intro a hf
    refine ops_v hf hh (yv_pick_f rfl (by first | assumption | rfl | (simp; done)) rfl) (.inl rfl) rfl rfl rfl ?_; clear hf; clear a; intro a hf
    refine ops_v hf hh (yv_assign rfl) (.inl rfl) rfl rfl rfl ?_; clear hf; clear a; intro a hf
    refine ops_end ?_
    refine then_n ?_
    refine sy_cond hf rfl (fun hg8 => ?_) (fun hg8 => ?_)
    · have hG8 := hg8; try simp only [gS] at hG8
      refine sy_seq ?_
      refine sy_ops ?_
      refine ops_v hf hh (yv_assign rfl) (.inl rfl) rfl rfl rfl ?_; clear hf; clear a; intro a hf
      refine ops_v hf hh (yv_assign rfl) (.inl rfl) rfl rfl rfl ?_; clear hf; clear a; intro a hf
      refine ops_v hf hh (yv_assign rfl) (.inl rfl) rfl rfl rfl ?_; clear hf; clear a; intro a hf
      refine ops_end ?_
      refine then_n ?_
      refine sy_ret ?_
      refine blk_r ?_
      refine then_r ?_
      refine ret_r hf rfl rfl ?_
      first
        | exact ⟨(bestV_plan hok (by assumption)).symm, hh.ext⟩
        | exact ⟨(bestV_scene hok (by assumption) (by omega)).symm, hh.ext⟩
        | (have hz : (pairsP b q s) = [] := List.eq_nil_of_length_eq_zero (by omega)
           exact ⟨(bestV_nil hok hpi hi0 hs (hnil.1 hz)).symm, hh.ext⟩)
        | (have hkk : k = (pairsP b q s).length := by omega
           subst hkk
           exact ⟨(bestV_one hok hpi hi0 hs (bestQ_best hV hO hpl hbq)).symm, hh.ext⟩)
    · have hG8 := hg8; try simp only [gS] at hG8
      refine sy_skip ?_
      refine blk_n ?_
      refine then_n ?_
      refine sy_seq ?_
      have hpi : isPlanI b p = true := by first | assumption | (simp_all; done)
      have hp0 : 0 ≤ p := isPlanI_nn hpi
      have hpi2 : isPlan b p.toNat = true := by unfold isPlanI at hpi; simp [hp0] at hpi; exact hpi
      have hpl := ((isPlan_land b p.toNat).1 hpi2).1
      have hi0 : 0 ≤ i := by omega
      obtain ⟨q, rfl⟩ := Int.eq_ofNat_of_zero_le hp0
      obtain ⟨ix, rfl⟩ := Int.eq_ofNat_of_zero_le hi0
      rw [Int.toNat_natCast] at hpl
      obtain ⟨s, hs⟩ := scn_of (l := b.scenes) (i := ix) (by omega)
      have hO := hV.sc s (List.mem_of_getElem? hs)
      have hlen := pairsP_len (p := q) hV hO
      have hmb := fun (y : Nat × Nat × Nat) => @mem_bd b q s hV hO hpl y
      have hnil := pairsP_nil hV hO hpl
      refine sy_ops ?_
      refine ops_v hf hh (yv_move rfl) (.inl rfl) rfl rfl rfl ?_; clear hf; clear a; intro a hf
      refine ops_v hf hh (yv_move rfl) (.inl rfl) rfl rfl rfl ?_; clear hf; clear a; intro a hf
      first | refine ops_v hf hh (yv_convx (.inr rfl) (by kernel_rfl) Tryz.un_75 rfl (by omega) (by simp only [IntKind.top]; omega)) (.inl rfl) rfl rfl rfl ?_; clear hf; clear a; intro a hf | refine ops_v hf hh (yv_conv (by kernel_rfl) Tryz.un_75 rfl) (.inl rfl) rfl rfl rfl ?_; clear hf; clear a; intro a hf
      refine ops_v hf hh (yv_move rfl) (.inl rfl) rfl rfl rfl ?_; clear hf; clear a; intro a hf
      refine ops_call hf Tryz.en_24 rfl rfl rfl (.inl rfl) rfl (c42 bp q ix _) ?_; clear hf; clear a; intro v a w hR hf
      obtain ⟨Ba, Bi, Bp, rfl, hx⟩ := hR; replace hh := hh.join hx; clear hx
      refine ops_call hf Tryz.en_23 rfl rfl rfl (.inl rfl) rfl (c41 b sa sc bp bm q ix Ba Bi Bp s _ hV hs (by omega) ⟨hh.at (i := 2) rfl, hh.at (i := 0) rfl, hh.at (i := 1) rfl, ⟨cs, hh.at (i := 3) rfl, hcs⟩, hS.ext hh.ext, hT.ext hh.ext (by simp)⟩) ?_; clear hf; clear a; intro v a w hR hf
      obtain ⟨X, hown, hx⟩ := hR; replace hh := (hh.join hx).less (List.sublist_append_left _ _); clear hx
      obtain ⟨oa, cap, rfl⟩ := OwnSl.form hown
      refine ops_v hf hh (yv_assign rfl) (.inl rfl) rfl rfl rfl ?_; clear hf; clear a; intro a hf
      refine ops_end ?_
      refine then_n ?_
      refine sy_seq ?_
      refine sy_seq ?_
      refine sy_ops ?_
      refine ops_v hf hh (yv_move rfl) (.inl rfl) rfl rfl rfl ?_; clear hf; clear a; intro a hf
      refine ops_v hf hh (yv_len Tryz.se_67 rfl) (.inl rfl) rfl rfl rfl ?_; clear hf; clear a; intro a hf
      refine ops_v hf hh (yv_bin rfl rfl rfl) (.inl rfl) rfl rfl rfl ?_; clear hf; clear a; intro a hf
      refine ops_end ?_
      refine then_n ?_
      refine sy_cond hf rfl (fun hg12 => ?_) (fun hg12 => ?_)
      · have hG12 := hg12; try simp only [gS] at hG12
        refine sy_seq ?_
        refine sy_ops ?_
        refine ops_v hf hh (yv_assign rfl) (.inl rfl) rfl rfl rfl ?_; clear hf; clear a; intro a hf
        refine ops_v hf hh (yv_assign rfl) (.inl rfl) rfl rfl rfl ?_; clear hf; clear a; intro a hf
        refine ops_v hf hh (yv_assign rfl) (.inl rfl) rfl rfl rfl ?_; clear hf; clear a; intro a hf
        refine ops_end ?_
        refine then_n ?_
        refine sy_ret ?_
        refine then_r ?_
        refine ret_r hf rfl rfl ?_
        first
          | exact ⟨(bestV_plan hok (by assumption)).symm, hh.ext⟩
          | exact ⟨(bestV_scene hok (by assumption) (by omega)).symm, hh.ext⟩
          | (have hz : (pairsP b q s) = [] := List.eq_nil_of_length_eq_zero (by omega)
             exact ⟨(bestV_nil hok hpi hi0 hs (hnil.1 hz)).symm, hh.ext⟩)
          | (have hkk : k = (pairsP b q s).length := by omega
             subst hkk
             exact ⟨(bestV_one hok hpi hi0 hs (bestQ_best hV hO hpl hbq)).symm, hh.ext⟩)
      · have hG12 := hg12; try simp only [gS] at hG12
        refine sy_skip ?_
        refine then_n ?_
        refine sy_seq ?_
        obtain ⟨Bl, cur, rfl, rfl, hcap, hcur1, hcur2⟩ : ∃ Bl cur, oa = some ⟨Bl, 0, none⟩ ∧ X = [(Bl, .cells cur 70 (0, 0))] ∧ (pairsP b q s).length ≤ cap ∧ cur.size = cap * 3 ∧ cur.toList.take ((pairsP b q s).length * 3) = encL (pairsP b q s) := by
          rcases hown.2 with ⟨_, h0, _⟩ | ⟨Bl, cap2, cur, e, e2, h3, h4, h5, h6⟩
          · omega
          · cases e; exact ⟨Bl, cur, rfl, e2, h3, h5, h6⟩
        obtain ⟨y0, hy0⟩ : ∃ y, (pairsP b q s)[0]? = some y := ⟨(pairsP b q s)[0]'(by omega), List.getElem?_eq_getElem _⟩
        have hcd := cur_at hcur2 hy0
        refine sy_ops ?_
        refine ops_v hf hh (yv_move rfl) (.inl rfl) rfl rfl rfl ?_; clear hf; clear a; intro a hf
        refine ops_v hf hh (yv_indexAddr Tryz.se_67 rfl rfl (by omega) (by omega)) (.inl rfl) rfl rfl rfl ?_; clear hf; clear a; intro a hf
        refine ops_v hf hh (yv_loads Tryz.ag_70 rfl (fun _ h => by first | exact h.at (i := 0) rfl | exact h.at (i := 1) rfl | exact h.at (i := 2) rfl | exact h.at (i := 3) rfl) (by first | assumption | rfl)) (.inl rfl) rfl rfl rfl ?_; clear hf; clear a; intro a hf
        refine ops_alloc hf hh Tryz.ze_70 (.inl rfl) rfl ?_; clear hf hh; clear a; intro B11 a w hf hh
        first | refine ops_store (i := 0) hf hh rfl rfl rfl Tryz.sz_70 rfl rfl rfl (.inl rfl) fun w hh => ?_ | refine ops_store (i := 1) hf hh rfl rfl rfl Tryz.sz_70 rfl rfl rfl (.inl rfl) fun w hh => ?_ | refine ops_store (i := 2) hf hh rfl rfl rfl Tryz.sz_70 rfl rfl rfl (.inl rfl) fun w hh => ?_ | refine ops_store (i := 3) hf hh rfl rfl rfl Tryz.sz_70 rfl rfl rfl (.inl rfl) fun w hh => ?_
        refine ops_end ?_
        refine then_n ?_
        refine sy_seq ?_
        refine sy_seq ?_
        refine sy_ops ?_
        refine ops_v hf hh (yv_move rfl) (.inl rfl) rfl rfl rfl ?_; clear hf; clear a; intro a hf
        refine ops_v hf hh (yv_len Tryz.se_67 rfl) (.inl rfl) rfl rfl rfl ?_; clear hf; clear a; intro a hf
        refine ops_v hf hh (yv_move rfl) (.inl rfl) rfl rfl rfl ?_; clear hf; clear a; intro a hf
        refine ops_end ?_
        refine then_n ?_
        refine sy_block ?_
        refine sy_loopH (σ := Nat) [13, 14, 52, 53, 54, 55, 56, 57, 58, 59, 60, 61, 62] (fun k => [(52, .int .i64 k)]) (fun k => fun w' => k ≤ (pairsP b q s).length ∧ ∃ x, BestQ (pairsP b q s) k x ∧ Hp u [] [(B11, .cells #[.int .i64 x.1, .int .i64 x.2.1, .int .i64 x.2.2] 70), (Bl, .cells cur 70)] w') (fun k => (pairsP b q s).length - k) (0) hf ?_ ?_ ?_
        · repeat' (first | exact True.intro | refine And.intro rfl ?_)
        · exact ⟨by omega, y0, ⟨List.mem_of_getElem? hy0, fun j z hj => absurd hj (Nat.not_lt_zero _)⟩, hh⟩
        · rintro k a w ⟨hk, x, hbq, hh⟩ hf
          refine sy_seq ?_
          refine sy_ops ?_
          refine ops_v hf hh (yv_bin rfl rfl rfl) (.inl rfl) rfl rfl rfl ?_; clear hf; clear a; intro a hf
          refine ops_end ?_
          refine then_n ?_
          refine sy_seq ?_
          refine sy_cond hf rfl (fun hg14 => ?_) (fun hg14 => ?_)
          · have hG14 := hg14; try simp only [gS] at hG14
            refine sy_skip ?_
            refine then_n ?_
            refine sy_seq ?_
            refine sy_block ?_
            refine sy_seq ?_
            obtain ⟨y, hy⟩ : ∃ y, (pairsP b q s)[k]? = some y := ⟨(pairsP b q s)[k]'(by omega), List.getElem?_eq_getElem _⟩
            have hcd2 := cur_at hcur2 hy
            have hb1 := hmb y (List.mem_of_getElem? hy)
            have hb2 := hmb x hbq.1
            refine sy_ops ?_
            refine ops_v hf hh (yv_indexAddr Tryz.se_67 rfl rfl (by omega) (by omega)) (.inl rfl) rfl rfl rfl ?_; clear hf; clear a; intro a hf
            refine ops_v hf hh (yv_loads Tryz.ag_70 rfl (fun _ h => by first | exact h.at (i := 0) rfl | exact h.at (i := 1) rfl | exact h.at (i := 2) rfl | exact h.at (i := 3) rfl) (by first | assumption | rfl)) (.inl rfl) rfl rfl rfl ?_; clear hf; clear a; intro a hf
            refine ops_alloc hf hh Tryz.ze_70 (.inl rfl) rfl ?_; clear hf hh; clear a; intro B13 a w hf hh
            first | refine ops_store (i := 0) hf hh rfl rfl rfl Tryz.sz_70 rfl rfl rfl (.inl rfl) fun w hh => ?_ | refine ops_store (i := 1) hf hh rfl rfl rfl Tryz.sz_70 rfl rfl rfl (.inl rfl) fun w hh => ?_ | refine ops_store (i := 2) hf hh rfl rfl rfl Tryz.sz_70 rfl rfl rfl (.inl rfl) fun w hh => ?_ | refine ops_store (i := 3) hf hh rfl rfl rfl Tryz.sz_70 rfl rfl rfl (.inl rfl) fun w hh => ?_
            refine ops_end ?_
            refine then_n ?_
            refine sy_seq ?_
            refine sy_ops ?_
            refine ops_v hf hh (yv_loads Tryz.ag_70 rfl (fun _ h => by first | exact h.at (i := 0) rfl | exact h.at (i := 1) rfl | exact h.at (i := 2) rfl | exact h.at (i := 3) rfl) (by first | assumption | rfl)) (.inl rfl) rfl rfl rfl ?_; clear hf; clear a; intro a hf
            refine ops_v hf hh (yv_makeFunc rfl rfl) (.inl rfl) rfl rfl rfl ?_; clear hf; clear a; intro a hf
            refine ops_v hf hh (yv_assign rfl) (.inl rfl) rfl rfl rfl ?_; clear hf; clear a; intro a hf
            refine ops_end ?_
            refine then_n ?_
            refine sy_seq ?_
            refine sy_ops ?_
            refine ops_v hf hh (yv_move rfl) (.inl rfl) rfl rfl rfl ?_; clear hf; clear a; intro a hf
            refine ops_v hf hh (yv_loads Tryz.ag_70 rfl (fun _ h => by first | exact h.at (i := 0) rfl | exact h.at (i := 1) rfl | exact h.at (i := 2) rfl | exact h.at (i := 3) rfl) (by first | assumption | rfl)) (.inl rfl) rfl rfl rfl ?_; clear hf; clear a; intro a hf
            refine ops_call hf Tryz.en_25 rfl rfl rfl (.inl rfl) rfl (c43 _ _ _ _ _ _ _ (by omega) (by omega) (by omega) (by omega) (by omega) (by omega)) ?_; clear hf; clear a; intro v a w hR hf
            obtain ⟨rfl, hx⟩ := hR; replace hh := hh.more hx; clear hx
            refine ops_end ?_
            refine then_n ?_
            refine sy_cond hf rfl (fun hg16 => ?_) (fun hg16 => ?_)
            · have hG16 := hg16; try simp only [gS] at hG16
              refine sy_ops ?_
              refine ops_v hf hh (yv_loads Tryz.ag_70 rfl (fun _ h => by first | exact h.at (i := 0) rfl | exact h.at (i := 1) rfl | exact h.at (i := 2) rfl | exact h.at (i := 3) rfl) (by first | assumption | rfl)) (.inl rfl) rfl rfl rfl ?_; clear hf; clear a; intro a hf
              first | refine ops_store (i := 0) hf hh rfl rfl rfl Tryz.sz_70 rfl rfl rfl (.inl rfl) fun w hh => ?_ | refine ops_store (i := 1) hf hh rfl rfl rfl Tryz.sz_70 rfl rfl rfl (.inl rfl) fun w hh => ?_ | refine ops_store (i := 2) hf hh rfl rfl rfl Tryz.sz_70 rfl rfl rfl (.inl rfl) fun w hh => ?_ | refine ops_store (i := 3) hf hh rfl rfl rfl Tryz.sz_70 rfl rfl rfl (.inl rfl) fun w hh => ?_
              refine ops_end ?_
              refine blk_n ?_
              refine then_n ?_
              refine sy_ops ?_
              first | refine ops_v hf hh (yv_add rfl rfl (by omega) (by omega)) (.inl rfl) rfl rfl rfl ?_; clear hf; clear a; intro a hf | refine ops_v hf hh (yv_bin rfl rfl rfl) (.inl rfl) rfl rfl rfl ?_; clear hf; clear a; intro a hf
              refine ops_v hf hh (yv_move rfl) (.inl rfl) rfl rfl rfl ?_; clear hf; clear a; intro a hf
              refine ops_end ?_
              refine then_n ?_
              first
                | exact ⟨k + 1, ⟨⟨by omega, y, hbq.turn hy (by assumption), hh.less (.cons _ (List.Sublist.refl _))⟩, hf.head ⟨rfl, True.intro⟩ (Keep.cons rfl (Keep.cons rfl (Keep.cons rfl (Keep.cons rfl (Keep.cons rfl (Keep.cons rfl (Keep.cons rfl (Keep.cons rfl (Keep.cons rfl (Keep.cons rfl (Keep.cons rfl (Keep.cons rfl (Keep.cons rfl (Keep.app rfl (Keep.rm rfl Keep.base)))))))))))))))⟩, by omega⟩
                | exact ⟨k + 1, ⟨⟨by omega, x, hbq.keep hy (by assumption), hh.less (.cons _ (List.Sublist.refl _))⟩, hf.head ⟨rfl, True.intro⟩ (Keep.cons rfl (Keep.cons rfl (Keep.cons rfl (Keep.cons rfl (Keep.cons rfl (Keep.cons rfl (Keep.cons rfl (Keep.cons rfl (Keep.cons rfl (Keep.cons rfl (Keep.cons rfl (Keep.cons rfl (Keep.cons rfl (Keep.app rfl (Keep.rm rfl Keep.base)))))))))))))))⟩, by omega⟩
            · have hG16 := hg16; try simp only [gS] at hG16
              refine sy_skip ?_
              refine blk_n ?_
              refine then_n ?_
              refine sy_ops ?_
              first | refine ops_v hf hh (yv_add rfl rfl (by omega) (by omega)) (.inl rfl) rfl rfl rfl ?_; clear hf; clear a; intro a hf | refine ops_v hf hh (yv_bin rfl rfl rfl) (.inl rfl) rfl rfl rfl ?_; clear hf; clear a; intro a hf
              refine ops_v hf hh (yv_move rfl) (.inl rfl) rfl rfl rfl ?_; clear hf; clear a; intro a hf
              refine ops_end ?_
              refine then_n ?_
              first
                | exact ⟨k + 1, ⟨⟨by omega, y, hbq.turn hy (by assumption), hh.less (.cons _ (List.Sublist.refl _))⟩, hf.head ⟨rfl, True.intro⟩ (Keep.cons rfl (Keep.cons rfl (Keep.cons rfl (Keep.cons rfl (Keep.cons rfl (Keep.cons rfl (Keep.cons rfl (Keep.cons rfl (Keep.cons rfl (Keep.cons rfl (Keep.cons rfl (Keep.cons rfl (Keep.app rfl (Keep.rm rfl Keep.base))))))))))))))⟩, by omega⟩
                | exact ⟨k + 1, ⟨⟨by omega, x, hbq.keep hy (by assumption), hh.less (.cons _ (List.Sublist.refl _))⟩, hf.head ⟨rfl, True.intro⟩ (Keep.cons rfl (Keep.cons rfl (Keep.cons rfl (Keep.cons rfl (Keep.cons rfl (Keep.cons rfl (Keep.cons rfl (Keep.cons rfl (Keep.cons rfl (Keep.cons rfl (Keep.cons rfl (Keep.cons rfl (Keep.app rfl (Keep.rm rfl Keep.base))))))))))))))⟩, by omega⟩
          · have hG14 := hg14; try simp only [gS] at hG14
            refine sy_exit ?_
            refine then_e ?_
            refine then_e ?_
            refine blk_e ?_
            refine then_n ?_
            refine sy_seq ?_
            refine sy_quiet (C := Hp _ _ _) Tryz.follows (by kernel_rfl) (hh.drawn _) ?_
            refine q_v hf (yv_fieldAddr Tryz.fo_70_1 rfl) (.inl rfl) rfl rfl ?_; clear hf; clear a; intro a hf
            refine q_v hf (yv_load Tryz.sc_3 rfl (fun _ h => by first | exact h.at (i := 0) rfl | exact h.at (i := 1) rfl | exact h.at (i := 2) rfl | exact h.at (i := 3) rfl) (by first | rfl | assumption)) (.inl rfl) rfl rfl ?_; clear hf; clear a; intro a hf
            refine q_v hf (yv_fieldAddr Tryz.fo_70_2 rfl) (.inl rfl) rfl rfl ?_; clear hf; clear a; intro a hf
            refine q_v hf (yv_load Tryz.sc_3 rfl (fun _ h => by first | exact h.at (i := 0) rfl | exact h.at (i := 1) rfl | exact h.at (i := 2) rfl | exact h.at (i := 3) rfl) (by first | rfl | assumption)) (.inl rfl) rfl rfl ?_; clear hf; clear a; intro a hf
            refine q_v hf (yv_assign rfl) (.inl rfl) rfl rfl ?_; clear hf; clear a; intro a hf
            refine q_v hf (yv_assign rfl) (.inl rfl) rfl rfl ?_; clear hf; clear a; intro a hf
            refine q_v hf (yv_assign rfl) (.inl rfl) rfl rfl ?_; clear hf; clear a; intro a hf
            refine q_end fun w hh => ?_
            refine then_n ?_
            refine sy_ret ?_
            refine ret_r hf rfl rfl ?_
            first
              | exact ⟨(bestV_plan hok (by assumption)).symm, hh.ext⟩
              | exact ⟨(bestV_scene hok (by assumption) (by omega)).symm, hh.ext⟩
              | (have hz : (pairsP b q s) = [] := List.eq_nil_of_length_eq_zero (by omega)
                 exact ⟨(bestV_nil hok hpi hi0 hs (hnil.1 hz)).symm, hh.ext⟩)
              | (have hkk : k = (pairsP b q s).length := by omega
                 subst hkk
                 exact ⟨(bestV_one hok hpi hi0 hs (bestQ_best hV hO hpl hbq)).symm, hh.ext⟩)
end Go.Proofs.YtccpgpnekoncoaaGreatDoor

namespace Go.Proofs.YtccpgpnekoncoaaGreatDoor
open Go Go.Sy Go.PaiM Go.BarM
/-- What Best tells, in cases. -/
theorem best_cases (b : BarD) (p i : Int) : (∃ E : Int, E ≠ 0 ∧ bestV b p i = .tuple #[.int .i64 0, .int .i64 0, .int .i64 E]) ∨ ∃ (s : Scn) (l r : Nat), okBar b = true ∧ 0 ≤ i ∧ b.scenes[i.toNat]? = some s ∧ l < r ∧ ((r : Nat) : Int) < b.slots ∧ s.least ≤ b.pitch * (((r : Nat) : Int) - ((l : Nat) : Int)) ∧ b.pitch * (((r : Nat) : Int) - ((l : Nat) : Int)) ≤ s.most ∧ bestV b p i = .tuple #[.int .i64 ((l : Nat) : Int), .int .i64 ((r : Nat) : Int), .int .i64 0] := by
  by_cases h1 : okBar b = true
  · by_cases h2 : isPlanI b p = true
    · by_cases h3 : 0 ≤ i
      · cases hs : b.scenes[i.toNat]? with
        | none => exact .inl ⟨2, by decide, by simp [bestV, h1, h2, h3, hs]⟩
        | some s =>
          cases hb : best b p.toNat s with
          | none => exact .inl ⟨4, by decide, bestV_nil h1 h2 h3 hs hb⟩
          | some x =>
            obtain ⟨l, r⟩ := x
            have hpl : p.toNat < 2 ^ b.slots.toNat := by
              unfold isPlanI at h2
              rw [Bool.and_eq_true] at h2
              exact ((isPlan_iff b p.toNat).1 h2.2).1
            have hby := ((best_some hpl).1 hb).1
            unfold byB at hby
            simp only [Bool.and_eq_true, decide_eq_true_eq] at hby
            have hr := bit_lt hpl hby.1.1.2
            exact .inr ⟨s, l, r, h1, h3, rfl, hby.1.1.1.1, by omega, hby.1.2.1, hby.1.2.2, bestV_one h1 h2 h3 hs hb⟩
      · exact .inl ⟨2, by decide, by simp [bestV, h1, h2, h3]⟩
    · exact .inl ⟨2, by decide, bestV_plan h1 (by simpa using h2)⟩
  · exact .inl ⟨1, by decide, bestV_arg (by simpa using h1)⟩
theorem c_Best (b : BarD) (sa : Option Addr) (sc : Nat) (u : World) (hS : ScAt u sa b.scenes) (hT : GTab u) (p i : Int) (hp1 : p ≤ 9223372036854775807) : Calls Tryz.prog 6 #[barV b sa sc, .int .i64 p, .int .i64 i] u (Ret fun v w' => v = bestV b p i ∧ Ext [] u w') := by
  cases h : okBar b with
  | false => exact c15n b sa sc u hS h p i
  | true => exact c15v b sa sc u hS hT ((okBar_iff b).1 h) p i hp1
def ba04 : BarD := ⟨8, 30, 8, 4, [⟨60, 70, 1⟩, ⟨85, 130, 0⟩, ⟨200, 230, 2⟩]⟩
def sc04 : Array Value := #[.int .i64 60, .int .i64 70, .int .i64 1, .int .i64 85, .int .i64 130, .int .i64 0, .int .i64 200, .int .i64 230, .int .i64 2]
theorem ok04 : okBar ba04 = true := by kernel_rfl
theorem few04 : firstP ba04 (2 ^ ba04.scenes.length - 1) = some 149 := by kernel_rfl
theorem best04 : bestV ba04 149 1 = .tuple #[.int .i64 4, .int .i64 7, .int .i64 0] := by kernel_rfl
theorem sc04_at {w : World} {B : Nat} {T : TypeId} {fr : Nat × Nat} (h : w.heap[B]? = some (.cells sc04 T fr)) : ScAt w (some ⟨B, 0, none⟩) ba04.scenes := fun i s hi2 => by
  match i, hi2 with
  | 0, hi2 => cases hi2; exact ⟨B, 0, _, T, _, rfl, h, rfl⟩
  | 1, hi2 => cases hi2; exact ⟨B, 0, _, T, _, rfl, h, rfl⟩
  | 2, hi2 => cases hi2; exact ⟨B, 0, _, T, _, rfl, h, rfl⟩
  | i + 3, hi2 => simp [ba04] at hi2
theorem c_Few04 (B : Nat) (u : World) (hb : u.heap[B]? = some (.cells sc04 33 (0, 0))) (hT : GTab u) : Calls Tryz.prog 17 #[barV ba04 (some ⟨B, 0, none⟩) 3] u (Ret fun v w' => v = .tuple #[.int .i64 149, .int .i64 0] ∧ Ext [] u w') := by
  have h := c18v ba04 (some ⟨B, 0, none⟩) 3 u (sc04_at hb) hT ((okBar_iff _).1 ok04)
  rw [few04] at h
  exact h
theorem c_Best04 (B : Nat) (u : World) (hb : u.heap[B]? = some (.cells sc04 33 (0, 0))) (hT : GTab u) : Calls Tryz.prog 6 #[barV ba04 (some ⟨B, 0, none⟩) 3, .int .i64 149, .int .i64 1] u (Ret fun v w' => v = .tuple #[.int .i64 4, .int .i64 7, .int .i64 0] ∧ Ext [] u w') := by
  have h := c_Best ba04 (some ⟨B, 0, none⟩) 3 u (sc04_at hb) hT 149 1 (by decide)
  rw [best04] at h
  exact h
set_option maxRecDepth 100000 in
theorem c_bar04 (u : World) : Calls Tryz.prog 18 #[] u (Ret fun v w' => ∃ B, v = barV ba04 (some ⟨B, 0, none⟩) 3 ∧ Hp u [] [(B, .cells sc04 33)] w') := by
  refine calls_of Tryz.func18 rfl rfl (fun a hf => ?_)
  have hh := Hp.init u []
  refine sy_sq ?_
  refine o_alloc hf hh Tryz.ze_24 ?_; clear hf hh a; intro B0 a w hf hh
  refine o_end ?_
  refine sy_sq ?_
  refine o_v hf hh (yv_cast (v' := .agg #[.int .i64 60, .int .i64 70, .int .i64 1]) (yv_buildS Tryz.bs_33 rfl rfl) rfl) ?_; clear hf a; intro a hf
  refine o_v hf hh (yv_cast (v' := .agg #[.int .i64 85, .int .i64 130, .int .i64 0]) (yv_buildS Tryz.bs_33 rfl rfl) rfl) ?_; clear hf a; intro a hf
  refine o_v hf hh (yv_cast (v' := .agg #[.int .i64 200, .int .i64 230, .int .i64 2]) (yv_buildS Tryz.bs_33 rfl rfl) rfl) ?_; clear hf a; intro a hf
  refine ops_buildSl hf hh Tryz.bl_22_3 rfl rfl (.inl rfl) rfl ?_; clear hf hh; clear a; intro B4 a w hf hh
  replace hh : Hp u [] [(B4, .cells sc04 33), (B0, .cells #[.int .i64 0, .int .i64 0, .int .i64 0, .int .i64 0, .slice none 0 0] 24)] w := hh
  refine o_v hf hh (yv_cast (v' := .agg #[.int .i64 8, .int .i64 30, .int .i64 8, .int .i64 4, .slice (some ⟨B4, 0, none⟩) 3 3]) (yv_buildS Tryz.bs_24 rfl rfl) rfl) ?_; clear hf a; intro a hf
  refine o_store hf hh Tryz.sz_24 fun w hh => ?_
  refine o_end ?_
  refine sy_ret ?_
  refine ret_c (vs := [.agg #[.int .i64 8, .int .i64 30, .int .i64 8, .int .i64 4, .slice (some ⟨B4, 0, none⟩) 3 3]]) hf ?_ ?_
  · exact ⟨⟨B0, 0, _, _, _, rfl, hh.at (i := 1) rfl, .inr ⟨5, _, Tryz.ag_24, rfl, rfl⟩⟩, True.intro⟩
  · exact ⟨B4, rfl, hh.less (.cons_cons _ (.cons _ (.refl _)))⟩
theorem c_awake04 (u : World) (hT : GTab u) : Calls Tryz.prog 5 #[] u (Ret fun v w' => v = .bool true ∧ Ext [] u w') := by
  refine calls_of Tryz.func5 rfl rfl (fun a hf => ?_)
  have hh := Hp.init u []
  refine sy_sq ?_
  refine o_v hf hh (yv_assign rfl) ?_; clear hf a; intro a hf
  refine o_end ?_
  refine sy_sq ?_
  refine o_call hf Tryz.en_18 rfl rfl rfl (c_bar04 _) ?_; clear hf a; intro v a w hR hf
  obtain ⟨Ba, rfl, hx⟩ := hR; replace hh := hh.join hx; clear hx
  refine o_call hf Tryz.en_17 rfl rfl rfl (c_Few04 Ba _ (hh.at (i := 0) rfl) (hT.ext hh.ext (by simp))) ?_; clear hf a; intro v a w hR hf
  obtain ⟨rfl, hx⟩ := hR; replace hh := hh.more hx; clear hx
  refine o_v hf hh (yv_move rfl) ?_; clear hf a; intro a hf
  refine o_v hf hh (yv_extract rfl rfl) ?_; clear hf a; intro a hf
  refine o_v hf hh (yv_extract rfl rfl) ?_; clear hf a; intro a hf
  refine o_v hf hh (yv_assign rfl) ?_; clear hf a; intro a hf
  refine o_v hf hh (yv_assign rfl) ?_; clear hf a; intro a hf
  refine o_end ?_
  refine sy_sq ?_
  refine o_call hf Tryz.en_18 rfl rfl rfl (c_bar04 _) ?_; clear hf a; intro v a w hR hf
  obtain ⟨Bb, rfl, hx⟩ := hR; replace hh := hh.join hx; clear hx
  refine o_call hf Tryz.en_6 rfl rfl rfl (c_Best04 Bb _ (hh.at (i := 0) rfl) (hT.ext hh.ext (by simp))) ?_; clear hf a; intro v a w hR hf
  obtain ⟨rfl, hx⟩ := hR; replace hh := hh.more hx; clear hx
  refine o_v hf hh (yv_move rfl) ?_; clear hf a; intro a hf
  refine o_v hf hh (yv_extract rfl rfl) ?_; clear hf a; intro a hf
  refine o_v hf hh (yv_extract rfl rfl) ?_; clear hf a; intro a hf
  refine o_v hf hh (yv_extract rfl rfl) ?_; clear hf a; intro a hf
  refine o_v hf hh (yv_assign rfl) ?_; clear hf a; intro a hf
  refine o_v hf hh (yv_assign rfl) ?_; clear hf a; intro a hf
  refine o_v hf hh (yv_assign rfl) ?_; clear hf a; intro a hf
  refine o_end ?_
  refine sy_sq ?_
  refine o_v hf hh (yv_move rfl) ?_; clear hf a; intro a hf
  refine o_v hf hh (yv_bin rfl rfl rfl) ?_; clear hf a; intro a hf
  refine o_v hf hh (yv_move rfl) ?_; clear hf a; intro a hf
  refine o_v hf hh (yv_move rfl) ?_; clear hf a; intro a hf
  refine o_v hf hh (yv_bin rfl rfl rfl) ?_; clear hf a; intro a hf
  refine o_v hf hh (y_pt rfl rfl) ?_; clear hf a; intro a hf
  refine o_v hf hh (yv_move rfl) ?_; clear hf a; intro a hf
  refine o_v hf hh (yv_move rfl) ?_; clear hf a; intro a hf
  refine o_v hf hh (yv_bin rfl rfl rfl) ?_; clear hf a; intro a hf
  refine o_v hf hh (y_pt rfl rfl) ?_; clear hf a; intro a hf
  refine o_v hf hh (yv_move rfl) ?_; clear hf a; intro a hf
  refine o_v hf hh (yv_move rfl) ?_; clear hf a; intro a hf
  refine o_v hf hh (yv_bin rfl rfl rfl) ?_; clear hf a; intro a hf
  refine o_v hf hh (y_pt rfl rfl) ?_; clear hf a; intro a hf
  refine o_v hf hh (yv_move rfl) ?_; clear hf a; intro a hf
  refine o_v hf hh (yv_move rfl) ?_; clear hf a; intro a hf
  refine o_v hf hh (yv_bin rfl rfl rfl) ?_; clear hf a; intro a hf
  refine o_v hf hh (y_pt rfl rfl) ?_; clear hf a; intro a hf
  refine o_v hf hh (yv_move rfl) ?_; clear hf a; intro a hf
  refine o_call hf Tryz.en_19 rfl rfl rfl (c_awake03 _) ?_; clear hf a; intro v a w hR hf
  obtain ⟨rfl, hx⟩ := hR; replace hh := hh.more hx; clear hx
  refine o_v hf hh (y_pt rfl rfl) ?_; clear hf a; intro a hf
  refine o_v hf hh (yv_assign rfl) ?_; clear hf a; intro a hf
  refine o_end ?_
  refine sy_ret ?_
  refine ret_r hf rfl rfl ?_
  exact ⟨rfl, hh.ext⟩
end Go.Proofs.YtccpgpnekoncoaaGreatDoor

namespace Go.Proofs.YtccpgpnekoncoaaGreatDoor
open Go Go.Sy Go.PaiM Go.BarM
set_option maxRecDepth 100000 in
set_option maxHeartbeats 4000000 in
theorem s_bad (b : BarD) (sa : Option Addr) (sc : Nat) (p i1 i2 : Int) (hp1 : p ≤ 9223372036854775807) (c : CaD) (sb : Option Addr) (cb ln n1 n2 : Nat) (hln : ln ≤ 65535) (hn1 : n1 < 4294967296) (hn2 : n2 < 4294967296) (hl : b.scenes.length ≤ 9223372036854775807) (hlc : c.pr.th.length ≤ 9223372036854775807) (hbad : 40 < b.scenes.length ∨ 40 < c.pr.th.length ∨ caB c = false ∨ 20 < c.cuts ∨ c.squeeze = 10000 ∨ c.front = 10000) (u : World) (hS : ScAt u sa b.scenes) (hC : ThAt u sb c.pr.th) (hT : GTab u) : Calls Tryz.prog 4 #[barV b sa sc, .int .i64 p, .int .i64 i1, .int .i64 i2, .agg (caA c sb cb), .int .u16 ((ln : Nat) : Int), .int .u32 ((n1 : Nat) : Int), .int .u32 ((n2 : Nat) : Int)] u (Ret fun v w' => v = .bool true ∧ Ext [] u w') := by
  refine calls_of Tryz.func4 rfl rfl (fun a hf => ?_)
  have hh := Hp.init u []
  refine sy_sq ?_
  refine o_box hf hh ?_; clear hf hh a; intro B8 a w hf hh
  refine o_box hf hh ?_; clear hf hh a; intro B12 a w hf hh
  refine o_box hf hh ?_; clear hf hh a; intro B13 a w hf hh
  refine o_box hf hh ?_; clear hf hh a; intro B14 a w hf hh
  refine o_box hf hh ?_; clear hf hh a; intro B15 a w hf hh
  refine o_v hf hh (yv_assign rfl) ?_; clear hf a; intro a hf
  refine o_end ?_
  refine sy_seq ?_
  refine sy_sq ?_
  refine o_v hf hh (yv_fieldAddr Tryz.fo_24_4 rfl) ?_; clear hf a; intro a hf
  refine o_v hf hh (y_ld Tryz.sc_22 rfl) ?_; clear hf a; intro a hf
  refine o_v hf hh (yv_len Tryz.se_22 rfl) ?_; clear hf a; intro a hf
  refine o_v hf hh (yv_bin rfl rfl rfl) ?_; clear hf a; intro a hf
  refine o_v hf hh (yv_move rfl) ?_; clear hf a; intro a hf
  refine guard_split hf (t := 34) rfl (fun hg2 => ?_) (fun hg2 => ?_)
  ·have hG2 := hg2; try simp only [gS] at hG2
   refine o_off hf ?_; clear hf a; intro a hf
   refine o_off hf ?_; clear hf a; intro a hf
   refine o_off hf ?_; clear hf a; intro a hf
   refine o_off hf ?_; clear hf a; intro a hf
   refine o_off hf ?_; clear hf a; intro a hf
   refine o_v hf hh (y_pt rfl rfl) ?_; clear hf a; intro a hf
   refine o_v hf hh (yv_move rfl) ?_; clear hf a; intro a hf
   refine o_off hf ?_; clear hf a; intro a hf
   refine o_off hf ?_; clear hf a; intro a hf
   refine o_off hf ?_; clear hf a; intro a hf
   refine o_v hf hh (y_pt rfl rfl) ?_; clear hf a; intro a hf
   refine o_v hf hh (yv_move rfl) ?_; clear hf a; intro a hf
   refine o_off hf ?_; clear hf a; intro a hf
   refine o_off hf ?_; clear hf a; intro a hf
   refine o_off hf ?_; clear hf a; intro a hf
   refine o_v hf hh (y_pt rfl rfl) ?_; clear hf a; intro a hf
   refine o_v hf hh (yv_move rfl) ?_; clear hf a; intro a hf
   refine o_off hf ?_; clear hf a; intro a hf
   refine o_off hf ?_; clear hf a; intro a hf
   refine o_off hf ?_; clear hf a; intro a hf
   refine o_v hf hh (y_pt rfl rfl) ?_; clear hf a; intro a hf
   refine o_v hf hh (yv_move rfl) ?_; clear hf a; intro a hf
   refine o_off hf ?_; clear hf a; intro a hf
   refine o_off hf ?_; clear hf a; intro a hf
   refine o_off hf ?_; clear hf a; intro a hf
   refine o_v hf hh (y_pt rfl rfl) ?_; clear hf a; intro a hf
   refine o_end ?_
   refine c_t hf ?_
   refine sy_sq ?_
   refine o_call hf Tryz.en_5 rfl rfl rfl (c_awake04 _ (hT.ext hh.ext (by simp))) ?_; clear hf a; intro v a w hR hf
   obtain ⟨rfl, hx⟩ := hR; replace hh := hh.more hx; clear hx
   refine o_v hf hh (yv_assign rfl) ?_; clear hf a; intro a hf
   refine o_end ?_
   refine sy_ret ?_
   refine then_r ?_
   refine ret_r hf rfl rfl ?_
   exact ⟨rfl, hh.ext⟩
  ·have hG2 := hg2; try simp only [gS] at hG2
   refine o_v hf hh (yv_fieldAddr Tryz.fo_51_0 rfl) ?_; clear hf a; intro a hf
   refine o_v hf hh (yv_fieldAddr Tryz.fo_38_5 rfl) ?_; clear hf a; intro a hf
   refine o_v hf hh (y_ld Tryz.sc_36 rfl) ?_; clear hf a; intro a hf
   refine o_v hf hh (yv_len Tryz.se_36 rfl) ?_; clear hf a; intro a hf
   refine o_v hf hh (yv_bin rfl rfl rfl) ?_; clear hf a; intro a hf
   refine o_v hf hh (y_pf rfl rfl) ?_; clear hf a; intro a hf
   refine o_v hf hh (yv_move rfl) ?_; clear hf a; intro a hf
   refine guard_split hf (t := 41) rfl (fun hg5 => ?_) (fun hg5 => ?_)
   ·have hG5 := hg5; try simp only [gS] at hG5
    refine o_off hf ?_; clear hf a; intro a hf
    refine o_off hf ?_; clear hf a; intro a hf
    refine o_off hf ?_; clear hf a; intro a hf
    refine o_v hf hh (y_pt rfl rfl) ?_; clear hf a; intro a hf
    refine o_v hf hh (yv_move rfl) ?_; clear hf a; intro a hf
    refine o_off hf ?_; clear hf a; intro a hf
    refine o_off hf ?_; clear hf a; intro a hf
    refine o_off hf ?_; clear hf a; intro a hf
    refine o_v hf hh (y_pt rfl rfl) ?_; clear hf a; intro a hf
    refine o_v hf hh (yv_move rfl) ?_; clear hf a; intro a hf
    refine o_off hf ?_; clear hf a; intro a hf
    refine o_off hf ?_; clear hf a; intro a hf
    refine o_off hf ?_; clear hf a; intro a hf
    refine o_v hf hh (y_pt rfl rfl) ?_; clear hf a; intro a hf
    refine o_v hf hh (yv_move rfl) ?_; clear hf a; intro a hf
    refine o_off hf ?_; clear hf a; intro a hf
    refine o_off hf ?_; clear hf a; intro a hf
    refine o_off hf ?_; clear hf a; intro a hf
    refine o_v hf hh (y_pt rfl rfl) ?_; clear hf a; intro a hf
    refine o_end ?_
    refine c_t hf ?_
    refine sy_sq ?_
    refine o_call hf Tryz.en_5 rfl rfl rfl (c_awake04 _ (hT.ext hh.ext (by simp))) ?_; clear hf a; intro v a w hR hf
    obtain ⟨rfl, hx⟩ := hR; replace hh := hh.more hx; clear hx
    refine o_v hf hh (yv_assign rfl) ?_; clear hf a; intro a hf
    refine o_end ?_
    refine sy_ret ?_
    refine then_r ?_
    refine ret_r hf rfl rfl ?_
    exact ⟨rfl, hh.ext⟩
   ·have hG5 := hg5; try simp only [gS] at hG5
    refine o_v hf hh (y_lds Tryz.ag_51 rfl) ?_; clear hf a; intro a hf
    refine o_call hf Tryz.en_13 rfl rfl rfl (c_Card c sb cb _ (hC.ext hh.ext) hlc) ?_; clear hf a; intro v a w hR hf
    obtain ⟨rfl, hx⟩ := hR; replace hh := hh.more hx; clear hx
    refine o_v hf hh (yv_not rfl) ?_; clear hf a; intro a hf
    refine o_v hf hh (y_pf rfl rfl) ?_; clear hf a; intro a hf
    refine o_v hf hh (yv_move rfl) ?_; clear hf a; intro a hf
    refine guard_split hf (t := 46) rfl (fun hg8 => ?_) (fun hg8 => ?_)
    ·have hG8 := hg8; try simp only [gS] at hG8
     refine o_off hf ?_; clear hf a; intro a hf
     refine o_off hf ?_; clear hf a; intro a hf
     refine o_off hf ?_; clear hf a; intro a hf
     refine o_v hf hh (y_pt rfl rfl) ?_; clear hf a; intro a hf
     refine o_v hf hh (yv_move rfl) ?_; clear hf a; intro a hf
     refine o_off hf ?_; clear hf a; intro a hf
     refine o_off hf ?_; clear hf a; intro a hf
     refine o_off hf ?_; clear hf a; intro a hf
     refine o_v hf hh (y_pt rfl rfl) ?_; clear hf a; intro a hf
     refine o_v hf hh (yv_move rfl) ?_; clear hf a; intro a hf
     refine o_off hf ?_; clear hf a; intro a hf
     refine o_off hf ?_; clear hf a; intro a hf
     refine o_off hf ?_; clear hf a; intro a hf
     refine o_v hf hh (y_pt rfl rfl) ?_; clear hf a; intro a hf
     refine o_end ?_
     refine c_t hf ?_
     refine sy_sq ?_
     refine o_call hf Tryz.en_5 rfl rfl rfl (c_awake04 _ (hT.ext hh.ext (by simp))) ?_; clear hf a; intro v a w hR hf
     obtain ⟨rfl, hx⟩ := hR; replace hh := hh.more hx; clear hx
     refine o_v hf hh (yv_assign rfl) ?_; clear hf a; intro a hf
     refine o_end ?_
     refine sy_ret ?_
     refine then_r ?_
     refine ret_r hf rfl rfl ?_
     exact ⟨rfl, hh.ext⟩
    ·have hG8 := hg8; try simp only [gS] at hG8
     refine o_v hf hh (yv_fieldAddr Tryz.fo_51_3 rfl) ?_; clear hf a; intro a hf
     refine o_v hf hh (y_ld Tryz.sc_3 rfl) ?_; clear hf a; intro a hf
     refine o_v hf hh (yv_bin rfl rfl rfl) ?_; clear hf a; intro a hf
     refine o_v hf hh (y_pf rfl rfl) ?_; clear hf a; intro a hf
     refine o_v hf hh (yv_move rfl) ?_; clear hf a; intro a hf
     refine guard_split hf (t := 51) rfl (fun hg11 => ?_) (fun hg11 => ?_)
     ·have hG11 := hg11; try simp only [gS] at hG11
      refine o_off hf ?_; clear hf a; intro a hf
      refine o_off hf ?_; clear hf a; intro a hf
      refine o_off hf ?_; clear hf a; intro a hf
      refine o_v hf hh (y_pt rfl rfl) ?_; clear hf a; intro a hf
      refine o_v hf hh (yv_move rfl) ?_; clear hf a; intro a hf
      refine o_off hf ?_; clear hf a; intro a hf
      refine o_off hf ?_; clear hf a; intro a hf
      refine o_off hf ?_; clear hf a; intro a hf
      refine o_v hf hh (y_pt rfl rfl) ?_; clear hf a; intro a hf
      refine o_end ?_
      refine c_t hf ?_
      refine sy_sq ?_
      refine o_call hf Tryz.en_5 rfl rfl rfl (c_awake04 _ (hT.ext hh.ext (by simp))) ?_; clear hf a; intro v a w hR hf
      obtain ⟨rfl, hx⟩ := hR; replace hh := hh.more hx; clear hx
      refine o_v hf hh (yv_assign rfl) ?_; clear hf a; intro a hf
      refine o_end ?_
      refine sy_ret ?_
      refine then_r ?_
      refine ret_r hf rfl rfl ?_
      exact ⟨rfl, hh.ext⟩
     ·have hG11 := hg11; try simp only [gS] at hG11
      refine o_v hf hh (yv_fieldAddr Tryz.fo_51_6 rfl) ?_; clear hf a; intro a hf
      refine o_v hf hh (y_ld Tryz.sc_3 rfl) ?_; clear hf a; intro a hf
      refine o_v hf hh (yv_bin rfl rfl rfl) ?_; clear hf a; intro a hf
      refine o_v hf hh (y_pf rfl rfl) ?_; clear hf a; intro a hf
      refine o_v hf hh (yv_move rfl) ?_; clear hf a; intro a hf
      refine guard_split hf (t := 56) rfl (fun hg14 => ?_) (fun hg14 => ?_)
      ·have hG14 := hg14; try simp only [gS] at hG14
       refine o_off hf ?_; clear hf a; intro a hf
       refine o_off hf ?_; clear hf a; intro a hf
       refine o_off hf ?_; clear hf a; intro a hf
       refine o_v hf hh (y_pt rfl rfl) ?_; clear hf a; intro a hf
       refine o_end ?_
       refine c_t hf ?_
       refine sy_sq ?_
       refine o_call hf Tryz.en_5 rfl rfl rfl (c_awake04 _ (hT.ext hh.ext (by simp))) ?_; clear hf a; intro v a w hR hf
       obtain ⟨rfl, hx⟩ := hR; replace hh := hh.more hx; clear hx
       refine o_v hf hh (yv_assign rfl) ?_; clear hf a; intro a hf
       refine o_end ?_
       refine sy_ret ?_
       refine then_r ?_
       refine ret_r hf rfl rfl ?_
       exact ⟨rfl, hh.ext⟩
      ·have hG14 := hg14; try simp only [gS] at hG14
       refine o_v hf hh (yv_fieldAddr Tryz.fo_51_7 rfl) ?_; clear hf a; intro a hf
       refine o_v hf hh (y_ld Tryz.sc_3 rfl) ?_; clear hf a; intro a hf
       refine o_v hf hh (yv_bin rfl rfl rfl) ?_; clear hf a; intro a hf
       refine o_v hf hh (y_pf rfl rfl) ?_; clear hf a; intro a hf
       refine o_end ?_
       refine sy_cond hf rfl (fun hg17 => ?_) (fun hg17 => ?_)
       ·have hG17 := hg17; try simp only [gS] at hG17
        refine sy_sq ?_
        refine o_call hf Tryz.en_5 rfl rfl rfl (c_awake04 _ (hT.ext hh.ext (by simp))) ?_; clear hf a; intro v a w hR hf
        obtain ⟨rfl, hx⟩ := hR; replace hh := hh.more hx; clear hx
        refine o_v hf hh (yv_assign rfl) ?_; clear hf a; intro a hf
        refine o_end ?_
        refine sy_ret ?_
        refine then_r ?_
        refine ret_r hf rfl rfl ?_
        exact ⟨rfl, hh.ext⟩
       ·have hG17 := hg17; try simp only [gS] at hG17
        refine sy_skip ?_
        refine then_n ?_
        exfalso
        clear hf hh
        rcases hbad with h | h | h | h | h | h
        · omega
        · omega
        · simp_all
        · omega
        · omega
        · omega
set_option maxRecDepth 100000 in
set_option maxHeartbeats 4000000 in
theorem s_no1 (b : BarD) (sa : Option Addr) (sc : Nat) (p i1 i2 : Int) (hp1 : p ≤ 9223372036854775807) (c : CaD) (sb : Option Addr) (cb ln n1 n2 : Nat) (hln : ln ≤ 65535) (hn1 : n1 < 4294967296) (hn2 : n2 < 4294967296) (hl : b.scenes.length ≤ 9223372036854775807) (hlc : c.pr.th.length ≤ 9223372036854775807) (g1 : b.scenes.length ≤ 40) (g2 : c.pr.th.length ≤ 40) (g3 : caB c = true) (g4 : c.cuts ≤ 20) (g5 : c.squeeze ≠ 10000) (g6 : c.front ≠ 10000) (E X Y Z : Int) (hE : E ≠ 0) (hbv1 : bestV b p i1 = .tuple #[.int .i64 0, .int .i64 0, .int .i64 E]) (hbv2 : bestV b p i2 = .tuple #[.int .i64 X, .int .i64 Y, .int .i64 Z]) (u : World) (hS : ScAt u sa b.scenes) (hC : ThAt u sb c.pr.th) (hT : GTab u) : Calls Tryz.prog 4 #[barV b sa sc, .int .i64 p, .int .i64 i1, .int .i64 i2, .agg (caA c sb cb), .int .u16 ((ln : Nat) : Int), .int .u32 ((n1 : Nat) : Int), .int .u32 ((n2 : Nat) : Int)] u (Ret fun v w' => v = .bool true ∧ Ext [] u w') := by
  refine calls_of Tryz.func4 rfl rfl (fun a hf => ?_)
  have hh := Hp.init u []
  refine sy_sq ?_
  refine o_box hf hh ?_; clear hf hh a; intro B8 a w hf hh
  refine o_box hf hh ?_; clear hf hh a; intro B12 a w hf hh
  refine o_box hf hh ?_; clear hf hh a; intro B13 a w hf hh
  refine o_box hf hh ?_; clear hf hh a; intro B14 a w hf hh
  refine o_box hf hh ?_; clear hf hh a; intro B15 a w hf hh
  refine o_v hf hh (yv_assign rfl) ?_; clear hf a; intro a hf
  refine o_end ?_
  refine sy_seq ?_
  refine sy_sq ?_
  refine o_v hf hh (yv_fieldAddr Tryz.fo_24_4 rfl) ?_; clear hf a; intro a hf
  refine o_v hf hh (y_ld Tryz.sc_22 rfl) ?_; clear hf a; intro a hf
  refine o_v hf hh (yv_len Tryz.se_22 rfl) ?_; clear hf a; intro a hf
  refine o_v hf hh (yv_bin rfl rfl rfl) ?_; clear hf a; intro a hf
  refine o_v hf hh (yv_move rfl) ?_; clear hf a; intro a hf
  refine o_v hf hh (yv_fieldAddr Tryz.fo_51_0 rfl) ?_; clear hf a; intro a hf
  refine o_v hf hh (yv_fieldAddr Tryz.fo_38_5 rfl) ?_; clear hf a; intro a hf
  refine o_v hf hh (y_ld Tryz.sc_36 rfl) ?_; clear hf a; intro a hf
  refine o_v hf hh (yv_len Tryz.se_36 rfl) ?_; clear hf a; intro a hf
  refine o_v hf hh (yv_bin rfl rfl rfl) ?_; clear hf a; intro a hf
  refine o_v hf hh (y_pf rfl rfl) ?_; clear hf a; intro a hf
  refine o_v hf hh (yv_move rfl) ?_; clear hf a; intro a hf
  refine o_v hf hh (y_lds Tryz.ag_51 rfl) ?_; clear hf a; intro a hf
  refine o_call hf Tryz.en_13 rfl rfl rfl (c_Card c sb cb _ (hC.ext hh.ext) hlc) ?_; clear hf a; intro v a w hR hf
  obtain ⟨rfl, hx⟩ := hR; replace hh := hh.more hx; clear hx
  refine o_v hf hh (yv_not rfl) ?_; clear hf a; intro a hf
  refine o_v hf hh (y_pf rfl rfl) ?_; clear hf a; intro a hf
  refine o_v hf hh (yv_move rfl) ?_; clear hf a; intro a hf
  refine o_v hf hh (yv_fieldAddr Tryz.fo_51_3 rfl) ?_; clear hf a; intro a hf
  refine o_v hf hh (y_ld Tryz.sc_3 rfl) ?_; clear hf a; intro a hf
  refine o_v hf hh (yv_bin rfl rfl rfl) ?_; clear hf a; intro a hf
  refine o_v hf hh (y_pf rfl rfl) ?_; clear hf a; intro a hf
  refine o_v hf hh (yv_move rfl) ?_; clear hf a; intro a hf
  refine o_v hf hh (yv_fieldAddr Tryz.fo_51_6 rfl) ?_; clear hf a; intro a hf
  refine o_v hf hh (y_ld Tryz.sc_3 rfl) ?_; clear hf a; intro a hf
  refine o_v hf hh (yv_bin rfl rfl rfl) ?_; clear hf a; intro a hf
  refine o_v hf hh (y_pf rfl rfl) ?_; clear hf a; intro a hf
  refine o_v hf hh (yv_move rfl) ?_; clear hf a; intro a hf
  refine o_v hf hh (yv_fieldAddr Tryz.fo_51_7 rfl) ?_; clear hf a; intro a hf
  refine o_v hf hh (y_ld Tryz.sc_3 rfl) ?_; clear hf a; intro a hf
  refine o_v hf hh (yv_bin rfl rfl rfl) ?_; clear hf a; intro a hf
  refine o_v hf hh (y_pf rfl rfl) ?_; clear hf a; intro a hf
  refine o_end ?_
  refine c_f hf ?_
  refine sy_skip ?_
  refine then_n ?_
  refine sy_sq ?_
  refine o_v hf hh (y_lds Tryz.ag_24 rfl) ?_; clear hf a; intro a hf
  refine o_v hf hh (yv_move rfl) ?_; clear hf a; intro a hf
  refine o_v hf hh (yv_move rfl) ?_; clear hf a; intro a hf
  refine o_call hf Tryz.en_6 rfl rfl rfl (c_Best b sa sc _ (hS.ext hh.ext) (hT.ext hh.ext (by simp)) p i1 hp1) ?_; clear hf a; intro v a w hR hf
  rw [hbv1] at hR
  obtain ⟨rfl, hx⟩ := hR; replace hh := hh.more hx; clear hx
  refine o_v hf hh (yv_move rfl) ?_; clear hf a; intro a hf
  refine o_v hf hh (yv_extract rfl rfl) ?_; clear hf a; intro a hf
  refine o_v hf hh (yv_extract rfl rfl) ?_; clear hf a; intro a hf
  refine o_v hf hh (yv_extract rfl rfl) ?_; clear hf a; intro a hf
  refine o_v hf hh (yv_assign rfl) ?_; clear hf a; intro a hf
  refine o_v hf hh (yv_assign rfl) ?_; clear hf a; intro a hf
  refine o_v hf hh (yv_assign rfl) ?_; clear hf a; intro a hf
  refine o_end ?_
  refine sy_sq ?_
  refine o_v hf hh (y_lds Tryz.ag_24 rfl) ?_; clear hf a; intro a hf
  refine o_v hf hh (yv_move rfl) ?_; clear hf a; intro a hf
  refine o_v hf hh (yv_move rfl) ?_; clear hf a; intro a hf
  refine o_call hf Tryz.en_6 rfl rfl rfl (c_Best b sa sc _ (hS.ext hh.ext) (hT.ext hh.ext (by simp)) p i2 hp1) ?_; clear hf a; intro v a w hR hf
  rw [hbv2] at hR
  obtain ⟨rfl, hx⟩ := hR; replace hh := hh.more hx; clear hx
  refine o_v hf hh (yv_move rfl) ?_; clear hf a; intro a hf
  refine o_v hf hh (yv_extract rfl rfl) ?_; clear hf a; intro a hf
  refine o_v hf hh (yv_extract rfl rfl) ?_; clear hf a; intro a hf
  refine o_v hf hh (yv_extract rfl rfl) ?_; clear hf a; intro a hf
  refine o_v hf hh (yv_assign rfl) ?_; clear hf a; intro a hf
  refine o_v hf hh (yv_assign rfl) ?_; clear hf a; intro a hf
  refine o_v hf hh (yv_assign rfl) ?_; clear hf a; intro a hf
  refine o_end ?_
  refine sy_seq ?_
  refine sy_sq ?_
  refine o_v hf hh (yv_move rfl) ?_; clear hf a; intro a hf
  refine o_v hf hh (yv_bin rfl rfl rfl) ?_; clear hf a; intro a hf
  refine o_v hf hh (yv_move rfl) ?_; clear hf a; intro a hf
  refine o_off hf ?_; clear hf a; intro a hf
  refine o_off hf ?_; clear hf a; intro a hf
  refine o_v hf hh (y_pt rfl rfl) ?_; clear hf a; intro a hf
  refine o_end ?_
  refine c_t hf ?_
  refine sy_sq ?_
  refine o_call hf Tryz.en_5 rfl rfl rfl (c_awake04 _ (hT.ext hh.ext (by simp))) ?_; clear hf a; intro v a w hR hf
  obtain ⟨rfl, hx⟩ := hR; replace hh := hh.more hx; clear hx
  refine o_v hf hh (yv_assign rfl) ?_; clear hf a; intro a hf
  refine o_end ?_
  refine sy_ret ?_
  refine then_r ?_
  refine ret_r hf rfl rfl ?_
  exact ⟨rfl, hh.ext⟩
set_option maxRecDepth 100000 in
set_option maxHeartbeats 4000000 in
theorem s_no2 (b : BarD) (sa : Option Addr) (sc : Nat) (p i1 i2 : Int) (hp1 : p ≤ 9223372036854775807) (c : CaD) (sb : Option Addr) (cb ln n1 n2 : Nat) (hln : ln ≤ 65535) (hn1 : n1 < 4294967296) (hn2 : n2 < 4294967296) (hl : b.scenes.length ≤ 9223372036854775807) (hlc : c.pr.th.length ≤ 9223372036854775807) (g1 : b.scenes.length ≤ 40) (g2 : c.pr.th.length ≤ 40) (g3 : caB c = true) (g4 : c.cuts ≤ 20) (g5 : c.squeeze ≠ 10000) (g6 : c.front ≠ 10000) (E X Y : Int) (hE : E ≠ 0) (hbv1 : bestV b p i1 = .tuple #[.int .i64 X, .int .i64 Y, .int .i64 0]) (hbv2 : bestV b p i2 = .tuple #[.int .i64 0, .int .i64 0, .int .i64 E]) (u : World) (hS : ScAt u sa b.scenes) (hC : ThAt u sb c.pr.th) (hT : GTab u) : Calls Tryz.prog 4 #[barV b sa sc, .int .i64 p, .int .i64 i1, .int .i64 i2, .agg (caA c sb cb), .int .u16 ((ln : Nat) : Int), .int .u32 ((n1 : Nat) : Int), .int .u32 ((n2 : Nat) : Int)] u (Ret fun v w' => v = .bool true ∧ Ext [] u w') := by
  refine calls_of Tryz.func4 rfl rfl (fun a hf => ?_)
  have hh := Hp.init u []
  refine sy_sq ?_
  refine o_box hf hh ?_; clear hf hh a; intro B8 a w hf hh
  refine o_box hf hh ?_; clear hf hh a; intro B12 a w hf hh
  refine o_box hf hh ?_; clear hf hh a; intro B13 a w hf hh
  refine o_box hf hh ?_; clear hf hh a; intro B14 a w hf hh
  refine o_box hf hh ?_; clear hf hh a; intro B15 a w hf hh
  refine o_v hf hh (yv_assign rfl) ?_; clear hf a; intro a hf
  refine o_end ?_
  refine sy_seq ?_
  refine sy_sq ?_
  refine o_v hf hh (yv_fieldAddr Tryz.fo_24_4 rfl) ?_; clear hf a; intro a hf
  refine o_v hf hh (y_ld Tryz.sc_22 rfl) ?_; clear hf a; intro a hf
  refine o_v hf hh (yv_len Tryz.se_22 rfl) ?_; clear hf a; intro a hf
  refine o_v hf hh (yv_bin rfl rfl rfl) ?_; clear hf a; intro a hf
  refine o_v hf hh (yv_move rfl) ?_; clear hf a; intro a hf
  refine o_v hf hh (yv_fieldAddr Tryz.fo_51_0 rfl) ?_; clear hf a; intro a hf
  refine o_v hf hh (yv_fieldAddr Tryz.fo_38_5 rfl) ?_; clear hf a; intro a hf
  refine o_v hf hh (y_ld Tryz.sc_36 rfl) ?_; clear hf a; intro a hf
  refine o_v hf hh (yv_len Tryz.se_36 rfl) ?_; clear hf a; intro a hf
  refine o_v hf hh (yv_bin rfl rfl rfl) ?_; clear hf a; intro a hf
  refine o_v hf hh (y_pf rfl rfl) ?_; clear hf a; intro a hf
  refine o_v hf hh (yv_move rfl) ?_; clear hf a; intro a hf
  refine o_v hf hh (y_lds Tryz.ag_51 rfl) ?_; clear hf a; intro a hf
  refine o_call hf Tryz.en_13 rfl rfl rfl (c_Card c sb cb _ (hC.ext hh.ext) hlc) ?_; clear hf a; intro v a w hR hf
  obtain ⟨rfl, hx⟩ := hR; replace hh := hh.more hx; clear hx
  refine o_v hf hh (yv_not rfl) ?_; clear hf a; intro a hf
  refine o_v hf hh (y_pf rfl rfl) ?_; clear hf a; intro a hf
  refine o_v hf hh (yv_move rfl) ?_; clear hf a; intro a hf
  refine o_v hf hh (yv_fieldAddr Tryz.fo_51_3 rfl) ?_; clear hf a; intro a hf
  refine o_v hf hh (y_ld Tryz.sc_3 rfl) ?_; clear hf a; intro a hf
  refine o_v hf hh (yv_bin rfl rfl rfl) ?_; clear hf a; intro a hf
  refine o_v hf hh (y_pf rfl rfl) ?_; clear hf a; intro a hf
  refine o_v hf hh (yv_move rfl) ?_; clear hf a; intro a hf
  refine o_v hf hh (yv_fieldAddr Tryz.fo_51_6 rfl) ?_; clear hf a; intro a hf
  refine o_v hf hh (y_ld Tryz.sc_3 rfl) ?_; clear hf a; intro a hf
  refine o_v hf hh (yv_bin rfl rfl rfl) ?_; clear hf a; intro a hf
  refine o_v hf hh (y_pf rfl rfl) ?_; clear hf a; intro a hf
  refine o_v hf hh (yv_move rfl) ?_; clear hf a; intro a hf
  refine o_v hf hh (yv_fieldAddr Tryz.fo_51_7 rfl) ?_; clear hf a; intro a hf
  refine o_v hf hh (y_ld Tryz.sc_3 rfl) ?_; clear hf a; intro a hf
  refine o_v hf hh (yv_bin rfl rfl rfl) ?_; clear hf a; intro a hf
  refine o_v hf hh (y_pf rfl rfl) ?_; clear hf a; intro a hf
  refine o_end ?_
  refine c_f hf ?_
  refine sy_skip ?_
  refine then_n ?_
  refine sy_sq ?_
  refine o_v hf hh (y_lds Tryz.ag_24 rfl) ?_; clear hf a; intro a hf
  refine o_v hf hh (yv_move rfl) ?_; clear hf a; intro a hf
  refine o_v hf hh (yv_move rfl) ?_; clear hf a; intro a hf
  refine o_call hf Tryz.en_6 rfl rfl rfl (c_Best b sa sc _ (hS.ext hh.ext) (hT.ext hh.ext (by simp)) p i1 hp1) ?_; clear hf a; intro v a w hR hf
  rw [hbv1] at hR
  obtain ⟨rfl, hx⟩ := hR; replace hh := hh.more hx; clear hx
  refine o_v hf hh (yv_move rfl) ?_; clear hf a; intro a hf
  refine o_v hf hh (yv_extract rfl rfl) ?_; clear hf a; intro a hf
  refine o_v hf hh (yv_extract rfl rfl) ?_; clear hf a; intro a hf
  refine o_v hf hh (yv_extract rfl rfl) ?_; clear hf a; intro a hf
  refine o_v hf hh (yv_assign rfl) ?_; clear hf a; intro a hf
  refine o_v hf hh (yv_assign rfl) ?_; clear hf a; intro a hf
  refine o_v hf hh (yv_assign rfl) ?_; clear hf a; intro a hf
  refine o_end ?_
  refine sy_sq ?_
  refine o_v hf hh (y_lds Tryz.ag_24 rfl) ?_; clear hf a; intro a hf
  refine o_v hf hh (yv_move rfl) ?_; clear hf a; intro a hf
  refine o_v hf hh (yv_move rfl) ?_; clear hf a; intro a hf
  refine o_call hf Tryz.en_6 rfl rfl rfl (c_Best b sa sc _ (hS.ext hh.ext) (hT.ext hh.ext (by simp)) p i2 hp1) ?_; clear hf a; intro v a w hR hf
  rw [hbv2] at hR
  obtain ⟨rfl, hx⟩ := hR; replace hh := hh.more hx; clear hx
  refine o_v hf hh (yv_move rfl) ?_; clear hf a; intro a hf
  refine o_v hf hh (yv_extract rfl rfl) ?_; clear hf a; intro a hf
  refine o_v hf hh (yv_extract rfl rfl) ?_; clear hf a; intro a hf
  refine o_v hf hh (yv_extract rfl rfl) ?_; clear hf a; intro a hf
  refine o_v hf hh (yv_assign rfl) ?_; clear hf a; intro a hf
  refine o_v hf hh (yv_assign rfl) ?_; clear hf a; intro a hf
  refine o_v hf hh (yv_assign rfl) ?_; clear hf a; intro a hf
  refine o_end ?_
  refine sy_seq ?_
  refine sy_sq ?_
  refine o_v hf hh (yv_move rfl) ?_; clear hf a; intro a hf
  refine o_v hf hh (yv_bin rfl rfl rfl) ?_; clear hf a; intro a hf
  refine o_v hf hh (yv_move rfl) ?_; clear hf a; intro a hf
  refine o_v hf hh (yv_move rfl) ?_; clear hf a; intro a hf
  refine o_v hf hh (yv_bin rfl rfl rfl) ?_; clear hf a; intro a hf
  refine o_v hf hh (y_pf rfl rfl) ?_; clear hf a; intro a hf
  refine o_end ?_
  refine c_t hf ?_
  refine sy_sq ?_
  refine o_call hf Tryz.en_5 rfl rfl rfl (c_awake04 _ (hT.ext hh.ext (by simp))) ?_; clear hf a; intro v a w hR hf
  obtain ⟨rfl, hx⟩ := hR; replace hh := hh.more hx; clear hx
  refine o_v hf hh (yv_assign rfl) ?_; clear hf a; intro a hf
  refine o_end ?_
  refine sy_ret ?_
  refine then_r ?_
  refine ret_r hf rfl rfl ?_
  exact ⟨rfl, hh.ext⟩
set_option maxRecDepth 100000 in
set_option maxHeartbeats 4000000 in
theorem s_c (b : BarD) (sa : Option Addr) (sc : Nat) (p i1 i2 : Int) (hp1 : p ≤ 9223372036854775807) (c : CaD) (sb : Option Addr) (cb ln n1 n2 : Nat) (hln : ln ≤ 65535) (hn1 : n1 < 4294967296) (hn2 : n2 < 4294967296) (hl : b.scenes.length ≤ 9223372036854775807) (hlc : c.pr.th.length ≤ 9223372036854775807) (g1 : b.scenes.length ≤ 40) (g2 : c.pr.th.length ≤ 40) (g3 : caB c = true) (g4 : c.cuts ≤ 20) (g5 : c.squeeze ≠ 10000) (g6 : c.front ≠ 10000) (l1 r1 l2 r2 : Nat) (low high f z1 z2 : Int) (hok : okBar b = true) (ha1 : l1 < r1) (ha2 : ((r1 : Nat) : Int) < b.slots) (ha3 : l2 < r2) (ha4 : ((r2 : Nat) : Int) < b.slots) (hbv1 : bestV b p i1 = .tuple #[.int .i64 ((l1 : Nat) : Int), .int .i64 ((r1 : Nat) : Int), .int .i64 0]) (hbv2 : bestV b p i2 = .tuple #[.int .i64 ((l2 : Nat) : Int), .int .i64 ((r2 : Nat) : Int), .int .i64 0]) (hlow : min (((r1 : Nat) : Int) - ((l1 : Nat) : Int)) (((r2 : Nat) : Int) - ((l2 : Nat) : Int)) * b.pitch = low) (hhigh : max (((r1 : Nat) : Int) - ((l1 : Nat) : Int)) (((r2 : Nat) : Int) - ((l2 : Nat) : Int)) * b.pitch = high) (hlo : 1 ≤ low ∧ low ≤ 16000) (hhi : 1 ≤ high ∧ high ≤ 16000) (hf9 : 1 + ((ln : Nat) : Int) % 50000 = f) (hz1 : 2000 + ((n1 : Nat) : Int) % 16775217 = z1) (hz2 : 2000 + ((n2 : Nat) : Int) % 16775217 = z2) (W1 : Nat) (hW1 : spW c f high 0 z1 z2 = W1) (hI1 : spI f high z1 z2 = false) (u : World) (hS : ScAt u sa b.scenes) (hC : ThAt u sb c.pr.th) (hT : GTab u) : Calls Tryz.prog 4 #[barV b sa sc, .int .i64 p, .int .i64 i1, .int .i64 i2, .agg (caA c sb cb), .int .u16 ((ln : Nat) : Int), .int .u32 ((n1 : Nat) : Int), .int .u32 ((n2 : Nat) : Int)] u (Ret fun v w' => v = .bool true ∧ Ext [] u w') := by
  refine calls_of Tryz.func4 rfl rfl (fun a hf => ?_)
  have hh := Hp.init u []
  have hV := (okBar_iff b).1 hok
  have hs1 := hV.s1; have hs2 := hV.s2; have hpp1 := hV.p1; have hpp2 := hV.p2; have hn10 := hV.n
  have hc := caB_iff.1 g3
  obtain ⟨k1, k2⟩ := hc.sq
  obtain ⟨k3, k4⟩ := hc.fr
  refine sy_sq ?_
  refine o_box hf hh ?_; clear hf hh a; intro B8 a w hf hh
  refine o_box hf hh ?_; clear hf hh a; intro B12 a w hf hh
  refine o_box hf hh ?_; clear hf hh a; intro B13 a w hf hh
  refine o_box hf hh ?_; clear hf hh a; intro B14 a w hf hh
  refine o_box hf hh ?_; clear hf hh a; intro B15 a w hf hh
  refine o_v hf hh (yv_assign rfl) ?_; clear hf a; intro a hf
  refine o_end ?_
  refine sy_seq ?_
  refine sy_sq ?_
  refine o_v hf hh (yv_fieldAddr Tryz.fo_24_4 rfl) ?_; clear hf a; intro a hf
  refine o_v hf hh (y_ld Tryz.sc_22 rfl) ?_; clear hf a; intro a hf
  refine o_v hf hh (yv_len Tryz.se_22 rfl) ?_; clear hf a; intro a hf
  refine o_v hf hh (yv_bin rfl rfl rfl) ?_; clear hf a; intro a hf
  refine o_v hf hh (yv_move rfl) ?_; clear hf a; intro a hf
  refine o_v hf hh (yv_fieldAddr Tryz.fo_51_0 rfl) ?_; clear hf a; intro a hf
  refine o_v hf hh (yv_fieldAddr Tryz.fo_38_5 rfl) ?_; clear hf a; intro a hf
  refine o_v hf hh (y_ld Tryz.sc_36 rfl) ?_; clear hf a; intro a hf
  refine o_v hf hh (yv_len Tryz.se_36 rfl) ?_; clear hf a; intro a hf
  refine o_v hf hh (yv_bin rfl rfl rfl) ?_; clear hf a; intro a hf
  refine o_v hf hh (y_pf rfl rfl) ?_; clear hf a; intro a hf
  refine o_v hf hh (yv_move rfl) ?_; clear hf a; intro a hf
  refine o_v hf hh (y_lds Tryz.ag_51 rfl) ?_; clear hf a; intro a hf
  refine o_call hf Tryz.en_13 rfl rfl rfl (c_Card c sb cb _ (hC.ext hh.ext) hlc) ?_; clear hf a; intro v a w hR hf
  obtain ⟨rfl, hx⟩ := hR; replace hh := hh.more hx; clear hx
  refine o_v hf hh (yv_not rfl) ?_; clear hf a; intro a hf
  refine o_v hf hh (y_pf rfl rfl) ?_; clear hf a; intro a hf
  refine o_v hf hh (yv_move rfl) ?_; clear hf a; intro a hf
  refine o_v hf hh (yv_fieldAddr Tryz.fo_51_3 rfl) ?_; clear hf a; intro a hf
  refine o_v hf hh (y_ld Tryz.sc_3 rfl) ?_; clear hf a; intro a hf
  refine o_v hf hh (yv_bin rfl rfl rfl) ?_; clear hf a; intro a hf
  refine o_v hf hh (y_pf rfl rfl) ?_; clear hf a; intro a hf
  refine o_v hf hh (yv_move rfl) ?_; clear hf a; intro a hf
  refine o_v hf hh (yv_fieldAddr Tryz.fo_51_6 rfl) ?_; clear hf a; intro a hf
  refine o_v hf hh (y_ld Tryz.sc_3 rfl) ?_; clear hf a; intro a hf
  refine o_v hf hh (yv_bin rfl rfl rfl) ?_; clear hf a; intro a hf
  refine o_v hf hh (y_pf rfl rfl) ?_; clear hf a; intro a hf
  refine o_v hf hh (yv_move rfl) ?_; clear hf a; intro a hf
  refine o_v hf hh (yv_fieldAddr Tryz.fo_51_7 rfl) ?_; clear hf a; intro a hf
  refine o_v hf hh (y_ld Tryz.sc_3 rfl) ?_; clear hf a; intro a hf
  refine o_v hf hh (yv_bin rfl rfl rfl) ?_; clear hf a; intro a hf
  refine o_v hf hh (y_pf rfl rfl) ?_; clear hf a; intro a hf
  refine o_end ?_
  refine c_f hf ?_
  refine sy_skip ?_
  refine then_n ?_
  refine sy_sq ?_
  refine o_v hf hh (y_lds Tryz.ag_24 rfl) ?_; clear hf a; intro a hf
  refine o_v hf hh (yv_move rfl) ?_; clear hf a; intro a hf
  refine o_v hf hh (yv_move rfl) ?_; clear hf a; intro a hf
  refine o_call hf Tryz.en_6 rfl rfl rfl (c_Best b sa sc _ (hS.ext hh.ext) (hT.ext hh.ext (by simp)) p i1 hp1) ?_; clear hf a; intro v a w hR hf
  rw [hbv1] at hR
  obtain ⟨rfl, hx⟩ := hR; replace hh := hh.more hx; clear hx
  refine o_v hf hh (yv_move rfl) ?_; clear hf a; intro a hf
  refine o_v hf hh (yv_extract rfl rfl) ?_; clear hf a; intro a hf
  refine o_v hf hh (yv_extract rfl rfl) ?_; clear hf a; intro a hf
  refine o_v hf hh (yv_extract rfl rfl) ?_; clear hf a; intro a hf
  refine o_v hf hh (yv_assign rfl) ?_; clear hf a; intro a hf
  refine o_v hf hh (yv_assign rfl) ?_; clear hf a; intro a hf
  refine o_v hf hh (yv_assign rfl) ?_; clear hf a; intro a hf
  refine o_end ?_
  refine sy_sq ?_
  refine o_v hf hh (y_lds Tryz.ag_24 rfl) ?_; clear hf a; intro a hf
  refine o_v hf hh (yv_move rfl) ?_; clear hf a; intro a hf
  refine o_v hf hh (yv_move rfl) ?_; clear hf a; intro a hf
  refine o_call hf Tryz.en_6 rfl rfl rfl (c_Best b sa sc _ (hS.ext hh.ext) (hT.ext hh.ext (by simp)) p i2 hp1) ?_; clear hf a; intro v a w hR hf
  rw [hbv2] at hR
  obtain ⟨rfl, hx⟩ := hR; replace hh := hh.more hx; clear hx
  refine o_v hf hh (yv_move rfl) ?_; clear hf a; intro a hf
  refine o_v hf hh (yv_extract rfl rfl) ?_; clear hf a; intro a hf
  refine o_v hf hh (yv_extract rfl rfl) ?_; clear hf a; intro a hf
  refine o_v hf hh (yv_extract rfl rfl) ?_; clear hf a; intro a hf
  refine o_v hf hh (yv_assign rfl) ?_; clear hf a; intro a hf
  refine o_v hf hh (yv_assign rfl) ?_; clear hf a; intro a hf
  refine o_v hf hh (yv_assign rfl) ?_; clear hf a; intro a hf
  refine o_end ?_
  refine sy_seq ?_
  refine sy_sq ?_
  refine o_v hf hh (yv_move rfl) ?_; clear hf a; intro a hf
  refine o_v hf hh (yv_bin rfl rfl rfl) ?_; clear hf a; intro a hf
  refine o_v hf hh (yv_move rfl) ?_; clear hf a; intro a hf
  refine o_v hf hh (yv_move rfl) ?_; clear hf a; intro a hf
  refine o_v hf hh (yv_bin rfl rfl rfl) ?_; clear hf a; intro a hf
  refine o_v hf hh (y_pf rfl rfl) ?_; clear hf a; intro a hf
  refine o_end ?_
  refine c_f hf ?_
  refine sy_skip ?_
  refine then_n ?_
  refine sy_seq ?_
  refine sy_sq ?_
  refine o_v hf hh (y_lds Tryz.ag_24 rfl) ?_; clear hf a; intro a hf
  refine o_call hf Tryz.en_7 rfl rfl rfl (c28 b sa sc _ (hS.ext hh.ext)) ?_; clear hf a; intro v a w hR hf
  obtain ⟨rfl, hx⟩ := hR; replace hh := hh.more hx; clear hx
  refine o_v hf hh (yv_not rfl) ?_; clear hf a; intro a hf
  refine o_v hf hh (yv_move rfl) ?_; clear hf a; intro a hf
  refine o_v hf hh (yv_move rfl) ?_; clear hf a; intro a hf
  refine o_v hf hh (yv_bin rfl rfl rfl) ?_; clear hf a; intro a hf
  refine o_v hf hh (y_pf rfl rfl) ?_; clear hf a; intro a hf
  refine o_v hf hh (yv_move rfl) ?_; clear hf a; intro a hf
  refine o_v hf hh (yv_move rfl) ?_; clear hf a; intro a hf
  refine o_v hf hh (yv_move rfl) ?_; clear hf a; intro a hf
  refine o_v hf hh (yv_bin rfl rfl rfl) ?_; clear hf a; intro a hf
  refine o_v hf hh (y_pf rfl rfl) ?_; clear hf a; intro a hf
  refine o_v hf hh (yv_move rfl) ?_; clear hf a; intro a hf
  refine o_v hf hh (yv_move rfl) ?_; clear hf a; intro a hf
  refine o_v hf hh (yv_fieldAddr Tryz.fo_24_0 rfl) ?_; clear hf a; intro a hf
  refine o_v hf hh (y_ld Tryz.sc_3 rfl) ?_; clear hf a; intro a hf
  refine o_v hf hh (yv_bin rfl rfl rfl) ?_; clear hf a; intro a hf
  refine o_v hf hh (y_pf rfl rfl) ?_; clear hf a; intro a hf
  refine o_v hf hh (yv_move rfl) ?_; clear hf a; intro a hf
  refine o_v hf hh (yv_move rfl) ?_; clear hf a; intro a hf
  refine o_v hf hh (yv_bin rfl rfl rfl) ?_; clear hf a; intro a hf
  refine o_v hf hh (y_pf rfl rfl) ?_; clear hf a; intro a hf
  refine o_v hf hh (yv_move rfl) ?_; clear hf a; intro a hf
  refine o_v hf hh (yv_move rfl) ?_; clear hf a; intro a hf
  refine o_v hf hh (yv_move rfl) ?_; clear hf a; intro a hf
  refine o_v hf hh (yv_bin rfl rfl rfl) ?_; clear hf a; intro a hf
  refine o_v hf hh (y_pf rfl rfl) ?_; clear hf a; intro a hf
  refine o_v hf hh (yv_move rfl) ?_; clear hf a; intro a hf
  refine o_v hf hh (yv_move rfl) ?_; clear hf a; intro a hf
  refine o_v hf hh (yv_fieldAddr Tryz.fo_24_0 rfl) ?_; clear hf a; intro a hf
  refine o_v hf hh (y_ld Tryz.sc_3 rfl) ?_; clear hf a; intro a hf
  refine o_v hf hh (yv_bin rfl rfl rfl) ?_; clear hf a; intro a hf
  refine o_v hf hh (y_pf rfl rfl) ?_; clear hf a; intro a hf
  refine o_end ?_
  refine c_f hf ?_
  refine sy_skip ?_
  refine then_n ?_
  refine sy_seq ?_
  replace hh : Hp u [] [(B15, .cells #[.int .u32 ((n2 : Nat) : Int)] 26), (B14, .cells #[.int .u32 ((n1 : Nat) : Int)] 26), (B13, .cells #[.int .u16 ((ln : Nat) : Int)] 25), (B12, .cells (caA c sb cb) 51), (B8, .cells #[.int .i64 b.slots, .int .i64 b.pitch, .int .i64 b.broken, .int .i64 b.most, .slice sa b.scenes.length sc] 24)] w := hh
  refine sy_quiet (C := Hp _ _ _) Tryz.follows (by kernel_rfl) (hh.drawn _) ?_
  refine oq_v hf (yv_move rfl) ?_; clear hf a; intro a hf
  refine oq_v hf (yv_move rfl) ?_; clear hf a; intro a hf
  refine oq_v hf (y_sub rfl rfl) ?_; clear hf a; intro a hf
  refine oq_v hf (yv_move rfl) ?_; clear hf a; intro a hf
  refine oq_v hf (yv_move rfl) ?_; clear hf a; intro a hf
  refine oq_v hf (y_sub rfl rfl) ?_; clear hf a; intro a hf
  refine oq_v hf (yv_min rfl rfl) ?_; clear hf a; intro a hf
  refine oq_v hf (yv_fieldAddr Tryz.fo_24_1 rfl) ?_; clear hf a; intro a hf
  refine oq_v hf (y_ld Tryz.sc_3 rfl) ?_; clear hf a; intro a hf
  refine q_v hf (yv_cast (yv_mul rfl rfl (by rw [hlow]; omega) (by rw [hlow]; omega)) (intv (b := low) hlow)) (.inl rfl) rfl rfl ?_; clear hf a; intro a hf
  refine oq_v hf (yv_move rfl) ?_; clear hf a; intro a hf
  refine oq_v hf (yv_move rfl) ?_; clear hf a; intro a hf
  refine oq_v hf (y_sub rfl rfl) ?_; clear hf a; intro a hf
  refine oq_v hf (yv_move rfl) ?_; clear hf a; intro a hf
  refine oq_v hf (yv_move rfl) ?_; clear hf a; intro a hf
  refine oq_v hf (y_sub rfl rfl) ?_; clear hf a; intro a hf
  refine oq_v hf (yv_max rfl rfl) ?_; clear hf a; intro a hf
  refine oq_v hf (yv_fieldAddr Tryz.fo_24_1 rfl) ?_; clear hf a; intro a hf
  refine oq_v hf (y_ld Tryz.sc_3 rfl) ?_; clear hf a; intro a hf
  refine q_v hf (yv_cast (yv_mul rfl rfl (by rw [hhigh]; omega) (by rw [hhigh]; omega)) (intv (b := high) hhigh)) (.inl rfl) rfl rfl ?_; clear hf a; intro a hf
  refine oq_v hf (yv_assign rfl) ?_; clear hf a; intro a hf
  refine oq_v hf (yv_assign rfl) ?_; clear hf a; intro a hf
  refine q_end fun w hh => ?_
  refine then_n ?_
  refine sy_sq ?_
  refine o_v hf hh (yv_makeFunc rfl rfl) ?_; clear hf a; intro a hf
  refine o_v hf hh (yv_assign rfl) ?_; clear hf a; intro a hf
  refine o_end ?_
  refine sy_sq ?_
  refine o_v hf hh (yv_move rfl) ?_; clear hf a; intro a hf
  refine o_v hf hh (yv_move rfl) ?_; clear hf a; intro a hf
  refine o_call hf Tryz.en_14 rfl rfl rfl (c_sp c sb cb hc high 0 ln n1 n2 f z1 z2 hln hn1 hn2 hf9 hz1 hz2 (by omega) (by omega) (by omega) (by omega) B13 B14 B15 B12 _ (hh.at (i := 2) rfl) (hh.at (i := 1) rfl) (hh.at (i := 0) rfl) (hh.at (i := 3) rfl)) ?_; clear hf a; intro v a w hR hf
  rw [hW1, hI1] at hR
  obtain ⟨rfl, hx⟩ := hR; replace hh := hh.more hx; clear hx
  refine o_v hf hh (yv_move rfl) ?_; clear hf a; intro a hf
  refine o_v hf hh (yv_extract rfl rfl) ?_; clear hf a; intro a hf
  refine o_v hf hh (yv_extract rfl rfl) ?_; clear hf a; intro a hf
  refine o_v hf hh (yv_assign rfl) ?_; clear hf a; intro a hf
  refine o_v hf hh (yv_assign rfl) ?_; clear hf a; intro a hf
  refine o_end ?_
  refine sy_seq ?_
  refine sy_sq ?_
  refine o_v hf hh (yv_move rfl) ?_; clear hf a; intro a hf
  refine o_v hf hh (yv_not rfl) ?_; clear hf a; intro a hf
  refine o_v hf hh (yv_move rfl) ?_; clear hf a; intro a hf
  refine o_off hf ?_; clear hf a; intro a hf
  refine o_off hf ?_; clear hf a; intro a hf
  refine o_v hf hh (y_pt rfl rfl) ?_; clear hf a; intro a hf
  refine o_v hf hh (yv_move rfl) ?_; clear hf a; intro a hf
  refine o_off hf ?_; clear hf a; intro a hf
  refine o_off hf ?_; clear hf a; intro a hf
  refine o_v hf hh (y_pt rfl rfl) ?_; clear hf a; intro a hf
  refine o_end ?_
  refine c_t hf ?_
  refine sy_sq ?_
  refine o_call hf Tryz.en_5 rfl rfl rfl (c_awake04 _ (hT.ext hh.ext (by simp))) ?_; clear hf a; intro v a w hR hf
  obtain ⟨rfl, hx⟩ := hR; replace hh := hh.more hx; clear hx
  refine o_v hf hh (yv_assign rfl) ?_; clear hf a; intro a hf
  refine o_end ?_
  refine sy_ret ?_
  refine then_r ?_
  refine ret_r hf rfl rfl ?_
  exact ⟨rfl, hh.ext⟩
set_option maxRecDepth 100000 in
set_option maxHeartbeats 4000000 in
theorem s_d1 (b : BarD) (sa : Option Addr) (sc : Nat) (p i1 i2 : Int) (hp1 : p ≤ 9223372036854775807) (c : CaD) (sb : Option Addr) (cb ln n1 n2 : Nat) (hln : ln ≤ 65535) (hn1 : n1 < 4294967296) (hn2 : n2 < 4294967296) (hl : b.scenes.length ≤ 9223372036854775807) (hlc : c.pr.th.length ≤ 9223372036854775807) (g1 : b.scenes.length ≤ 40) (g2 : c.pr.th.length ≤ 40) (g3 : caB c = true) (g4 : c.cuts ≤ 20) (g5 : c.squeeze ≠ 10000) (g6 : c.front ≠ 10000) (l1 r1 l2 r2 : Nat) (low high f z1 z2 : Int) (hok : okBar b = true) (ha1 : l1 < r1) (ha2 : ((r1 : Nat) : Int) < b.slots) (ha3 : l2 < r2) (ha4 : ((r2 : Nat) : Int) < b.slots) (hbv1 : bestV b p i1 = .tuple #[.int .i64 ((l1 : Nat) : Int), .int .i64 ((r1 : Nat) : Int), .int .i64 0]) (hbv2 : bestV b p i2 = .tuple #[.int .i64 ((l2 : Nat) : Int), .int .i64 ((r2 : Nat) : Int), .int .i64 0]) (hlow : min (((r1 : Nat) : Int) - ((l1 : Nat) : Int)) (((r2 : Nat) : Int) - ((l2 : Nat) : Int)) * b.pitch = low) (hhigh : max (((r1 : Nat) : Int) - ((l1 : Nat) : Int)) (((r2 : Nat) : Int) - ((l2 : Nat) : Int)) * b.pitch = high) (hlo : 1 ≤ low ∧ low ≤ 16000) (hhi : 1 ≤ high ∧ high ≤ 16000) (hf9 : 1 + ((ln : Nat) : Int) % 50000 = f) (hz1 : 2000 + ((n1 : Nat) : Int) % 16775217 = z1) (hz2 : 2000 + ((n2 : Nat) : Int) % 16775217 = z2) (hW1 : spW c f high 0 z1 z2 = 1) (hI1 : spI f high z1 z2 = true) (u : World) (hS : ScAt u sa b.scenes) (hC : ThAt u sb c.pr.th) (hT : GTab u) : Calls Tryz.prog 4 #[barV b sa sc, .int .i64 p, .int .i64 i1, .int .i64 i2, .agg (caA c sb cb), .int .u16 ((ln : Nat) : Int), .int .u32 ((n1 : Nat) : Int), .int .u32 ((n2 : Nat) : Int)] u (Ret fun v w' => v = .bool true ∧ Ext [] u w') := by
  refine calls_of Tryz.func4 rfl rfl (fun a hf => ?_)
  have hh := Hp.init u []
  have hV := (okBar_iff b).1 hok
  have hs1 := hV.s1; have hs2 := hV.s2; have hpp1 := hV.p1; have hpp2 := hV.p2; have hn10 := hV.n
  have hc := caB_iff.1 g3
  obtain ⟨k1, k2⟩ := hc.sq
  obtain ⟨k3, k4⟩ := hc.fr
  refine sy_sq ?_
  refine o_box hf hh ?_; clear hf hh a; intro B8 a w hf hh
  refine o_box hf hh ?_; clear hf hh a; intro B12 a w hf hh
  refine o_box hf hh ?_; clear hf hh a; intro B13 a w hf hh
  refine o_box hf hh ?_; clear hf hh a; intro B14 a w hf hh
  refine o_box hf hh ?_; clear hf hh a; intro B15 a w hf hh
  refine o_v hf hh (yv_assign rfl) ?_; clear hf a; intro a hf
  refine o_end ?_
  refine sy_seq ?_
  refine sy_sq ?_
  refine o_v hf hh (yv_fieldAddr Tryz.fo_24_4 rfl) ?_; clear hf a; intro a hf
  refine o_v hf hh (y_ld Tryz.sc_22 rfl) ?_; clear hf a; intro a hf
  refine o_v hf hh (yv_len Tryz.se_22 rfl) ?_; clear hf a; intro a hf
  refine o_v hf hh (yv_bin rfl rfl rfl) ?_; clear hf a; intro a hf
  refine o_v hf hh (yv_move rfl) ?_; clear hf a; intro a hf
  refine o_v hf hh (yv_fieldAddr Tryz.fo_51_0 rfl) ?_; clear hf a; intro a hf
  refine o_v hf hh (yv_fieldAddr Tryz.fo_38_5 rfl) ?_; clear hf a; intro a hf
  refine o_v hf hh (y_ld Tryz.sc_36 rfl) ?_; clear hf a; intro a hf
  refine o_v hf hh (yv_len Tryz.se_36 rfl) ?_; clear hf a; intro a hf
  refine o_v hf hh (yv_bin rfl rfl rfl) ?_; clear hf a; intro a hf
  refine o_v hf hh (y_pf rfl rfl) ?_; clear hf a; intro a hf
  refine o_v hf hh (yv_move rfl) ?_; clear hf a; intro a hf
  refine o_v hf hh (y_lds Tryz.ag_51 rfl) ?_; clear hf a; intro a hf
  refine o_call hf Tryz.en_13 rfl rfl rfl (c_Card c sb cb _ (hC.ext hh.ext) hlc) ?_; clear hf a; intro v a w hR hf
  obtain ⟨rfl, hx⟩ := hR; replace hh := hh.more hx; clear hx
  refine o_v hf hh (yv_not rfl) ?_; clear hf a; intro a hf
  refine o_v hf hh (y_pf rfl rfl) ?_; clear hf a; intro a hf
  refine o_v hf hh (yv_move rfl) ?_; clear hf a; intro a hf
  refine o_v hf hh (yv_fieldAddr Tryz.fo_51_3 rfl) ?_; clear hf a; intro a hf
  refine o_v hf hh (y_ld Tryz.sc_3 rfl) ?_; clear hf a; intro a hf
  refine o_v hf hh (yv_bin rfl rfl rfl) ?_; clear hf a; intro a hf
  refine o_v hf hh (y_pf rfl rfl) ?_; clear hf a; intro a hf
  refine o_v hf hh (yv_move rfl) ?_; clear hf a; intro a hf
  refine o_v hf hh (yv_fieldAddr Tryz.fo_51_6 rfl) ?_; clear hf a; intro a hf
  refine o_v hf hh (y_ld Tryz.sc_3 rfl) ?_; clear hf a; intro a hf
  refine o_v hf hh (yv_bin rfl rfl rfl) ?_; clear hf a; intro a hf
  refine o_v hf hh (y_pf rfl rfl) ?_; clear hf a; intro a hf
  refine o_v hf hh (yv_move rfl) ?_; clear hf a; intro a hf
  refine o_v hf hh (yv_fieldAddr Tryz.fo_51_7 rfl) ?_; clear hf a; intro a hf
  refine o_v hf hh (y_ld Tryz.sc_3 rfl) ?_; clear hf a; intro a hf
  refine o_v hf hh (yv_bin rfl rfl rfl) ?_; clear hf a; intro a hf
  refine o_v hf hh (y_pf rfl rfl) ?_; clear hf a; intro a hf
  refine o_end ?_
  refine c_f hf ?_
  refine sy_skip ?_
  refine then_n ?_
  refine sy_sq ?_
  refine o_v hf hh (y_lds Tryz.ag_24 rfl) ?_; clear hf a; intro a hf
  refine o_v hf hh (yv_move rfl) ?_; clear hf a; intro a hf
  refine o_v hf hh (yv_move rfl) ?_; clear hf a; intro a hf
  refine o_call hf Tryz.en_6 rfl rfl rfl (c_Best b sa sc _ (hS.ext hh.ext) (hT.ext hh.ext (by simp)) p i1 hp1) ?_; clear hf a; intro v a w hR hf
  rw [hbv1] at hR
  obtain ⟨rfl, hx⟩ := hR; replace hh := hh.more hx; clear hx
  refine o_v hf hh (yv_move rfl) ?_; clear hf a; intro a hf
  refine o_v hf hh (yv_extract rfl rfl) ?_; clear hf a; intro a hf
  refine o_v hf hh (yv_extract rfl rfl) ?_; clear hf a; intro a hf
  refine o_v hf hh (yv_extract rfl rfl) ?_; clear hf a; intro a hf
  refine o_v hf hh (yv_assign rfl) ?_; clear hf a; intro a hf
  refine o_v hf hh (yv_assign rfl) ?_; clear hf a; intro a hf
  refine o_v hf hh (yv_assign rfl) ?_; clear hf a; intro a hf
  refine o_end ?_
  refine sy_sq ?_
  refine o_v hf hh (y_lds Tryz.ag_24 rfl) ?_; clear hf a; intro a hf
  refine o_v hf hh (yv_move rfl) ?_; clear hf a; intro a hf
  refine o_v hf hh (yv_move rfl) ?_; clear hf a; intro a hf
  refine o_call hf Tryz.en_6 rfl rfl rfl (c_Best b sa sc _ (hS.ext hh.ext) (hT.ext hh.ext (by simp)) p i2 hp1) ?_; clear hf a; intro v a w hR hf
  rw [hbv2] at hR
  obtain ⟨rfl, hx⟩ := hR; replace hh := hh.more hx; clear hx
  refine o_v hf hh (yv_move rfl) ?_; clear hf a; intro a hf
  refine o_v hf hh (yv_extract rfl rfl) ?_; clear hf a; intro a hf
  refine o_v hf hh (yv_extract rfl rfl) ?_; clear hf a; intro a hf
  refine o_v hf hh (yv_extract rfl rfl) ?_; clear hf a; intro a hf
  refine o_v hf hh (yv_assign rfl) ?_; clear hf a; intro a hf
  refine o_v hf hh (yv_assign rfl) ?_; clear hf a; intro a hf
  refine o_v hf hh (yv_assign rfl) ?_; clear hf a; intro a hf
  refine o_end ?_
  refine sy_seq ?_
  refine sy_sq ?_
  refine o_v hf hh (yv_move rfl) ?_; clear hf a; intro a hf
  refine o_v hf hh (yv_bin rfl rfl rfl) ?_; clear hf a; intro a hf
  refine o_v hf hh (yv_move rfl) ?_; clear hf a; intro a hf
  refine o_v hf hh (yv_move rfl) ?_; clear hf a; intro a hf
  refine o_v hf hh (yv_bin rfl rfl rfl) ?_; clear hf a; intro a hf
  refine o_v hf hh (y_pf rfl rfl) ?_; clear hf a; intro a hf
  refine o_end ?_
  refine c_f hf ?_
  refine sy_skip ?_
  refine then_n ?_
  refine sy_seq ?_
  refine sy_sq ?_
  refine o_v hf hh (y_lds Tryz.ag_24 rfl) ?_; clear hf a; intro a hf
  refine o_call hf Tryz.en_7 rfl rfl rfl (c28 b sa sc _ (hS.ext hh.ext)) ?_; clear hf a; intro v a w hR hf
  obtain ⟨rfl, hx⟩ := hR; replace hh := hh.more hx; clear hx
  refine o_v hf hh (yv_not rfl) ?_; clear hf a; intro a hf
  refine o_v hf hh (yv_move rfl) ?_; clear hf a; intro a hf
  refine o_v hf hh (yv_move rfl) ?_; clear hf a; intro a hf
  refine o_v hf hh (yv_bin rfl rfl rfl) ?_; clear hf a; intro a hf
  refine o_v hf hh (y_pf rfl rfl) ?_; clear hf a; intro a hf
  refine o_v hf hh (yv_move rfl) ?_; clear hf a; intro a hf
  refine o_v hf hh (yv_move rfl) ?_; clear hf a; intro a hf
  refine o_v hf hh (yv_move rfl) ?_; clear hf a; intro a hf
  refine o_v hf hh (yv_bin rfl rfl rfl) ?_; clear hf a; intro a hf
  refine o_v hf hh (y_pf rfl rfl) ?_; clear hf a; intro a hf
  refine o_v hf hh (yv_move rfl) ?_; clear hf a; intro a hf
  refine o_v hf hh (yv_move rfl) ?_; clear hf a; intro a hf
  refine o_v hf hh (yv_fieldAddr Tryz.fo_24_0 rfl) ?_; clear hf a; intro a hf
  refine o_v hf hh (y_ld Tryz.sc_3 rfl) ?_; clear hf a; intro a hf
  refine o_v hf hh (yv_bin rfl rfl rfl) ?_; clear hf a; intro a hf
  refine o_v hf hh (y_pf rfl rfl) ?_; clear hf a; intro a hf
  refine o_v hf hh (yv_move rfl) ?_; clear hf a; intro a hf
  refine o_v hf hh (yv_move rfl) ?_; clear hf a; intro a hf
  refine o_v hf hh (yv_bin rfl rfl rfl) ?_; clear hf a; intro a hf
  refine o_v hf hh (y_pf rfl rfl) ?_; clear hf a; intro a hf
  refine o_v hf hh (yv_move rfl) ?_; clear hf a; intro a hf
  refine o_v hf hh (yv_move rfl) ?_; clear hf a; intro a hf
  refine o_v hf hh (yv_move rfl) ?_; clear hf a; intro a hf
  refine o_v hf hh (yv_bin rfl rfl rfl) ?_; clear hf a; intro a hf
  refine o_v hf hh (y_pf rfl rfl) ?_; clear hf a; intro a hf
  refine o_v hf hh (yv_move rfl) ?_; clear hf a; intro a hf
  refine o_v hf hh (yv_move rfl) ?_; clear hf a; intro a hf
  refine o_v hf hh (yv_fieldAddr Tryz.fo_24_0 rfl) ?_; clear hf a; intro a hf
  refine o_v hf hh (y_ld Tryz.sc_3 rfl) ?_; clear hf a; intro a hf
  refine o_v hf hh (yv_bin rfl rfl rfl) ?_; clear hf a; intro a hf
  refine o_v hf hh (y_pf rfl rfl) ?_; clear hf a; intro a hf
  refine o_end ?_
  refine c_f hf ?_
  refine sy_skip ?_
  refine then_n ?_
  refine sy_seq ?_
  replace hh : Hp u [] [(B15, .cells #[.int .u32 ((n2 : Nat) : Int)] 26), (B14, .cells #[.int .u32 ((n1 : Nat) : Int)] 26), (B13, .cells #[.int .u16 ((ln : Nat) : Int)] 25), (B12, .cells (caA c sb cb) 51), (B8, .cells #[.int .i64 b.slots, .int .i64 b.pitch, .int .i64 b.broken, .int .i64 b.most, .slice sa b.scenes.length sc] 24)] w := hh
  refine sy_quiet (C := Hp _ _ _) Tryz.follows (by kernel_rfl) (hh.drawn _) ?_
  refine oq_v hf (yv_move rfl) ?_; clear hf a; intro a hf
  refine oq_v hf (yv_move rfl) ?_; clear hf a; intro a hf
  refine oq_v hf (y_sub rfl rfl) ?_; clear hf a; intro a hf
  refine oq_v hf (yv_move rfl) ?_; clear hf a; intro a hf
  refine oq_v hf (yv_move rfl) ?_; clear hf a; intro a hf
  refine oq_v hf (y_sub rfl rfl) ?_; clear hf a; intro a hf
  refine oq_v hf (yv_min rfl rfl) ?_; clear hf a; intro a hf
  refine oq_v hf (yv_fieldAddr Tryz.fo_24_1 rfl) ?_; clear hf a; intro a hf
  refine oq_v hf (y_ld Tryz.sc_3 rfl) ?_; clear hf a; intro a hf
  refine q_v hf (yv_cast (yv_mul rfl rfl (by rw [hlow]; omega) (by rw [hlow]; omega)) (intv (b := low) hlow)) (.inl rfl) rfl rfl ?_; clear hf a; intro a hf
  refine oq_v hf (yv_move rfl) ?_; clear hf a; intro a hf
  refine oq_v hf (yv_move rfl) ?_; clear hf a; intro a hf
  refine oq_v hf (y_sub rfl rfl) ?_; clear hf a; intro a hf
  refine oq_v hf (yv_move rfl) ?_; clear hf a; intro a hf
  refine oq_v hf (yv_move rfl) ?_; clear hf a; intro a hf
  refine oq_v hf (y_sub rfl rfl) ?_; clear hf a; intro a hf
  refine oq_v hf (yv_max rfl rfl) ?_; clear hf a; intro a hf
  refine oq_v hf (yv_fieldAddr Tryz.fo_24_1 rfl) ?_; clear hf a; intro a hf
  refine oq_v hf (y_ld Tryz.sc_3 rfl) ?_; clear hf a; intro a hf
  refine q_v hf (yv_cast (yv_mul rfl rfl (by rw [hhigh]; omega) (by rw [hhigh]; omega)) (intv (b := high) hhigh)) (.inl rfl) rfl rfl ?_; clear hf a; intro a hf
  refine oq_v hf (yv_assign rfl) ?_; clear hf a; intro a hf
  refine oq_v hf (yv_assign rfl) ?_; clear hf a; intro a hf
  refine q_end fun w hh => ?_
  refine then_n ?_
  refine sy_sq ?_
  refine o_v hf hh (yv_makeFunc rfl rfl) ?_; clear hf a; intro a hf
  refine o_v hf hh (yv_assign rfl) ?_; clear hf a; intro a hf
  refine o_end ?_
  refine sy_sq ?_
  refine o_v hf hh (yv_move rfl) ?_; clear hf a; intro a hf
  refine o_v hf hh (yv_move rfl) ?_; clear hf a; intro a hf
  refine o_call hf Tryz.en_14 rfl rfl rfl (c_sp c sb cb hc high 0 ln n1 n2 f z1 z2 hln hn1 hn2 hf9 hz1 hz2 (by omega) (by omega) (by omega) (by omega) B13 B14 B15 B12 _ (hh.at (i := 2) rfl) (hh.at (i := 1) rfl) (hh.at (i := 0) rfl) (hh.at (i := 3) rfl)) ?_; clear hf a; intro v a w hR hf
  rw [hW1, hI1] at hR
  obtain ⟨rfl, hx⟩ := hR; replace hh := hh.more hx; clear hx
  refine o_v hf hh (yv_move rfl) ?_; clear hf a; intro a hf
  refine o_v hf hh (yv_extract rfl rfl) ?_; clear hf a; intro a hf
  refine o_v hf hh (yv_extract rfl rfl) ?_; clear hf a; intro a hf
  refine o_v hf hh (yv_assign rfl) ?_; clear hf a; intro a hf
  refine o_v hf hh (yv_assign rfl) ?_; clear hf a; intro a hf
  refine o_end ?_
  refine sy_seq ?_
  refine sy_sq ?_
  refine o_v hf hh (yv_move rfl) ?_; clear hf a; intro a hf
  refine o_v hf hh (yv_not rfl) ?_; clear hf a; intro a hf
  refine o_v hf hh (yv_move rfl) ?_; clear hf a; intro a hf
  refine o_v hf hh (yv_move rfl) ?_; clear hf a; intro a hf
  refine o_v hf hh (yv_bin rfl rfl rfl) ?_; clear hf a; intro a hf
  refine o_v hf hh (y_pf rfl rfl) ?_; clear hf a; intro a hf
  refine o_v hf hh (yv_move rfl) ?_; clear hf a; intro a hf
  refine o_off hf ?_; clear hf a; intro a hf
  refine o_off hf ?_; clear hf a; intro a hf
  refine o_v hf hh (y_pt rfl rfl) ?_; clear hf a; intro a hf
  refine o_end ?_
  refine c_t hf ?_
  refine sy_sq ?_
  refine o_call hf Tryz.en_5 rfl rfl rfl (c_awake04 _ (hT.ext hh.ext (by simp))) ?_; clear hf a; intro v a w hR hf
  obtain ⟨rfl, hx⟩ := hR; replace hh := hh.more hx; clear hx
  refine o_v hf hh (yv_assign rfl) ?_; clear hf a; intro a hf
  refine o_end ?_
  refine sy_ret ?_
  refine then_r ?_
  refine ret_r hf rfl rfl ?_
  exact ⟨rfl, hh.ext⟩
set_option maxRecDepth 100000 in
set_option maxHeartbeats 4000000 in
theorem s_d2 (b : BarD) (sa : Option Addr) (sc : Nat) (p i1 i2 : Int) (hp1 : p ≤ 9223372036854775807) (c : CaD) (sb : Option Addr) (cb ln n1 n2 : Nat) (hln : ln ≤ 65535) (hn1 : n1 < 4294967296) (hn2 : n2 < 4294967296) (hl : b.scenes.length ≤ 9223372036854775807) (hlc : c.pr.th.length ≤ 9223372036854775807) (g1 : b.scenes.length ≤ 40) (g2 : c.pr.th.length ≤ 40) (g3 : caB c = true) (g4 : c.cuts ≤ 20) (g5 : c.squeeze ≠ 10000) (g6 : c.front ≠ 10000) (l1 r1 l2 r2 : Nat) (low high f z1 z2 : Int) (hok : okBar b = true) (ha1 : l1 < r1) (ha2 : ((r1 : Nat) : Int) < b.slots) (ha3 : l2 < r2) (ha4 : ((r2 : Nat) : Int) < b.slots) (hbv1 : bestV b p i1 = .tuple #[.int .i64 ((l1 : Nat) : Int), .int .i64 ((r1 : Nat) : Int), .int .i64 0]) (hbv2 : bestV b p i2 = .tuple #[.int .i64 ((l2 : Nat) : Int), .int .i64 ((r2 : Nat) : Int), .int .i64 0]) (hlow : min (((r1 : Nat) : Int) - ((l1 : Nat) : Int)) (((r2 : Nat) : Int) - ((l2 : Nat) : Int)) * b.pitch = low) (hhigh : max (((r1 : Nat) : Int) - ((l1 : Nat) : Int)) (((r2 : Nat) : Int) - ((l2 : Nat) : Int)) * b.pitch = high) (hlo : 1 ≤ low ∧ low ≤ 16000) (hhi : 1 ≤ high ∧ high ≤ 16000) (hf9 : 1 + ((ln : Nat) : Int) % 50000 = f) (hz1 : 2000 + ((n1 : Nat) : Int) % 16775217 = z1) (hz2 : 2000 + ((n2 : Nat) : Int) % 16775217 = z2) (hW1 : spW c f high 0 z1 z2 = 2) (hI1 : spI f high z1 z2 = true) (u : World) (hS : ScAt u sa b.scenes) (hC : ThAt u sb c.pr.th) (hT : GTab u) : Calls Tryz.prog 4 #[barV b sa sc, .int .i64 p, .int .i64 i1, .int .i64 i2, .agg (caA c sb cb), .int .u16 ((ln : Nat) : Int), .int .u32 ((n1 : Nat) : Int), .int .u32 ((n2 : Nat) : Int)] u (Ret fun v w' => v = .bool true ∧ Ext [] u w') := by
  refine calls_of Tryz.func4 rfl rfl (fun a hf => ?_)
  have hh := Hp.init u []
  have hV := (okBar_iff b).1 hok
  have hs1 := hV.s1; have hs2 := hV.s2; have hpp1 := hV.p1; have hpp2 := hV.p2; have hn10 := hV.n
  have hc := caB_iff.1 g3
  obtain ⟨k1, k2⟩ := hc.sq
  obtain ⟨k3, k4⟩ := hc.fr
  refine sy_sq ?_
  refine o_box hf hh ?_; clear hf hh a; intro B8 a w hf hh
  refine o_box hf hh ?_; clear hf hh a; intro B12 a w hf hh
  refine o_box hf hh ?_; clear hf hh a; intro B13 a w hf hh
  refine o_box hf hh ?_; clear hf hh a; intro B14 a w hf hh
  refine o_box hf hh ?_; clear hf hh a; intro B15 a w hf hh
  refine o_v hf hh (yv_assign rfl) ?_; clear hf a; intro a hf
  refine o_end ?_
  refine sy_seq ?_
  refine sy_sq ?_
  refine o_v hf hh (yv_fieldAddr Tryz.fo_24_4 rfl) ?_; clear hf a; intro a hf
  refine o_v hf hh (y_ld Tryz.sc_22 rfl) ?_; clear hf a; intro a hf
  refine o_v hf hh (yv_len Tryz.se_22 rfl) ?_; clear hf a; intro a hf
  refine o_v hf hh (yv_bin rfl rfl rfl) ?_; clear hf a; intro a hf
  refine o_v hf hh (yv_move rfl) ?_; clear hf a; intro a hf
  refine o_v hf hh (yv_fieldAddr Tryz.fo_51_0 rfl) ?_; clear hf a; intro a hf
  refine o_v hf hh (yv_fieldAddr Tryz.fo_38_5 rfl) ?_; clear hf a; intro a hf
  refine o_v hf hh (y_ld Tryz.sc_36 rfl) ?_; clear hf a; intro a hf
  refine o_v hf hh (yv_len Tryz.se_36 rfl) ?_; clear hf a; intro a hf
  refine o_v hf hh (yv_bin rfl rfl rfl) ?_; clear hf a; intro a hf
  refine o_v hf hh (y_pf rfl rfl) ?_; clear hf a; intro a hf
  refine o_v hf hh (yv_move rfl) ?_; clear hf a; intro a hf
  refine o_v hf hh (y_lds Tryz.ag_51 rfl) ?_; clear hf a; intro a hf
  refine o_call hf Tryz.en_13 rfl rfl rfl (c_Card c sb cb _ (hC.ext hh.ext) hlc) ?_; clear hf a; intro v a w hR hf
  obtain ⟨rfl, hx⟩ := hR; replace hh := hh.more hx; clear hx
  refine o_v hf hh (yv_not rfl) ?_; clear hf a; intro a hf
  refine o_v hf hh (y_pf rfl rfl) ?_; clear hf a; intro a hf
  refine o_v hf hh (yv_move rfl) ?_; clear hf a; intro a hf
  refine o_v hf hh (yv_fieldAddr Tryz.fo_51_3 rfl) ?_; clear hf a; intro a hf
  refine o_v hf hh (y_ld Tryz.sc_3 rfl) ?_; clear hf a; intro a hf
  refine o_v hf hh (yv_bin rfl rfl rfl) ?_; clear hf a; intro a hf
  refine o_v hf hh (y_pf rfl rfl) ?_; clear hf a; intro a hf
  refine o_v hf hh (yv_move rfl) ?_; clear hf a; intro a hf
  refine o_v hf hh (yv_fieldAddr Tryz.fo_51_6 rfl) ?_; clear hf a; intro a hf
  refine o_v hf hh (y_ld Tryz.sc_3 rfl) ?_; clear hf a; intro a hf
  refine o_v hf hh (yv_bin rfl rfl rfl) ?_; clear hf a; intro a hf
  refine o_v hf hh (y_pf rfl rfl) ?_; clear hf a; intro a hf
  refine o_v hf hh (yv_move rfl) ?_; clear hf a; intro a hf
  refine o_v hf hh (yv_fieldAddr Tryz.fo_51_7 rfl) ?_; clear hf a; intro a hf
  refine o_v hf hh (y_ld Tryz.sc_3 rfl) ?_; clear hf a; intro a hf
  refine o_v hf hh (yv_bin rfl rfl rfl) ?_; clear hf a; intro a hf
  refine o_v hf hh (y_pf rfl rfl) ?_; clear hf a; intro a hf
  refine o_end ?_
  refine c_f hf ?_
  refine sy_skip ?_
  refine then_n ?_
  refine sy_sq ?_
  refine o_v hf hh (y_lds Tryz.ag_24 rfl) ?_; clear hf a; intro a hf
  refine o_v hf hh (yv_move rfl) ?_; clear hf a; intro a hf
  refine o_v hf hh (yv_move rfl) ?_; clear hf a; intro a hf
  refine o_call hf Tryz.en_6 rfl rfl rfl (c_Best b sa sc _ (hS.ext hh.ext) (hT.ext hh.ext (by simp)) p i1 hp1) ?_; clear hf a; intro v a w hR hf
  rw [hbv1] at hR
  obtain ⟨rfl, hx⟩ := hR; replace hh := hh.more hx; clear hx
  refine o_v hf hh (yv_move rfl) ?_; clear hf a; intro a hf
  refine o_v hf hh (yv_extract rfl rfl) ?_; clear hf a; intro a hf
  refine o_v hf hh (yv_extract rfl rfl) ?_; clear hf a; intro a hf
  refine o_v hf hh (yv_extract rfl rfl) ?_; clear hf a; intro a hf
  refine o_v hf hh (yv_assign rfl) ?_; clear hf a; intro a hf
  refine o_v hf hh (yv_assign rfl) ?_; clear hf a; intro a hf
  refine o_v hf hh (yv_assign rfl) ?_; clear hf a; intro a hf
  refine o_end ?_
  refine sy_sq ?_
  refine o_v hf hh (y_lds Tryz.ag_24 rfl) ?_; clear hf a; intro a hf
  refine o_v hf hh (yv_move rfl) ?_; clear hf a; intro a hf
  refine o_v hf hh (yv_move rfl) ?_; clear hf a; intro a hf
  refine o_call hf Tryz.en_6 rfl rfl rfl (c_Best b sa sc _ (hS.ext hh.ext) (hT.ext hh.ext (by simp)) p i2 hp1) ?_; clear hf a; intro v a w hR hf
  rw [hbv2] at hR
  obtain ⟨rfl, hx⟩ := hR; replace hh := hh.more hx; clear hx
  refine o_v hf hh (yv_move rfl) ?_; clear hf a; intro a hf
  refine o_v hf hh (yv_extract rfl rfl) ?_; clear hf a; intro a hf
  refine o_v hf hh (yv_extract rfl rfl) ?_; clear hf a; intro a hf
  refine o_v hf hh (yv_extract rfl rfl) ?_; clear hf a; intro a hf
  refine o_v hf hh (yv_assign rfl) ?_; clear hf a; intro a hf
  refine o_v hf hh (yv_assign rfl) ?_; clear hf a; intro a hf
  refine o_v hf hh (yv_assign rfl) ?_; clear hf a; intro a hf
  refine o_end ?_
  refine sy_seq ?_
  refine sy_sq ?_
  refine o_v hf hh (yv_move rfl) ?_; clear hf a; intro a hf
  refine o_v hf hh (yv_bin rfl rfl rfl) ?_; clear hf a; intro a hf
  refine o_v hf hh (yv_move rfl) ?_; clear hf a; intro a hf
  refine o_v hf hh (yv_move rfl) ?_; clear hf a; intro a hf
  refine o_v hf hh (yv_bin rfl rfl rfl) ?_; clear hf a; intro a hf
  refine o_v hf hh (y_pf rfl rfl) ?_; clear hf a; intro a hf
  refine o_end ?_
  refine c_f hf ?_
  refine sy_skip ?_
  refine then_n ?_
  refine sy_seq ?_
  refine sy_sq ?_
  refine o_v hf hh (y_lds Tryz.ag_24 rfl) ?_; clear hf a; intro a hf
  refine o_call hf Tryz.en_7 rfl rfl rfl (c28 b sa sc _ (hS.ext hh.ext)) ?_; clear hf a; intro v a w hR hf
  obtain ⟨rfl, hx⟩ := hR; replace hh := hh.more hx; clear hx
  refine o_v hf hh (yv_not rfl) ?_; clear hf a; intro a hf
  refine o_v hf hh (yv_move rfl) ?_; clear hf a; intro a hf
  refine o_v hf hh (yv_move rfl) ?_; clear hf a; intro a hf
  refine o_v hf hh (yv_bin rfl rfl rfl) ?_; clear hf a; intro a hf
  refine o_v hf hh (y_pf rfl rfl) ?_; clear hf a; intro a hf
  refine o_v hf hh (yv_move rfl) ?_; clear hf a; intro a hf
  refine o_v hf hh (yv_move rfl) ?_; clear hf a; intro a hf
  refine o_v hf hh (yv_move rfl) ?_; clear hf a; intro a hf
  refine o_v hf hh (yv_bin rfl rfl rfl) ?_; clear hf a; intro a hf
  refine o_v hf hh (y_pf rfl rfl) ?_; clear hf a; intro a hf
  refine o_v hf hh (yv_move rfl) ?_; clear hf a; intro a hf
  refine o_v hf hh (yv_move rfl) ?_; clear hf a; intro a hf
  refine o_v hf hh (yv_fieldAddr Tryz.fo_24_0 rfl) ?_; clear hf a; intro a hf
  refine o_v hf hh (y_ld Tryz.sc_3 rfl) ?_; clear hf a; intro a hf
  refine o_v hf hh (yv_bin rfl rfl rfl) ?_; clear hf a; intro a hf
  refine o_v hf hh (y_pf rfl rfl) ?_; clear hf a; intro a hf
  refine o_v hf hh (yv_move rfl) ?_; clear hf a; intro a hf
  refine o_v hf hh (yv_move rfl) ?_; clear hf a; intro a hf
  refine o_v hf hh (yv_bin rfl rfl rfl) ?_; clear hf a; intro a hf
  refine o_v hf hh (y_pf rfl rfl) ?_; clear hf a; intro a hf
  refine o_v hf hh (yv_move rfl) ?_; clear hf a; intro a hf
  refine o_v hf hh (yv_move rfl) ?_; clear hf a; intro a hf
  refine o_v hf hh (yv_move rfl) ?_; clear hf a; intro a hf
  refine o_v hf hh (yv_bin rfl rfl rfl) ?_; clear hf a; intro a hf
  refine o_v hf hh (y_pf rfl rfl) ?_; clear hf a; intro a hf
  refine o_v hf hh (yv_move rfl) ?_; clear hf a; intro a hf
  refine o_v hf hh (yv_move rfl) ?_; clear hf a; intro a hf
  refine o_v hf hh (yv_fieldAddr Tryz.fo_24_0 rfl) ?_; clear hf a; intro a hf
  refine o_v hf hh (y_ld Tryz.sc_3 rfl) ?_; clear hf a; intro a hf
  refine o_v hf hh (yv_bin rfl rfl rfl) ?_; clear hf a; intro a hf
  refine o_v hf hh (y_pf rfl rfl) ?_; clear hf a; intro a hf
  refine o_end ?_
  refine c_f hf ?_
  refine sy_skip ?_
  refine then_n ?_
  refine sy_seq ?_
  replace hh : Hp u [] [(B15, .cells #[.int .u32 ((n2 : Nat) : Int)] 26), (B14, .cells #[.int .u32 ((n1 : Nat) : Int)] 26), (B13, .cells #[.int .u16 ((ln : Nat) : Int)] 25), (B12, .cells (caA c sb cb) 51), (B8, .cells #[.int .i64 b.slots, .int .i64 b.pitch, .int .i64 b.broken, .int .i64 b.most, .slice sa b.scenes.length sc] 24)] w := hh
  refine sy_quiet (C := Hp _ _ _) Tryz.follows (by kernel_rfl) (hh.drawn _) ?_
  refine oq_v hf (yv_move rfl) ?_; clear hf a; intro a hf
  refine oq_v hf (yv_move rfl) ?_; clear hf a; intro a hf
  refine oq_v hf (y_sub rfl rfl) ?_; clear hf a; intro a hf
  refine oq_v hf (yv_move rfl) ?_; clear hf a; intro a hf
  refine oq_v hf (yv_move rfl) ?_; clear hf a; intro a hf
  refine oq_v hf (y_sub rfl rfl) ?_; clear hf a; intro a hf
  refine oq_v hf (yv_min rfl rfl) ?_; clear hf a; intro a hf
  refine oq_v hf (yv_fieldAddr Tryz.fo_24_1 rfl) ?_; clear hf a; intro a hf
  refine oq_v hf (y_ld Tryz.sc_3 rfl) ?_; clear hf a; intro a hf
  refine q_v hf (yv_cast (yv_mul rfl rfl (by rw [hlow]; omega) (by rw [hlow]; omega)) (intv (b := low) hlow)) (.inl rfl) rfl rfl ?_; clear hf a; intro a hf
  refine oq_v hf (yv_move rfl) ?_; clear hf a; intro a hf
  refine oq_v hf (yv_move rfl) ?_; clear hf a; intro a hf
  refine oq_v hf (y_sub rfl rfl) ?_; clear hf a; intro a hf
  refine oq_v hf (yv_move rfl) ?_; clear hf a; intro a hf
  refine oq_v hf (yv_move rfl) ?_; clear hf a; intro a hf
  refine oq_v hf (y_sub rfl rfl) ?_; clear hf a; intro a hf
  refine oq_v hf (yv_max rfl rfl) ?_; clear hf a; intro a hf
  refine oq_v hf (yv_fieldAddr Tryz.fo_24_1 rfl) ?_; clear hf a; intro a hf
  refine oq_v hf (y_ld Tryz.sc_3 rfl) ?_; clear hf a; intro a hf
  refine q_v hf (yv_cast (yv_mul rfl rfl (by rw [hhigh]; omega) (by rw [hhigh]; omega)) (intv (b := high) hhigh)) (.inl rfl) rfl rfl ?_; clear hf a; intro a hf
  refine oq_v hf (yv_assign rfl) ?_; clear hf a; intro a hf
  refine oq_v hf (yv_assign rfl) ?_; clear hf a; intro a hf
  refine q_end fun w hh => ?_
  refine then_n ?_
  refine sy_sq ?_
  refine o_v hf hh (yv_makeFunc rfl rfl) ?_; clear hf a; intro a hf
  refine o_v hf hh (yv_assign rfl) ?_; clear hf a; intro a hf
  refine o_end ?_
  refine sy_sq ?_
  refine o_v hf hh (yv_move rfl) ?_; clear hf a; intro a hf
  refine o_v hf hh (yv_move rfl) ?_; clear hf a; intro a hf
  refine o_call hf Tryz.en_14 rfl rfl rfl (c_sp c sb cb hc high 0 ln n1 n2 f z1 z2 hln hn1 hn2 hf9 hz1 hz2 (by omega) (by omega) (by omega) (by omega) B13 B14 B15 B12 _ (hh.at (i := 2) rfl) (hh.at (i := 1) rfl) (hh.at (i := 0) rfl) (hh.at (i := 3) rfl)) ?_; clear hf a; intro v a w hR hf
  rw [hW1, hI1] at hR
  obtain ⟨rfl, hx⟩ := hR; replace hh := hh.more hx; clear hx
  refine o_v hf hh (yv_move rfl) ?_; clear hf a; intro a hf
  refine o_v hf hh (yv_extract rfl rfl) ?_; clear hf a; intro a hf
  refine o_v hf hh (yv_extract rfl rfl) ?_; clear hf a; intro a hf
  refine o_v hf hh (yv_assign rfl) ?_; clear hf a; intro a hf
  refine o_v hf hh (yv_assign rfl) ?_; clear hf a; intro a hf
  refine o_end ?_
  refine sy_seq ?_
  refine sy_sq ?_
  refine o_v hf hh (yv_move rfl) ?_; clear hf a; intro a hf
  refine o_v hf hh (yv_not rfl) ?_; clear hf a; intro a hf
  refine o_v hf hh (yv_move rfl) ?_; clear hf a; intro a hf
  refine o_v hf hh (yv_move rfl) ?_; clear hf a; intro a hf
  refine o_v hf hh (yv_bin rfl rfl rfl) ?_; clear hf a; intro a hf
  refine o_v hf hh (y_pf rfl rfl) ?_; clear hf a; intro a hf
  refine o_v hf hh (yv_move rfl) ?_; clear hf a; intro a hf
  refine o_v hf hh (yv_move rfl) ?_; clear hf a; intro a hf
  refine o_v hf hh (yv_bin rfl rfl rfl) ?_; clear hf a; intro a hf
  refine o_v hf hh (y_pf rfl rfl) ?_; clear hf a; intro a hf
  refine o_end ?_
  refine c_t hf ?_
  refine sy_sq ?_
  refine o_call hf Tryz.en_5 rfl rfl rfl (c_awake04 _ (hT.ext hh.ext (by simp))) ?_; clear hf a; intro v a w hR hf
  obtain ⟨rfl, hx⟩ := hR; replace hh := hh.more hx; clear hx
  refine o_v hf hh (yv_assign rfl) ?_; clear hf a; intro a hf
  refine o_end ?_
  refine sy_ret ?_
  refine then_r ?_
  refine ret_r hf rfl rfl ?_
  exact ⟨rfl, hh.ext⟩
set_option maxRecDepth 100000 in
set_option maxHeartbeats 4000000 in
theorem s_e (b : BarD) (sa : Option Addr) (sc : Nat) (p i1 i2 : Int) (hp1 : p ≤ 9223372036854775807) (c : CaD) (sb : Option Addr) (cb ln n1 n2 : Nat) (hln : ln ≤ 65535) (hn1 : n1 < 4294967296) (hn2 : n2 < 4294967296) (hl : b.scenes.length ≤ 9223372036854775807) (hlc : c.pr.th.length ≤ 9223372036854775807) (g1 : b.scenes.length ≤ 40) (g2 : c.pr.th.length ≤ 40) (g3 : caB c = true) (g4 : c.cuts ≤ 20) (g5 : c.squeeze ≠ 10000) (g6 : c.front ≠ 10000) (l1 r1 l2 r2 : Nat) (low high f z1 z2 : Int) (hok : okBar b = true) (ha1 : l1 < r1) (ha2 : ((r1 : Nat) : Int) < b.slots) (ha3 : l2 < r2) (ha4 : ((r2 : Nat) : Int) < b.slots) (hbv1 : bestV b p i1 = .tuple #[.int .i64 ((l1 : Nat) : Int), .int .i64 ((r1 : Nat) : Int), .int .i64 0]) (hbv2 : bestV b p i2 = .tuple #[.int .i64 ((l2 : Nat) : Int), .int .i64 ((r2 : Nat) : Int), .int .i64 0]) (hlow : min (((r1 : Nat) : Int) - ((l1 : Nat) : Int)) (((r2 : Nat) : Int) - ((l2 : Nat) : Int)) * b.pitch = low) (hhigh : max (((r1 : Nat) : Int) - ((l1 : Nat) : Int)) (((r2 : Nat) : Int) - ((l2 : Nat) : Int)) * b.pitch = high) (hlo : 1 ≤ low ∧ low ≤ 16000) (hhi : 1 ≤ high ∧ high ≤ 16000) (hf9 : 1 + ((ln : Nat) : Int) % 50000 = f) (hz1 : 2000 + ((n1 : Nat) : Int) % 16775217 = z1) (hz2 : 2000 + ((n2 : Nat) : Int) % 16775217 = z2) (W1 W2 : Nat) (hW1 : spW c f high 0 z1 z2 = W1) (hI1 : spI f high z1 z2 = true) (hw1 : W1 ≠ 1) (hw2 : W1 ≠ 2) (hW2 : spW c f low 1 z1 z2 = W2) (hI2 : spI f low z1 z2 = true) (hw3 : W2 ≠ 1) (hw4 : W2 ≠ 2) (u : World) (hS : ScAt u sa b.scenes) (hC : ThAt u sb c.pr.th) (hT : GTab u) : Calls Tryz.prog 4 #[barV b sa sc, .int .i64 p, .int .i64 i1, .int .i64 i2, .agg (caA c sb cb), .int .u16 ((ln : Nat) : Int), .int .u32 ((n1 : Nat) : Int), .int .u32 ((n2 : Nat) : Int)] u (Ret fun v w' => v = .bool true ∧ Ext [] u w') := by
  refine calls_of Tryz.func4 rfl rfl (fun a hf => ?_)
  have hh := Hp.init u []
  have hV := (okBar_iff b).1 hok
  have hs1 := hV.s1; have hs2 := hV.s2; have hpp1 := hV.p1; have hpp2 := hV.p2; have hn10 := hV.n
  have hc := caB_iff.1 g3
  obtain ⟨k1, k2⟩ := hc.sq
  obtain ⟨k3, k4⟩ := hc.fr
  refine sy_sq ?_
  refine o_box hf hh ?_; clear hf hh a; intro B8 a w hf hh
  refine o_box hf hh ?_; clear hf hh a; intro B12 a w hf hh
  refine o_box hf hh ?_; clear hf hh a; intro B13 a w hf hh
  refine o_box hf hh ?_; clear hf hh a; intro B14 a w hf hh
  refine o_box hf hh ?_; clear hf hh a; intro B15 a w hf hh
  refine o_v hf hh (yv_assign rfl) ?_; clear hf a; intro a hf
  refine o_end ?_
  refine sy_seq ?_
  refine sy_sq ?_
  refine o_v hf hh (yv_fieldAddr Tryz.fo_24_4 rfl) ?_; clear hf a; intro a hf
  refine o_v hf hh (y_ld Tryz.sc_22 rfl) ?_; clear hf a; intro a hf
  refine o_v hf hh (yv_len Tryz.se_22 rfl) ?_; clear hf a; intro a hf
  refine o_v hf hh (yv_bin rfl rfl rfl) ?_; clear hf a; intro a hf
  refine o_v hf hh (yv_move rfl) ?_; clear hf a; intro a hf
  refine o_v hf hh (yv_fieldAddr Tryz.fo_51_0 rfl) ?_; clear hf a; intro a hf
  refine o_v hf hh (yv_fieldAddr Tryz.fo_38_5 rfl) ?_; clear hf a; intro a hf
  refine o_v hf hh (y_ld Tryz.sc_36 rfl) ?_; clear hf a; intro a hf
  refine o_v hf hh (yv_len Tryz.se_36 rfl) ?_; clear hf a; intro a hf
  refine o_v hf hh (yv_bin rfl rfl rfl) ?_; clear hf a; intro a hf
  refine o_v hf hh (y_pf rfl rfl) ?_; clear hf a; intro a hf
  refine o_v hf hh (yv_move rfl) ?_; clear hf a; intro a hf
  refine o_v hf hh (y_lds Tryz.ag_51 rfl) ?_; clear hf a; intro a hf
  refine o_call hf Tryz.en_13 rfl rfl rfl (c_Card c sb cb _ (hC.ext hh.ext) hlc) ?_; clear hf a; intro v a w hR hf
  obtain ⟨rfl, hx⟩ := hR; replace hh := hh.more hx; clear hx
  refine o_v hf hh (yv_not rfl) ?_; clear hf a; intro a hf
  refine o_v hf hh (y_pf rfl rfl) ?_; clear hf a; intro a hf
  refine o_v hf hh (yv_move rfl) ?_; clear hf a; intro a hf
  refine o_v hf hh (yv_fieldAddr Tryz.fo_51_3 rfl) ?_; clear hf a; intro a hf
  refine o_v hf hh (y_ld Tryz.sc_3 rfl) ?_; clear hf a; intro a hf
  refine o_v hf hh (yv_bin rfl rfl rfl) ?_; clear hf a; intro a hf
  refine o_v hf hh (y_pf rfl rfl) ?_; clear hf a; intro a hf
  refine o_v hf hh (yv_move rfl) ?_; clear hf a; intro a hf
  refine o_v hf hh (yv_fieldAddr Tryz.fo_51_6 rfl) ?_; clear hf a; intro a hf
  refine o_v hf hh (y_ld Tryz.sc_3 rfl) ?_; clear hf a; intro a hf
  refine o_v hf hh (yv_bin rfl rfl rfl) ?_; clear hf a; intro a hf
  refine o_v hf hh (y_pf rfl rfl) ?_; clear hf a; intro a hf
  refine o_v hf hh (yv_move rfl) ?_; clear hf a; intro a hf
  refine o_v hf hh (yv_fieldAddr Tryz.fo_51_7 rfl) ?_; clear hf a; intro a hf
  refine o_v hf hh (y_ld Tryz.sc_3 rfl) ?_; clear hf a; intro a hf
  refine o_v hf hh (yv_bin rfl rfl rfl) ?_; clear hf a; intro a hf
  refine o_v hf hh (y_pf rfl rfl) ?_; clear hf a; intro a hf
  refine o_end ?_
  refine c_f hf ?_
  refine sy_skip ?_
  refine then_n ?_
  refine sy_sq ?_
  refine o_v hf hh (y_lds Tryz.ag_24 rfl) ?_; clear hf a; intro a hf
  refine o_v hf hh (yv_move rfl) ?_; clear hf a; intro a hf
  refine o_v hf hh (yv_move rfl) ?_; clear hf a; intro a hf
  refine o_call hf Tryz.en_6 rfl rfl rfl (c_Best b sa sc _ (hS.ext hh.ext) (hT.ext hh.ext (by simp)) p i1 hp1) ?_; clear hf a; intro v a w hR hf
  rw [hbv1] at hR
  obtain ⟨rfl, hx⟩ := hR; replace hh := hh.more hx; clear hx
  refine o_v hf hh (yv_move rfl) ?_; clear hf a; intro a hf
  refine o_v hf hh (yv_extract rfl rfl) ?_; clear hf a; intro a hf
  refine o_v hf hh (yv_extract rfl rfl) ?_; clear hf a; intro a hf
  refine o_v hf hh (yv_extract rfl rfl) ?_; clear hf a; intro a hf
  refine o_v hf hh (yv_assign rfl) ?_; clear hf a; intro a hf
  refine o_v hf hh (yv_assign rfl) ?_; clear hf a; intro a hf
  refine o_v hf hh (yv_assign rfl) ?_; clear hf a; intro a hf
  refine o_end ?_
  refine sy_sq ?_
  refine o_v hf hh (y_lds Tryz.ag_24 rfl) ?_; clear hf a; intro a hf
  refine o_v hf hh (yv_move rfl) ?_; clear hf a; intro a hf
  refine o_v hf hh (yv_move rfl) ?_; clear hf a; intro a hf
  refine o_call hf Tryz.en_6 rfl rfl rfl (c_Best b sa sc _ (hS.ext hh.ext) (hT.ext hh.ext (by simp)) p i2 hp1) ?_; clear hf a; intro v a w hR hf
  rw [hbv2] at hR
  obtain ⟨rfl, hx⟩ := hR; replace hh := hh.more hx; clear hx
  refine o_v hf hh (yv_move rfl) ?_; clear hf a; intro a hf
  refine o_v hf hh (yv_extract rfl rfl) ?_; clear hf a; intro a hf
  refine o_v hf hh (yv_extract rfl rfl) ?_; clear hf a; intro a hf
  refine o_v hf hh (yv_extract rfl rfl) ?_; clear hf a; intro a hf
  refine o_v hf hh (yv_assign rfl) ?_; clear hf a; intro a hf
  refine o_v hf hh (yv_assign rfl) ?_; clear hf a; intro a hf
  refine o_v hf hh (yv_assign rfl) ?_; clear hf a; intro a hf
  refine o_end ?_
  refine sy_seq ?_
  refine sy_sq ?_
  refine o_v hf hh (yv_move rfl) ?_; clear hf a; intro a hf
  refine o_v hf hh (yv_bin rfl rfl rfl) ?_; clear hf a; intro a hf
  refine o_v hf hh (yv_move rfl) ?_; clear hf a; intro a hf
  refine o_v hf hh (yv_move rfl) ?_; clear hf a; intro a hf
  refine o_v hf hh (yv_bin rfl rfl rfl) ?_; clear hf a; intro a hf
  refine o_v hf hh (y_pf rfl rfl) ?_; clear hf a; intro a hf
  refine o_end ?_
  refine c_f hf ?_
  refine sy_skip ?_
  refine then_n ?_
  refine sy_seq ?_
  refine sy_sq ?_
  refine o_v hf hh (y_lds Tryz.ag_24 rfl) ?_; clear hf a; intro a hf
  refine o_call hf Tryz.en_7 rfl rfl rfl (c28 b sa sc _ (hS.ext hh.ext)) ?_; clear hf a; intro v a w hR hf
  obtain ⟨rfl, hx⟩ := hR; replace hh := hh.more hx; clear hx
  refine o_v hf hh (yv_not rfl) ?_; clear hf a; intro a hf
  refine o_v hf hh (yv_move rfl) ?_; clear hf a; intro a hf
  refine o_v hf hh (yv_move rfl) ?_; clear hf a; intro a hf
  refine o_v hf hh (yv_bin rfl rfl rfl) ?_; clear hf a; intro a hf
  refine o_v hf hh (y_pf rfl rfl) ?_; clear hf a; intro a hf
  refine o_v hf hh (yv_move rfl) ?_; clear hf a; intro a hf
  refine o_v hf hh (yv_move rfl) ?_; clear hf a; intro a hf
  refine o_v hf hh (yv_move rfl) ?_; clear hf a; intro a hf
  refine o_v hf hh (yv_bin rfl rfl rfl) ?_; clear hf a; intro a hf
  refine o_v hf hh (y_pf rfl rfl) ?_; clear hf a; intro a hf
  refine o_v hf hh (yv_move rfl) ?_; clear hf a; intro a hf
  refine o_v hf hh (yv_move rfl) ?_; clear hf a; intro a hf
  refine o_v hf hh (yv_fieldAddr Tryz.fo_24_0 rfl) ?_; clear hf a; intro a hf
  refine o_v hf hh (y_ld Tryz.sc_3 rfl) ?_; clear hf a; intro a hf
  refine o_v hf hh (yv_bin rfl rfl rfl) ?_; clear hf a; intro a hf
  refine o_v hf hh (y_pf rfl rfl) ?_; clear hf a; intro a hf
  refine o_v hf hh (yv_move rfl) ?_; clear hf a; intro a hf
  refine o_v hf hh (yv_move rfl) ?_; clear hf a; intro a hf
  refine o_v hf hh (yv_bin rfl rfl rfl) ?_; clear hf a; intro a hf
  refine o_v hf hh (y_pf rfl rfl) ?_; clear hf a; intro a hf
  refine o_v hf hh (yv_move rfl) ?_; clear hf a; intro a hf
  refine o_v hf hh (yv_move rfl) ?_; clear hf a; intro a hf
  refine o_v hf hh (yv_move rfl) ?_; clear hf a; intro a hf
  refine o_v hf hh (yv_bin rfl rfl rfl) ?_; clear hf a; intro a hf
  refine o_v hf hh (y_pf rfl rfl) ?_; clear hf a; intro a hf
  refine o_v hf hh (yv_move rfl) ?_; clear hf a; intro a hf
  refine o_v hf hh (yv_move rfl) ?_; clear hf a; intro a hf
  refine o_v hf hh (yv_fieldAddr Tryz.fo_24_0 rfl) ?_; clear hf a; intro a hf
  refine o_v hf hh (y_ld Tryz.sc_3 rfl) ?_; clear hf a; intro a hf
  refine o_v hf hh (yv_bin rfl rfl rfl) ?_; clear hf a; intro a hf
  refine o_v hf hh (y_pf rfl rfl) ?_; clear hf a; intro a hf
  refine o_end ?_
  refine c_f hf ?_
  refine sy_skip ?_
  refine then_n ?_
  refine sy_seq ?_
  replace hh : Hp u [] [(B15, .cells #[.int .u32 ((n2 : Nat) : Int)] 26), (B14, .cells #[.int .u32 ((n1 : Nat) : Int)] 26), (B13, .cells #[.int .u16 ((ln : Nat) : Int)] 25), (B12, .cells (caA c sb cb) 51), (B8, .cells #[.int .i64 b.slots, .int .i64 b.pitch, .int .i64 b.broken, .int .i64 b.most, .slice sa b.scenes.length sc] 24)] w := hh
  refine sy_quiet (C := Hp _ _ _) Tryz.follows (by kernel_rfl) (hh.drawn _) ?_
  refine oq_v hf (yv_move rfl) ?_; clear hf a; intro a hf
  refine oq_v hf (yv_move rfl) ?_; clear hf a; intro a hf
  refine oq_v hf (y_sub rfl rfl) ?_; clear hf a; intro a hf
  refine oq_v hf (yv_move rfl) ?_; clear hf a; intro a hf
  refine oq_v hf (yv_move rfl) ?_; clear hf a; intro a hf
  refine oq_v hf (y_sub rfl rfl) ?_; clear hf a; intro a hf
  refine oq_v hf (yv_min rfl rfl) ?_; clear hf a; intro a hf
  refine oq_v hf (yv_fieldAddr Tryz.fo_24_1 rfl) ?_; clear hf a; intro a hf
  refine oq_v hf (y_ld Tryz.sc_3 rfl) ?_; clear hf a; intro a hf
  refine q_v hf (yv_cast (yv_mul rfl rfl (by rw [hlow]; omega) (by rw [hlow]; omega)) (intv (b := low) hlow)) (.inl rfl) rfl rfl ?_; clear hf a; intro a hf
  refine oq_v hf (yv_move rfl) ?_; clear hf a; intro a hf
  refine oq_v hf (yv_move rfl) ?_; clear hf a; intro a hf
  refine oq_v hf (y_sub rfl rfl) ?_; clear hf a; intro a hf
  refine oq_v hf (yv_move rfl) ?_; clear hf a; intro a hf
  refine oq_v hf (yv_move rfl) ?_; clear hf a; intro a hf
  refine oq_v hf (y_sub rfl rfl) ?_; clear hf a; intro a hf
  refine oq_v hf (yv_max rfl rfl) ?_; clear hf a; intro a hf
  refine oq_v hf (yv_fieldAddr Tryz.fo_24_1 rfl) ?_; clear hf a; intro a hf
  refine oq_v hf (y_ld Tryz.sc_3 rfl) ?_; clear hf a; intro a hf
  refine q_v hf (yv_cast (yv_mul rfl rfl (by rw [hhigh]; omega) (by rw [hhigh]; omega)) (intv (b := high) hhigh)) (.inl rfl) rfl rfl ?_; clear hf a; intro a hf
  refine oq_v hf (yv_assign rfl) ?_; clear hf a; intro a hf
  refine oq_v hf (yv_assign rfl) ?_; clear hf a; intro a hf
  refine q_end fun w hh => ?_
  refine then_n ?_
  refine sy_sq ?_
  refine o_v hf hh (yv_makeFunc rfl rfl) ?_; clear hf a; intro a hf
  refine o_v hf hh (yv_assign rfl) ?_; clear hf a; intro a hf
  refine o_end ?_
  refine sy_sq ?_
  refine o_v hf hh (yv_move rfl) ?_; clear hf a; intro a hf
  refine o_v hf hh (yv_move rfl) ?_; clear hf a; intro a hf
  refine o_call hf Tryz.en_14 rfl rfl rfl (c_sp c sb cb hc high 0 ln n1 n2 f z1 z2 hln hn1 hn2 hf9 hz1 hz2 (by omega) (by omega) (by omega) (by omega) B13 B14 B15 B12 _ (hh.at (i := 2) rfl) (hh.at (i := 1) rfl) (hh.at (i := 0) rfl) (hh.at (i := 3) rfl)) ?_; clear hf a; intro v a w hR hf
  rw [hW1, hI1] at hR
  obtain ⟨rfl, hx⟩ := hR; replace hh := hh.more hx; clear hx
  refine o_v hf hh (yv_move rfl) ?_; clear hf a; intro a hf
  refine o_v hf hh (yv_extract rfl rfl) ?_; clear hf a; intro a hf
  refine o_v hf hh (yv_extract rfl rfl) ?_; clear hf a; intro a hf
  refine o_v hf hh (yv_assign rfl) ?_; clear hf a; intro a hf
  refine o_v hf hh (yv_assign rfl) ?_; clear hf a; intro a hf
  refine o_end ?_
  refine sy_seq ?_
  refine sy_sq ?_
  refine o_v hf hh (yv_move rfl) ?_; clear hf a; intro a hf
  refine o_v hf hh (yv_not rfl) ?_; clear hf a; intro a hf
  refine o_v hf hh (yv_move rfl) ?_; clear hf a; intro a hf
  refine o_v hf hh (yv_move rfl) ?_; clear hf a; intro a hf
  refine o_v hf hh (yv_bin rfl rfl rfl) ?_; clear hf a; intro a hf
  refine o_v hf hh (y_pf rfl rfl) ?_; clear hf a; intro a hf
  refine o_v hf hh (yv_move rfl) ?_; clear hf a; intro a hf
  refine o_v hf hh (yv_move rfl) ?_; clear hf a; intro a hf
  refine o_v hf hh (yv_bin rfl rfl rfl) ?_; clear hf a; intro a hf
  refine o_v hf hh (y_pf rfl rfl) ?_; clear hf a; intro a hf
  refine o_end ?_
  refine c_f hf ?_
  refine sy_skip ?_
  refine then_n ?_
  refine sy_sq ?_
  refine o_v hf hh (yv_move rfl) ?_; clear hf a; intro a hf
  refine o_v hf hh (yv_move rfl) ?_; clear hf a; intro a hf
  refine o_call hf Tryz.en_14 rfl rfl rfl (c_sp c sb cb hc low 1 ln n1 n2 f z1 z2 hln hn1 hn2 hf9 hz1 hz2 (by omega) (by omega) (by omega) (by omega) B13 B14 B15 B12 _ (hh.at (i := 2) rfl) (hh.at (i := 1) rfl) (hh.at (i := 0) rfl) (hh.at (i := 3) rfl)) ?_; clear hf a; intro v a w hR hf
  rw [hW2, hI2] at hR
  obtain ⟨rfl, hx⟩ := hR; replace hh := hh.more hx; clear hx
  refine o_v hf hh (yv_move rfl) ?_; clear hf a; intro a hf
  refine o_v hf hh (yv_extract rfl rfl) ?_; clear hf a; intro a hf
  refine o_v hf hh (yv_extract rfl rfl) ?_; clear hf a; intro a hf
  refine o_v hf hh (yv_assign rfl) ?_; clear hf a; intro a hf
  refine o_v hf hh (yv_assign rfl) ?_; clear hf a; intro a hf
  refine o_end ?_
  refine sy_sq ?_
  refine o_v hf hh (yv_move rfl) ?_; clear hf a; intro a hf
  refine o_v hf hh (yv_move rfl) ?_; clear hf a; intro a hf
  refine o_v hf hh (yv_move rfl) ?_; clear hf a; intro a hf
  refine o_v hf hh (yv_bin rfl rfl rfl) ?_; clear hf a; intro a hf
  refine o_v hf hh (y_pt rfl rfl) ?_; clear hf a; intro a hf
  refine o_v hf hh (yv_move rfl) ?_; clear hf a; intro a hf
  refine o_v hf hh (yv_move rfl) ?_; clear hf a; intro a hf
  refine o_v hf hh (yv_bin rfl rfl rfl) ?_; clear hf a; intro a hf
  refine o_v hf hh (y_pt rfl rfl) ?_; clear hf a; intro a hf
  refine o_v hf hh (yv_move rfl) ?_; clear hf a; intro a hf
  refine o_call hf Tryz.en_5 rfl rfl rfl (c_awake04 _ (hT.ext hh.ext (by simp))) ?_; clear hf a; intro v a w hR hf
  obtain ⟨rfl, hx⟩ := hR; replace hh := hh.more hx; clear hx
  refine o_v hf hh (y_pt rfl rfl) ?_; clear hf a; intro a hf
  refine o_v hf hh (yv_assign rfl) ?_; clear hf a; intro a hf
  refine o_end ?_
  refine sy_ret ?_
  refine ret_r hf rfl rfl ?_
  exact ⟨rfl, hh.ext⟩
theorem mul_bdW {d q : Int} (h1 : 1 ≤ d) (h2 : d ≤ 16) (h3 : 1 ≤ q) (h4 : q ≤ 1000) : 1 ≤ d * q ∧ d * q ≤ 16000 := by
  have e1 := Int.mul_le_mul h1 h3 (by omega) (by omega)
  have e2 := Int.mul_le_mul h2 h4 (by omega) (by omega)
  omega
theorem c_law5 (b : BarD) (sa : Option Addr) (sc : Nat) (p i1 i2 : Int) (hp1 : p ≤ 9223372036854775807) (c : CaD) (sb : Option Addr) (cb ln n1 n2 : Nat) (hln : ln ≤ 65535) (hn1 : n1 < 4294967296) (hn2 : n2 < 4294967296) (hl : b.scenes.length ≤ 9223372036854775807) (hlc : c.pr.th.length ≤ 9223372036854775807) (u : World) (hS : ScAt u sa b.scenes) (hC : ThAt u sb c.pr.th) (hT : GTab u) : Calls Tryz.prog 4 #[barV b sa sc, .int .i64 p, .int .i64 i1, .int .i64 i2, .agg (caA c sb cb), .int .u16 ((ln : Nat) : Int), .int .u32 ((n1 : Nat) : Int), .int .u32 ((n2 : Nat) : Int)] u (Ret fun v w' => v = .bool true ∧ Ext [] u w') := by
  by_cases hbad : 40 < b.scenes.length ∨ 40 < c.pr.th.length ∨ caB c = false ∨ 20 < c.cuts ∨ c.squeeze = 10000 ∨ c.front = 10000
  · exact s_bad b sa sc p i1 i2 hp1 c sb cb ln n1 n2 hln hn1 hn2 hl hlc hbad u hS hC hT
  · rw [not_or, not_or, not_or, not_or, not_or] at hbad
    obtain ⟨g1, g2, g3, g4, g5, g6⟩ := hbad
    have g3 : caB c = true := by
      cases h : caB c
      · exact absurd h g3
      · rfl
    have g1 : b.scenes.length ≤ 40 := by omega
    have g2 : c.pr.th.length ≤ 40 := by omega
    have g4 : c.cuts ≤ 20 := by omega
    have hform : ∀ i : Int, ∃ X Y Z : Int, bestV b p i = .tuple #[.int .i64 X, .int .i64 Y, .int .i64 Z] := fun i => by
      rcases best_cases b p i with ⟨E, _, h⟩ | ⟨_, l, r, _, _, _, _, _, _, _, h⟩
      · exact ⟨_, _, _, h⟩
      · exact ⟨_, _, _, h⟩
    rcases best_cases b p i1 with ⟨E, hE, hbv1⟩ | ⟨s, l1, r1, hok, -, -, ha1, ha2, -, -, hbv1⟩
    · obtain ⟨X, Y, Z, hbv2⟩ := hform i2
      exact s_no1 b sa sc p i1 i2 hp1 c sb cb ln n1 n2 hln hn1 hn2 hl hlc g1 g2 g3 g4 g5 g6 E X Y Z hE hbv1 hbv2 u hS hC hT
    · rcases best_cases b p i2 with ⟨E, hE, hbv2⟩ | ⟨s', l2, r2, -, -, -, ha3, ha4, -, -, hbv2⟩
      · exact s_no2 b sa sc p i1 i2 hp1 c sb cb ln n1 n2 hln hn1 hn2 hl hlc g1 g2 g3 g4 g5 g6 E _ _ hE hbv1 hbv2 u hS hC hT
      · have hV := (okBar_iff b).1 hok
        have hs2 := hV.s2; have hp1' := hV.p1; have hp2' := hV.p2
        obtain ⟨low, hlow⟩ : ∃ low, min (((r1 : Nat) : Int) - ((l1 : Nat) : Int)) (((r2 : Nat) : Int) - ((l2 : Nat) : Int)) * b.pitch = low := ⟨_, rfl⟩
        obtain ⟨high, hhigh⟩ : ∃ high, max (((r1 : Nat) : Int) - ((l1 : Nat) : Int)) (((r2 : Nat) : Int) - ((l2 : Nat) : Int)) * b.pitch = high := ⟨_, rfl⟩
        have hlo : 1 ≤ low ∧ low ≤ 16000 := by rw [← hlow]; exact mul_bdW (by omega) (by omega) hp1' hp2'
        have hhi : 1 ≤ high ∧ high ≤ 16000 := by rw [← hhigh]; exact mul_bdW (by omega) (by omega) hp1' hp2'
        have hle : low ≤ high := by
          rw [← hlow, ← hhigh]
          exact Int.mul_le_mul_of_nonneg_right (by omega) (by omega)
        obtain ⟨f, hf9⟩ : ∃ f, 1 + ((ln : Nat) : Int) % 50000 = f := ⟨_, rfl⟩
        obtain ⟨z1, hz1⟩ : ∃ z, 2000 + ((n1 : Nat) : Int) % 16775217 = z := ⟨_, rfl⟩
        obtain ⟨z2, hz2⟩ : ∃ z, 2000 + ((n2 : Nat) : Int) % 16775217 = z := ⟨_, rfl⟩
        cases hI1 : spI f high z1 z2 with
        | false => exact s_c b sa sc p i1 i2 hp1 c sb cb ln n1 n2 hln hn1 hn2 hl hlc g1 g2 g3 g4 g5 g6 l1 r1 l2 r2 low high f z1 z2 hok ha1 ha2 ha3 ha4 hbv1 hbv2 hlow hhigh hlo hhi hf9 hz1 hz2 _ rfl hI1 u hS hC hT
        | true =>
          by_cases hw1 : spW c f high 0 z1 z2 = 1
          · exact s_d1 b sa sc p i1 i2 hp1 c sb cb ln n1 n2 hln hn1 hn2 hl hlc g1 g2 g3 g4 g5 g6 l1 r1 l2 r2 low high f z1 z2 hok ha1 ha2 ha3 ha4 hbv1 hbv2 hlow hhigh hlo hhi hf9 hz1 hz2 hw1 hI1 u hS hC hT
          · by_cases hw2 : spW c f high 0 z1 z2 = 2
            · exact s_d2 b sa sc p i1 i2 hp1 c sb cb ln n1 n2 hln hn1 hn2 hl hlc g1 g2 g3 g4 g5 g6 l1 r1 l2 r2 low high f z1 z2 hok ha1 ha2 ha3 ha4 hbv1 hbv2 hlow hhigh hlo hhi hf9 hz1 hz2 hw2 hI1 u hS hC hT
            · have hI := hI1
              unfold spI at hI
              rw [Bool.and_eq_true, Bool.and_eq_true, decide_eq_true_eq, decide_eq_true_eq, decide_eq_true_eq] at hI
              obtain ⟨⟨hb, hx1⟩, hx2⟩ := hI
              have hf0 : 0 ≤ f := by omega
              have m1 := base_mono (z := z1) hf0 (by omega) hle
              have m2 := base_mono (z := z2) hf0 (by omega) hle
              obtain ⟨hI2, hWl⟩ := sp_yes (c := c) (f := f) (base := low) (more := 1) (z1 := z1) (z2 := z2) (by omega) (by omega) (by omega)
              obtain ⟨-, hWh⟩ := sp_yes (c := c) (f := f) (base := high) (more := 0) (z1 := z1) (z2 := z2) hb hx1 hx2
              rw [hWh] at hw1 hw2
              obtain ⟨hw3, hw4⟩ := sp_narrow (c := c) hf0 (by omega) hle (show 2000 ≤ z1 ∧ z1 ≤ 16777216 by omega) (show 2000 ≤ z2 ∧ z2 ≤ 16777216 by omega) hx1 hx2 hw1 hw2
              exact s_e b sa sc p i1 i2 hp1 c sb cb ln n1 n2 hln hn1 hn2 hl hlc g1 g2 g3 g4 g5 g6 l1 r1 l2 r2 low high f z1 z2 hok ha1 ha2 ha3 ha4 hbv1 hbv2 hlow hhigh hlo hhi hf9 hz1 hz2 _ _ hWh hI1 hw1 hw2 hWl hI2 hw3 hw4 u hS hC hT
end Go.Proofs.YtccpgpnekoncoaaGreatDoor

namespace Go.Proofs.YtccpgpnekoncoaaGreatDoor
open Go Go.Sy Go.PaiM Go.BarM Go.ChangeShapes Go.WideShapes Go.Deep Go.RowKit
theorem hsCA : Tryz.prog.underlying 51 = some (.struct (Tryz.prog.fieldsOf 51)) := by kernel_rfl
theorem fsCA : (Tryz.prog.fieldsOf 51).map (fun f => (f.offset, f.type)) = #[(0, 38), (8, 3), (9, 3), (10, 3), (11, 35), (13, 3), (14, 3), (15, 3), (16, 3)] := by kernel_rfl
theorem hsPR : Tryz.prog.underlying 38 = some (.struct (Tryz.prog.fieldsOf 38)) := by kernel_rfl
theorem fsPR : (Tryz.prog.fieldsOf 38).map (fun f => (f.offset, f.type)) = #[(0, 35), (2, 35), (4, 3), (5, 3), (6, 3), (7, 36)] := by kernel_rfl
theorem coCA : Tryz.prog.cellsOf 51 = 17 := by kernel_rfl
theorem coPR : Tryz.prog.cellsOf 38 = 8 := by kernel_rfl
theorem coSP : Tryz.prog.cellsOf 35 = 2 := by kernel_rfl
theorem coSL : Tryz.prog.cellsOf 36 = 1 := by kernel_rfl
theorem co3 : Tryz.prog.cellsOf 3 = 1 := by kernel_rfl
theorem unSL : Tryz.prog.underlying 36 = some (.slice 46) := by kernel_rfl
theorem unU32 : Tryz.prog.underlying 26 = some (.int .u32) := by kernel_rfl
theorem fkTH : flK Tryz.prog .i64 9 46 = some 9 := by kernel_rfl
theorem fkSP : flK Tryz.prog .i64 9 35 = some 2 := by kernel_rfl
theorem wf32 {a : Int} (h : wfI .u32 a) : 0 ≤ a ∧ a ≤ 4294967295 := by
  unfold wfI at h
  simp only [Lit.wf, Bool.and_eq_true, decide_eq_true_eq] at h
  have h8 : IntKind.u32.min = 0 := by decide
  have h9 : IntKind.u32.max = 4294967295 := by decide
  rw [h8, h9] at h; exact h
def toTh (p : List Int) : ThD := match p with
  | [x0, x1, x2, x3, x4, x5, x6, x7, x8] => ⟨(x0, x1), (x2, x3), (x4, x5), (x6, x7), x8⟩
  | _ => ⟨(0, 0), (0, 0), (0, 0), (0, 0), 0⟩
theorem toTh_enc {p : List Int} (h : p.length = 9) : thC (toTh p) = p.map (Value.int .i64) := by
  match p, h with
  | [x0, x1, x2, x3, x4, x5, x6, x7, x8], _ => rfl
theorem thAt_flat {W : World} {sa : Option Addr} {l : List (List Int)} (hf : ∀ p ∈ l, thC (toTh p) = p.map (Value.int .i64)) (h : FlatAt W .i64 sa 9 l) : ThAt W sa (l.map toTh) := fun i s hi => by
  rw [List.getElem?_map] at hi
  cases hp : l[i]? with
  | none => rw [hp] at hi; cases hi
  | some p =>
    rw [hp] at hi
    cases hi
    obtain ⟨blk, off, c, T, fr, h1, h2, h3⟩ := h i p hp
    exact ⟨blk, off, c, T, fr, h1, h2, by rw [hf p (List.mem_of_getElem? hp)]; exact h3⟩
theorem len17 {l : List Value} (h : l.length = 17) : ∃ c0 c1 c2 c3 c4 c5 c6 c7 c8 c9 d0 d1 d2 d3 d4 d5 d6, l = [c0, c1, c2, c3, c4, c5, c6, c7, c8, c9, d0, d1, d2, d3, d4, d5, d6] := by
  match l, h with
  | [c0, c1, c2, c3, c4, c5, c6, c7, c8, c9, d0, d1, d2, d3, d4, d5, d6], _ => exact ⟨c0, c1, c2, c3, c4, c5, c6, c7, c8, c9, d0, d1, d2, d3, d4, d5, d6, rfl⟩
theorem two2 {p : List Int} {v w : Value} (h : p.length = 2) (e : [v, w] = p.map (Value.int .i64)) : ∃ x y, v = .int .i64 x ∧ w = .int .i64 y := by
  match p, h with
  | [x, y], _ =>
    have e : [v, w] = [.int .i64 x, .int .i64 y] := e
    simp only [List.cons.injEq, and_true] at e
    exact ⟨x, y, e.1, e.2⟩
section
variable {H : Type} {enc : TypeId × Value → H} {W : World} {base : Nat} {spare : Nat → Bool} {held : Bool}
set_option maxRecDepth 100000 in
theorem openCard {r : Reach} {b0 : Nat} {v : Value} {d : DataW H} {p : List MemPlace} (hv : Value.okWide Tryz.prog W r b0 51 v) (h : DataW.Trod enc Tryz.prog W base spare held 51 v d p) : ∃ (c : CaD) (sa : Option Addr) (cp : Nat), v = .agg (caA c sa cp) ∧ ThAt W sa c.pr.th ∧ c.pr.th.length ≤ 9223372036854775807 := by
  obtain ⟨cs, rfl, hsz⟩ := okWide_struct hsCA hv
  obtain ⟨fuel, h⟩ := h
  obtain ⟨_, hf⟩ := trod_field hsCA h
  rw [fsCA] at hf
  rw [coCA] at hsz
  obtain ⟨l, rfl⟩ : ∃ l : List Value, cs = l.toArray := ⟨cs.toList, by simp⟩
  obtain ⟨c0, c1, c2, c3, c4, c5, c6, c7, c8, c9, d0, d1, d2, d3, d4, d5, d6, rfl⟩ := len17 (by simpa using hsz)
  replace hf : ∀ (i o : Nat) (u : TypeId) (c : Nat), (#[(0, 38), (8, 3), (9, 3), (10, 3), (11, 35), (13, 3), (14, 3), (15, 3), (16, 3)] : Array (Nat × TypeId))[i]? = some (o, u) → Tryz.prog.cellsOf u = c → ∃ n y, DataW.trod enc Tryz.prog W base spare held n u (([c0, c1, c2, c3, c4, c5, c6, c7, c8, c9, d0, d1, d2, d3, d4, d5, d6].drop o).take c) = some y := hf
  obtain ⟨_, _, g0⟩ := hf 0 0 38 8 rfl coPR
  obtain ⟨_, _, g1⟩ := hf 1 8 3 1 rfl co3
  obtain ⟨_, _, g2⟩ := hf 2 9 3 1 rfl co3
  obtain ⟨_, _, g3⟩ := hf 3 10 3 1 rfl co3
  obtain ⟨_, _, g4⟩ := hf 4 11 35 2 rfl coSP
  obtain ⟨_, _, g5⟩ := hf 5 13 3 1 rfl co3
  obtain ⟨_, _, g6⟩ := hf 6 14 3 1 rfl co3
  obtain ⟨_, _, g7⟩ := hf 7 15 3 1 rfl co3
  obtain ⟨_, _, g8⟩ := hf 8 16 3 1 rfl co3
  clear hf
  obtain ⟨m1, e1, _, _⟩ := DataW.trod_int Tryz.un_3 g1
  obtain ⟨m2, e2, _, _⟩ := DataW.trod_int Tryz.un_3 g2
  obtain ⟨m3, e3, _, _⟩ := DataW.trod_int Tryz.un_3 g3
  obtain ⟨p4, l4, e4, _⟩ := trod_fl fkSP g4
  obtain ⟨m5, e5, _, _⟩ := DataW.trod_int Tryz.un_3 g5
  obtain ⟨m6, e6, _, _⟩ := DataW.trod_int Tryz.un_3 g6
  obtain ⟨m7, e7, _, _⟩ := DataW.trod_int Tryz.un_3 g7
  obtain ⟨m8, e8, _, _⟩ := DataW.trod_int Tryz.un_3 g8
  obtain ⟨x4, y4, z4a, z4b⟩ := two2 l4 (show [d1, d2] = _ from e4)
  simp at e1 e2 e3 e5 e6 e7 e8
  subst e1 e2 e3 e5 e6 e7 e8 z4a z4b
  clear g1 g2 g3 g4 g5 g6 g7 g8 e4
  replace g0 : DataW.trod enc Tryz.prog W base spare held _ 38 [c0, c1, c2, c3, c4, c5, c6, c7] = some _ := g0
  obtain ⟨_, hg⟩ := trod_field hsPR g0
  rw [fsPR] at hg
  replace hg : ∀ (i o : Nat) (u : TypeId) (c : Nat), (#[(0, 35), (2, 35), (4, 3), (5, 3), (6, 3), (7, 36)] : Array (Nat × TypeId))[i]? = some (o, u) → Tryz.prog.cellsOf u = c → ∃ n y, DataW.trod enc Tryz.prog W base spare held n u (([c0, c1, c2, c3, c4, c5, c6, c7].drop o).take c) = some y := hg
  obtain ⟨_, _, k0⟩ := hg 0 0 35 2 rfl coSP
  obtain ⟨_, _, k1⟩ := hg 1 2 35 2 rfl coSP
  obtain ⟨_, _, k2⟩ := hg 2 4 3 1 rfl co3
  obtain ⟨_, _, k3⟩ := hg 3 5 3 1 rfl co3
  obtain ⟨_, _, k4⟩ := hg 4 6 3 1 rfl co3
  obtain ⟨_, _, k5⟩ := hg 5 7 36 1 rfl coSL
  clear hg
  obtain ⟨p0, l0, e0, _⟩ := trod_fl fkSP k0
  obtain ⟨p1, l1, e1, _⟩ := trod_fl fkSP k1
  obtain ⟨n2, e2, _, _⟩ := DataW.trod_int Tryz.un_3 k2
  obtain ⟨n3, e3, _, _⟩ := DataW.trod_int Tryz.un_3 k3
  obtain ⟨n4, e4, _, _⟩ := DataW.trod_int Tryz.un_3 k4
  obtain ⟨q1, s1, a1, e5, b1, b2, f1⟩ := trod_slices unSL fkTH (by omega) k5
  obtain ⟨x0, y0, z0a, z0b⟩ := two2 l0 (show [c0, c1] = _ from e0)
  obtain ⟨x1, y1, z1a, z1b⟩ := two2 l1 (show [c2, c3] = _ from e1)
  simp at e2 e3 e4 e5
  subst e2 e3 e4 e5 z0a z0b z1a z1b
  refine ⟨⟨⟨(x0, y0), (x1, y1), n2, n3, n4, q1.map toTh⟩, m1, m2, m3, (x4, y4), m5, m6, m7, m8⟩, s1, a1, by simp, thAt_flat (fun p hp => toTh_enc (b2 p hp).1) f1, by simp only [List.length_map]; exact Nat.le_trans b1 (by decide)⟩
end
theorem hsBA : Tryz.prog.underlying 24 = some (.struct (Tryz.prog.fieldsOf 24)) := by kernel_rfl
theorem fsBA : (Tryz.prog.fieldsOf 24).map (fun f => (f.offset, f.type)) = #[(0, 3), (1, 3), (2, 3), (3, 3), (4, 22)] := by kernel_rfl
theorem coBA : Tryz.prog.cellsOf 24 = 5 := by kernel_rfl
theorem coSCL : Tryz.prog.cellsOf 22 = 1 := by kernel_rfl
theorem unSCL : Tryz.prog.underlying 22 = some (.slice 33) := by kernel_rfl
theorem fkSCT : flK Tryz.prog .i64 9 33 = some 3 := by kernel_rfl
theorem unU16 : Tryz.prog.underlying 25 = some (.int .u16) := by kernel_rfl
def toSc (p : List Int) : Scn := match p with
  | [x, y, z] => ⟨x, y, z⟩
  | _ => ⟨0, 0, 0⟩
theorem scAt_flat {W : World} {sa : Option Addr} {l : List (List Int)} (hl : ∀ p ∈ l, p.length = 3) (h : FlatAt W .i64 sa 3 l) : ScAt W sa (l.map toSc) := fun i s hi => by
  rw [List.getElem?_map] at hi
  cases hp : l[i]? with
  | none => rw [hp] at hi; cases hi
  | some p =>
    rw [hp] at hi
    cases hi
    obtain ⟨blk, off, c, T, fr, h1, h2, h3⟩ := h i p hp
    refine ⟨blk, off, c, T, fr, h1, h2, ?_⟩
    rw [h3]
    match p, hl p (List.mem_of_getElem? hp) with
    | [x, y, z], _ => rfl
theorem len5 {l : List Value} (h : l.length = 5) : ∃ c0 c1 c2 c3 c4, l = [c0, c1, c2, c3, c4] := by
  match l, h with
  | [c0, c1, c2, c3, c4], _ => exact ⟨c0, c1, c2, c3, c4, rfl⟩
section
variable {H : Type} {enc : TypeId × Value → H} {W : World} {base : Nat} {spare : Nat → Bool} {held : Bool}
set_option maxRecDepth 100000 in
theorem openBar {r : Reach} {b0 : Nat} {v : Value} {d : DataW H} {p : List MemPlace} (hv : Value.okWide Tryz.prog W r b0 24 v) (h : DataW.Trod enc Tryz.prog W base spare held 24 v d p) : ∃ b sa sc, v = barV b sa sc ∧ ScAt W sa b.scenes ∧ b.scenes.length ≤ 9223372036854775807 := by
  obtain ⟨cs, rfl, hsz⟩ := okWide_struct hsBA hv
  obtain ⟨fuel, h⟩ := h
  obtain ⟨_, hf⟩ := trod_field hsBA h
  rw [fsBA] at hf
  rw [coBA] at hsz
  obtain ⟨l, rfl⟩ : ∃ l : List Value, cs = l.toArray := ⟨cs.toList, by simp⟩
  obtain ⟨c0, c1, c2, c3, c4, rfl⟩ := len5 (by simpa using hsz)
  replace hf : ∀ (i o : Nat) (u : TypeId) (c : Nat), (#[(0, 3), (1, 3), (2, 3), (3, 3), (4, 22)] : Array (Nat × TypeId))[i]? = some (o, u) → Tryz.prog.cellsOf u = c → ∃ n y, DataW.trod enc Tryz.prog W base spare held n u (([c0, c1, c2, c3, c4].drop o).take c) = some y := hf
  obtain ⟨_, _, g0⟩ := hf 0 0 3 1 rfl co3
  obtain ⟨_, _, g1⟩ := hf 1 1 3 1 rfl co3
  obtain ⟨_, _, g2⟩ := hf 2 2 3 1 rfl co3
  obtain ⟨_, _, g3⟩ := hf 3 3 3 1 rfl co3
  obtain ⟨_, _, g4⟩ := hf 4 4 22 1 rfl coSCL
  obtain ⟨m0, e0, _, _⟩ := DataW.trod_int Tryz.un_3 g0
  obtain ⟨m1, e1, _, _⟩ := DataW.trod_int Tryz.un_3 g1
  obtain ⟨m2, e2, _, _⟩ := DataW.trod_int Tryz.un_3 g2
  obtain ⟨m3, e3, _, _⟩ := DataW.trod_int Tryz.un_3 g3
  obtain ⟨q1, s1, a1, e4, b1, b2, f1⟩ := trod_slices unSCL fkSCT (by omega) g4
  simp at e0 e1 e2 e3 e4
  subst e0 e1 e2 e3 e4
  refine ⟨⟨m0, m1, m2, m3, q1.map toSc⟩, s1, a1, by simp, scAt_flat (fun p hp => (b2 p hp).1) f1, by simp only [List.length_map]; exact Nat.le_trans b1 (by decide)⟩
end
theorem gn1 : Tryz.prog.globalNamed "math/bits.deBruijn64tab" = some 1 := by kernel_rfl
theorem gt1 : (Tryz.prog.globals[1]?).map (·.type) = some 190 := by kernel_rfl
theorem untab : Tryz.prog.underlying 190 = some (.array 64 5) := by kernel_rfl
theorem un5 : Tryz.prog.underlying 5 = some (.int .u8) := by kernel_rfl
theorem co5 : Tryz.prog.cellsOf 5 = 1 := by kernel_rfl
theorem tab_data : (Rows.laid_math_bits_deBruijn64tab : DataW Unit) = .agg (Lib.deBruijn64tab.map fun (k : Nat) => .lit (.int .u8 (k : Int))) := by kernel_rfl
theorem tab_len : Lib.deBruijn64tab.length = 64 := by kernel_rfl
theorem gTab_of_laid {W : World} {l : List (String × DataW Unit)} (hm : ("math/bits.deBruijn64tab", Rows.laid_math_bits_deBruijn64tab) ∈ l) (h : laidMet Tryz.prog l W) : GTab W := by
  obtain ⟨g, t, cs, fuel, p, h1, h2, h3, h4⟩ := Lib.laidMet.reads h hm
  obtain rfl : 1 = g := Option.some.inj (gn1.symm.trans h1)
  obtain rfl : 190 = t := Option.some.inj (gt1.symm.trans h2)
  rw [tab_data] at h4
  have hb : ∃ T fr, W.heap[1]? = some (.cells cs T fr) := by
    simp only [World.var?, gn1, Option.bind_some] at h3
    split at h3
    · rename_i c T fr hc
      cases h3; exact ⟨T, fr, hc⟩
    · cases h3
  obtain ⟨T, fr, hb⟩ := hb
  refine ⟨cs, T, fr, hb, fun j hj => ?_⟩
  obtain ⟨fuel', d, q, hd, ht⟩ := Lib.array_elem untab h4 j hj
  rw [co5, Nat.mul_one] at ht
  obtain ⟨n, e1, e2, _⟩ := DataW.trod_int un5 ht
  rw [List.getElem?_map] at hd
  have hjl : j < Lib.deBruijn64tab.length := by rw [tab_len]; exact hj
  rw [List.getElem?_eq_getElem hjl] at hd
  have hd := Option.some.inj hd
  have e3 : d = .lit (.int .u8 n) := congrArg Prod.fst e2
  rw [e3] at hd
  have hn : n = ((Lib.deBruijn64tab[j] : Nat) : Int) := by injection hd with hd; injection hd with _ hd; exact hd.symm
  have h5 := congrArg (·[0]?) e1
  simp only [List.getElem?_take, List.getElem?_drop, Nat.add_zero] at h5
  have h6 : cs[j]? = some (.int .u8 n) := by simpa using h5
  rw [h6, hn, List.getD_eq_getElem?_getD, List.getElem?_eq_getElem hjl]; rfl
theorem own : ownKnob Tryz.prog.godebug = none := by kernel_rfl
theorem laidWorld_met (os : Os) (args : Array Value) : laidMetH Tryz.prog Rows.topBaseRow.laid ((World.laidAll Tryz.prog os Rows.topBaseRow.laid).forCall (fun _ _ => 0) ⟨#[], args, []⟩).memory :=
  laidMetH_of_parts (laidMet_laidAll args (by kernel_rfl) (by kernel_rfl)) (by kernel_rfl)
theorem un4 : Tryz.prog.underlying 4 = some .bool := by kernel_rfl
end Go.Proofs.YtccpgpnekoncoaaGreatDoor

