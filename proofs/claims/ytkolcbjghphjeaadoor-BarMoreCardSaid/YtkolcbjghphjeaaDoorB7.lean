/- The program's iterator of pairs, walked. -/
import Derived.Test.YtkolcbjghphjeaaDoorB6
import Derived.Test.YtkolcbjghphjeaaDoorM3
namespace Go.Proofs.YtkolcbjghphjeaaDoor
open Go Go.Sy Go.BarM
theorem c42 (bp p i : Nat) (u : World) : Calls Tryd.prog 42 #[ptr bp 0, .int .u64 p, .int .i64 i] u
    (Ret fun v w' => ∃ B1 B2 B3, v = .func (.func 62) #[] #[ptr B1 0, ptr B2 0, ptr B3 0] ∧ Hp u [] [(B2, .cells #[.int .i64 i] 3), (B3, .cells #[.int .u64 p] 56), (B1, .cells #[ptr bp 0] 50)] w') := by
  refine calls_of Tryd.func42 rfl rfl (fun a hf => ?_)
  have hh := Hp.init u []
  refine sy_seq ?_
  refine sy_ops ?_
  refine ops_box hf hh rfl (.inl rfl) rfl ?_; clear hf hh; clear a; intro B3 a w hf hh
  refine ops_box hf hh rfl (.inl rfl) rfl ?_; clear hf hh; clear a; intro B4 a w hf hh
  refine ops_box hf hh rfl (.inl rfl) rfl ?_; clear hf hh; clear a; intro B5 a w hf hh
  refine ops_v hf hh (yv_assign rfl) (.inl rfl) rfl rfl rfl ?_; clear hf; clear a; intro a hf
  refine ops_end ?_
  refine then_n ?_
  refine sy_seq ?_
  refine sy_ops ?_
  refine ops_v hf hh (yv_makeFunc rfl rfl) (.inl rfl) rfl rfl rfl ?_; clear hf; clear a; intro a hf
  refine ops_v hf hh (yv_assign rfl) (.inl rfl) rfl rfl rfl ?_; clear hf; clear a; intro a hf
  refine ops_end ?_
  refine then_n ?_
  refine sy_ret ?_
  refine ret_r hf rfl rfl ?_
  exact ⟨B3, B5, B4, rfl, hh⟩
/-- What the iterator of pairs looks at. -/
def MemP (b : BarD) (sa : Option Addr) (sc bp bm p i B1 B2 B3 : Nat) (w : World) : Prop :=
  w.heap[B1]? = some (.cells #[ptr bp 0] 50 (0, 0)) ∧ w.heap[B2]? = some (.cells #[.int .i64 i] 3 (0, 0)) ∧ w.heap[B3]? = some (.cells #[.int .u64 p] 56 (0, 0)) ∧ BarO w b sa sc bp bm ∧ ScAt w sa b.scenes ∧ GTab w
def tw (x : Nat × Nat × Nat) : Array Value := #[.agg #[.int .i64 x.1, .int .i64 x.2.1, .int .i64 x.2.2]]
/-- The pairs of slots by which a plan takes a scene, in the program's order. -/
def pairsP (b : BarD) (p : Nat) (s : Scn) : List (Nat × Nat × Nat) := restD p s (hiS b s).toNat (loS b s).toNat
theorem at_done {L D R : List (Nat × Nat × Nat)} {x : Nat × Nat × Nat} (h : L = D ++ x :: R) : (L.map tw)[D.length]? = some (tw x) := by
  subst h; simp
theorem it62 (b : BarD) (sa : Option Addr) (sc bp bm p i B1 B2 B3 : Nat) (s : Scn) (hV : Valid b) (hs : b.scenes[i]? = some s) (hp : p < 65536) :
    IterSpec Tryd.prog 62 #[] #[ptr B1 0, ptr B2 0, ptr B3 0] ((pairsP b p s).map tw) (MemP b sa sc bp bm p i B1 B2 B3) := by
  intro l J K u hJM hJe hKe hy hJ0
  have hil := len_of hs
  have hn := hV.n
  have hO := hV.sc s (List.mem_of_getElem? hs)
  have hlb := loS_bd hV hO
  have hhb := hiS_bd hV hO
  have hs2 := hV.s2
  have hle2 := @Nat.and_le_left p
  obtain ⟨blk, off, _, _, _, e, _, _⟩ := (hJM _ _ hJ0).2.2.2.2.1 i s hs; subst e
  show Calls Tryd.prog 62 #[.func (.yield l) #[] #[], ptr B1 0, ptr B2 0, ptr B3 0] u _
  refine calls_of Tryd.func62 rfl rfl (fun a hf => ?_)
  have hh := Hp.init u []
  obtain ⟨m1, m2, m3, ⟨cs, hb, hcs⟩, hS, hT⟩ := hJM _ _ hJ0
  obtain ⟨blk', off', c, T, fr, e, hbs, hc⟩ := hS i s hs; cases e
  have c4 := hcs.c4
  have hlo : cs[0 + 5 + ((i : Nat) : Int).toNat * 2 + (0 : Int).toNat * 1]? = some (.int .i64 (loS b s)) := by simpa using hcs.lo i s hil hs
  have hhi : cs[0 + 5 + ((i : Nat) : Int).toNat * 2 + (1 : Int).toNat * 1]? = some (.int .i64 (hiS b s)) := by simpa using hcs.hi i s hil hs
  have hcalm : c[off + ((i : Nat) : Int).toNat * 3 + 2]? = some (.int .i64 s.calm) := by simpa using (cellsAt_get 3 _ _ hc).2 2 _ rfl
  have hh := Hp.init u []
  refine sy_seq ?_
  refine sy_quiet (C := Hp _ _ _) Tryd.follows (by kernel_rfl) (hh.drawn _) ?_
  refine q_v hf (yv_load Tryd.sc_50 rfl (fun _ h => by first | exact h.at (i := 0) rfl | exact h.old m1 | exact h.old m2 | exact h.old m3 | exact h.old hb | exact h.old hbs) (by first | rfl | assumption)) (.inl rfl) rfl rfl ?_; clear hf; clear a; intro a hf
  refine q_v hf (yv_load Tryd.sc_3 rfl (fun _ h => by first | exact h.at (i := 0) rfl | exact h.old m1 | exact h.old m2 | exact h.old m3 | exact h.old hb | exact h.old hbs) (by first | rfl | assumption)) (.inl rfl) rfl rfl ?_; clear hf; clear a; intro a hf
  refine q_v hf (yv_nilCheck rfl) (.inl rfl) rfl rfl ?_; clear hf; clear a; intro a hf
  refine q_v hf (yv_fieldAddr Tryd.fo_90_1 rfl) (.inl rfl) rfl rfl ?_; clear hf; clear a; intro a hf
  refine q_v hf (yv_indexArr Tryd.ae_87 rfl rfl (by omega) (by omega)) (.inl rfl) rfl rfl ?_; clear hf; clear a; intro a hf
  refine q_v hf (yv_indexArr Tryd.ae_86 rfl rfl (by omega) (by omega)) (.inl rfl) rfl rfl ?_; clear hf; clear a; intro a hf
  refine q_v hf (yv_load Tryd.sc_3 rfl (fun _ h => by first | exact h.at (i := 0) rfl | exact h.old m1 | exact h.old m2 | exact h.old m3 | exact h.old hb | exact h.old hbs) (by first | rfl | assumption)) (.inl rfl) rfl rfl ?_; clear hf; clear a; intro a hf
  refine q_v hf (yv_assign rfl) (.inl rfl) rfl rfl ?_; clear hf; clear a; intro a hf
  refine q_end fun w hh => ?_
  refine then_n ?_
  refine sy_block ?_
  refine sy_loopH (σ := Nat) [5, 6, 7, 8, 16, 17, 18, 19, 20, 21, 22, 23, 24, 25, 26, 27, 28, 29, 30, 31, 32, 33, 34, 35, 36, 37, 38, 39, 40, 41, 42, 43, 44, 45, 46, 47, 48, 49, 50, 51, 52, 53, 54, 55, 56, 57, 58, 59, 60, 61, 62, 63, 64, 65, 66, 67] (fun d => [(5, .int .i64 d)]) (fun d => fun w' => (1 ≤ d ∧ d ≤ 20001) ∧ ∃ done, pairsP b p s = done ++ restD p s (hiS b s).toNat d ∧ J done.length w') (fun d => 20002 - d) ((loS b s).toNat) hf ?_ ?_ ?_
  · exact ⟨congrArg (fun z => some (Value.int IntKind.i64 z)) (Int.toNat_of_nonneg (by omega)).symm, True.intro⟩
  · exact ⟨by omega, [], rfl, hJe _ _ _ hJ0 hh.ext⟩
  · rintro d a w ⟨⟨hd1, hd2⟩, done, hx, hJ⟩ hf
    obtain ⟨m1, m2, m3, ⟨cs, hb, hcs⟩, hS, hT⟩ := hJM _ _ hJ
    obtain ⟨blk', off', c, T, fr, e, hbs, hc⟩ := hS i s hs; cases e
    have c4 := hcs.c4
    have hlo : cs[0 + 5 + ((i : Nat) : Int).toNat * 2 + (0 : Int).toNat * 1]? = some (.int .i64 (loS b s)) := by simpa using hcs.lo i s hil hs
    have hhi : cs[0 + 5 + ((i : Nat) : Int).toNat * 2 + (1 : Int).toNat * 1]? = some (.int .i64 (hiS b s)) := by simpa using hcs.hi i s hil hs
    have hcalm : c[off + ((i : Nat) : Int).toNat * 3 + 2]? = some (.int .i64 s.calm) := by simpa using (cellsAt_get 3 _ _ hc).2 2 _ rfl
    have hh := Hp.init w []
    refine sy_seq ?_
    refine sy_seq ?_
    refine sy_quiet (C := Hp _ _ _) Tryd.follows (by kernel_rfl) (hh.drawn _) ?_
    refine q_v hf (yv_move rfl) (.inl rfl) rfl rfl ?_; clear hf; clear a; intro a hf
    refine q_v hf (yv_load Tryd.sc_50 rfl (fun _ h => by first | exact h.at (i := 0) rfl | exact h.old m1 | exact h.old m2 | exact h.old m3 | exact h.old hb | exact h.old hbs) (by first | rfl | assumption)) (.inl rfl) rfl rfl ?_; clear hf; clear a; intro a hf
    refine q_v hf (yv_load Tryd.sc_3 rfl (fun _ h => by first | exact h.at (i := 0) rfl | exact h.old m1 | exact h.old m2 | exact h.old m3 | exact h.old hb | exact h.old hbs) (by first | rfl | assumption)) (.inl rfl) rfl rfl ?_; clear hf; clear a; intro a hf
    refine q_v hf (yv_nilCheck rfl) (.inl rfl) rfl rfl ?_; clear hf; clear a; intro a hf
    refine q_v hf (yv_fieldAddr Tryd.fo_90_1 rfl) (.inl rfl) rfl rfl ?_; clear hf; clear a; intro a hf
    refine q_v hf (yv_indexArr Tryd.ae_87 rfl rfl (by omega) (by omega)) (.inl rfl) rfl rfl ?_; clear hf; clear a; intro a hf
    refine q_v hf (yv_indexArr Tryd.ae_86 rfl rfl (by omega) (by omega)) (.inl rfl) rfl rfl ?_; clear hf; clear a; intro a hf
    refine q_v hf (yv_load Tryd.sc_3 rfl (fun _ h => by first | exact h.at (i := 0) rfl | exact h.old m1 | exact h.old m2 | exact h.old m3 | exact h.old hb | exact h.old hbs) (by first | rfl | assumption)) (.inl rfl) rfl rfl ?_; clear hf; clear a; intro a hf
    refine q_v hf (yv_bin rfl rfl rfl) (.inl rfl) rfl rfl ?_; clear hf; clear a; intro a hf
    refine q_end fun w hh => ?_
    refine then_n ?_
    refine sy_cond hf rfl (fun hg2 => ?_) (fun hg2 => ?_)
    · have hG2 := hg2; try simp only [gS] at hG2
      refine sy_skip ?_
      refine then_n ?_
      refine sy_seq ?_
      refine sy_block ?_
      refine sy_seq ?_
      have hshr := Nat.shiftRight_le p d
      obtain ⟨z, hz⟩ : ∃ z, z = p >>> d := ⟨_, rfl⟩
      rw [← hz] at hshr
      have hle := @Nat.and_le_left p z
      refine sy_quiet (C := Hp _ _ _) Tryd.follows (by kernel_rfl) (hh.drawn _) ?_
      refine q_v hf (yv_load Tryd.sc_56 rfl (fun _ h => by first | exact h.at (i := 0) rfl | exact h.old m1 | exact h.old m2 | exact h.old m3 | exact h.old hb | exact h.old hbs) (by first | rfl | assumption)) (.inl rfl) rfl rfl ?_; clear hf; clear a; intro a hf
      refine q_v hf (yv_load Tryd.sc_56 rfl (fun _ h => by first | exact h.at (i := 0) rfl | exact h.old m1 | exact h.old m2 | exact h.old m3 | exact h.old hb | exact h.old hbs) (by first | rfl | assumption)) (.inl rfl) rfl rfl ?_; clear hf; clear a; intro a hf
      refine q_v hf (yv_move rfl) (.inl rfl) rfl rfl ?_; clear hf; clear a; intro a hf
      refine q_v hf (yv_cast (yv_shrx (.inr rfl) rfl rfl (by omega) (by omega) (by omega)) (intv (b := ((p >>> d : Nat) : Int)) (by rw [Int.toNat_natCast, Int.toNat_natCast]))) (.inl rfl) rfl rfl ?_; clear hf; clear a; intro a hf
      refine q_v hf (yv_cast (yv_and (.inr rfl) rfl rfl (by omega) (by simp only [IntKind.top]; omega) (by rw [← hz]; omega) (by rw [← hz]; simp only [IntKind.top]; omega)) (intv (b := ((p &&& (p >>> d) : Nat) : Int)) (by rw [Int.toNat_natCast, Int.toNat_natCast]))) (.inl rfl) rfl rfl ?_; clear hf; clear a; intro a hf
      refine q_v hf (yv_assign rfl) (.inl rfl) rfl rfl ?_; clear hf; clear a; intro a hf
      refine q_end fun w hh => ?_
      refine then_n ?_
      refine sy_block ?_
      refine sy_loopH (σ := Nat) [6, 7, 8, 32, 33, 34, 35, 36, 37, 38, 39, 40, 41, 42, 43, 44, 45, 46, 47, 48, 49, 50, 51, 52, 53, 54, 55, 56, 57, 58, 59, 60, 61, 62, 63, 64, 65, 66, 67] (fun q => [(6, .int .u64 q)]) (fun q => fun w' => q < 65536 ∧ ∃ done, pairsP b p s = done ++ ((bitsOf q).filterMap (cand p s d) ++ restD p s (hiS b s).toNat (d + 1)) ∧ J done.length w') (fun q => q) (p &&& (p >>> d)) hf ?_ ?_ ?_
      · exact ⟨rfl, True.intro⟩
      · exact ⟨by rw [← hz]; omega, done, by rw [hx, restD_step p s (by omega)], hJe _ _ _ hJ hh.ext⟩
      · rintro q a w ⟨hq, done2, hx2, hJ2⟩ hf
        obtain ⟨m1, m2, m3, ⟨cs, hb, hcs⟩, hS, hT⟩ := hJM _ _ hJ2
        obtain ⟨blk', off', c, T, fr, e, hbs, hc⟩ := hS i s hs; cases e
        have c4 := hcs.c4
        have hlo : cs[0 + 5 + ((i : Nat) : Int).toNat * 2 + (0 : Int).toNat * 1]? = some (.int .i64 (loS b s)) := by simpa using hcs.lo i s hil hs
        have hhi : cs[0 + 5 + ((i : Nat) : Int).toNat * 2 + (1 : Int).toNat * 1]? = some (.int .i64 (hiS b s)) := by simpa using hcs.hi i s hil hs
        have hcalm : c[off + ((i : Nat) : Int).toNat * 3 + 2]? = some (.int .i64 s.calm) := by simpa using (cellsAt_get 3 _ _ hc).2 2 _ rfl
        have hh := Hp.init w []
        refine sy_seq ?_
        refine sy_seq ?_
        refine sy_ops ?_
        refine ops_v hf hh (yv_move rfl) (.inl rfl) rfl rfl rfl ?_; clear hf; clear a; intro a hf
        refine ops_v hf hh (yv_bin rfl rfl rfl) (.inl rfl) rfl rfl rfl ?_; clear hf; clear a; intro a hf
        refine ops_end ?_
        refine then_n ?_
        refine sy_cond hf rfl (fun hg6 => ?_) (fun hg6 => ?_)
        · have hG6 := hg6; try simp only [gS] at hG6
          refine sy_skip ?_
          refine then_n ?_
          refine sy_seq ?_
          refine sy_block ?_
          refine sy_seq ?_
          have hq0 : q ≠ 0 := by omega
          obtain ⟨ht16, _, _⟩ := ctz_bits hq0 hq
          refine sy_ops ?_
          refine ops_v hf hh (yv_move rfl) (.inl rfl) rfl rfl rfl ?_; clear hf; clear a; intro a hf
          refine ops_call hf Tryd.en_63 rfl rfl rfl (.inl rfl) rfl (c63 q hq (by omega) _ (hT.ext hh.ext (by simp))) ?_; clear hf; clear a; intro v a w hR hf
          obtain ⟨rfl, hx⟩ := hR; replace hh := hh.more hx; clear hx
          refine ops_v hf hh (yv_assign rfl) (.inl rfl) rfl rfl rfl ?_; clear hf; clear a; intro a hf
          refine ops_end ?_
          refine then_n ?_
          refine sy_seq ?_
          refine sy_ops ?_
          refine ops_v hf hh (yv_load Tryd.sc_56 rfl (fun _ h => by first | exact h.at (i := 0) rfl | exact h.old m1 | exact h.old m2 | exact h.old m3 | exact h.old hb | exact h.old hbs) (by first | rfl | assumption)) (.inl rfl) rfl rfl rfl ?_; clear hf; clear a; intro a hf
          refine ops_v hf hh (yv_move rfl) (.inl rfl) rfl rfl rfl ?_; clear hf; clear a; intro a hf
          refine ops_v hf hh (yv_move rfl) (.inl rfl) rfl rfl rfl ?_; clear hf; clear a; intro a hf
          refine ops_v hf hh (yv_move rfl) (.inl rfl) rfl rfl rfl ?_; clear hf; clear a; intro a hf
          refine ops_v hf hh (yv_cast (yv_add rfl rfl (by omega) (by omega)) (intv (b := ((Lib.ctz 64 q + d : Nat) : Int)) (by omega))) (.inl rfl) rfl rfl rfl ?_; clear hf; clear a; intro a hf
          refine ops_call hf Tryd.en_64 rfl rfl rfl (.inl rfl) rfl (c64 p (Lib.ctz 64 q) (Lib.ctz 64 q + d) _ hp (by omega) (by omega)) ?_; clear hf; clear a; intro v a w hR hf
          obtain ⟨rfl, hx⟩ := hR; replace hh := hh.more hx; clear hx
          refine ops_v hf hh (yv_assign rfl) (.inl rfl) rfl rfl rfl ?_; clear hf; clear a; intro a hf
          refine ops_end ?_
          refine then_n ?_
          refine sy_seq ?_
          refine sy_tail (C := Hp _ _ _) 19 Tryd.follows (by kernel_rfl) rfl rfl (hh.drawn _) ?_
          refine q_v hf (yv_move rfl) (.inl rfl) rfl rfl ?_; clear hf; clear a; intro a hf
          refine q_v hf (yv_load Tryd.sc_50 rfl (fun _ h => by first | exact h.at (i := 0) rfl | exact h.old m1 | exact h.old m2 | exact h.old m3 | exact h.old hb | exact h.old hbs) (by first | rfl | assumption)) (.inl rfl) rfl rfl ?_; clear hf; clear a; intro a hf
          refine q_v hf (yv_nilCheck rfl) (.inl rfl) rfl rfl ?_; clear hf; clear a; intro a hf
          refine q_v hf (yv_fieldAddr Tryd.fo_90_0 rfl) (.inl rfl) rfl rfl ?_; clear hf; clear a; intro a hf
          refine q_v hf (yv_fieldAddr Tryd.fo_24_4 rfl) (.inl rfl) rfl rfl ?_; clear hf; clear a; intro a hf
          refine q_v hf (yv_load Tryd.sc_22 rfl (fun _ h => by first | exact h.at (i := 0) rfl | exact h.old m1 | exact h.old m2 | exact h.old m3 | exact h.old hb | exact h.old hbs) (by first | rfl | assumption)) (.inl rfl) rfl rfl ?_; clear hf; clear a; intro a hf
          refine q_v hf (yv_load Tryd.sc_3 rfl (fun _ h => by first | exact h.at (i := 0) rfl | exact h.old m1 | exact h.old m2 | exact h.old m3 | exact h.old hb | exact h.old hbs) (by first | rfl | assumption)) (.inl rfl) rfl rfl ?_; clear hf; clear a; intro a hf
          refine q_v hf (yv_indexAddr Tryd.se_22 rfl rfl (by omega) (by omega)) (.inl rfl) rfl rfl ?_; clear hf; clear a; intro a hf
          refine q_v hf (yv_fieldAddr Tryd.fo_39_2 rfl) (.inl rfl) rfl rfl ?_; clear hf; clear a; intro a hf
          refine q_v hf (yv_load Tryd.sc_3 rfl (fun _ h => by first | exact h.at (i := 0) rfl | exact h.old m1 | exact h.old m2 | exact h.old m3 | exact h.old hb | exact h.old hbs) (by first | rfl | assumption)) (.inl rfl) rfl rfl ?_; clear hf; clear a; intro a hf
          refine q_v hf (yv_bin rfl rfl rfl) (.inl rfl) rfl rfl ?_; clear hf; clear a; intro a hf
          refine q_v hf (yv_move rfl) (.inl rfl) rfl rfl ?_; clear hf; clear a; intro a hf
          refine guard_splitq hf (t := 57) rfl (fun hg11 => ?_) (fun hg11 => ?_)
          · have hG11 := hg11; try simp only [gS] at hG11
            refine q_v hf (yv_move rfl) (gon rfl rfl rfl (by first | assumption | rfl | (simp; done))) rfl rfl ?_; clear hf; clear a; intro a hf
            refine q_v hf (yv_move rfl) (gon rfl rfl rfl (by first | assumption | rfl | (simp; done))) rfl rfl ?_; clear hf; clear a; intro a hf
            refine q_v hf (yv_move rfl) (gon rfl rfl rfl (by first | assumption | rfl | (simp; done))) rfl rfl ?_; clear hf; clear a; intro a hf
            refine q_v hf (yv_move rfl) (gon rfl rfl rfl (by first | assumption | rfl | (simp; done))) rfl rfl ?_; clear hf; clear a; intro a hf
            refine q_v hf (yv_move rfl) (gon rfl rfl rfl (by first | assumption | rfl | (simp; done))) rfl rfl ?_; clear hf; clear a; intro a hf
            refine q_v hf (yv_cast (yv_add rfl rfl (by omega) (by omega)) (intv (b := ((Lib.ctz 64 q + d : Nat) : Int)) (by omega))) (gon rfl rfl rfl (by first | assumption | rfl | (simp; done))) rfl rfl ?_; clear hf; clear a; intro a hf
            refine q_v hf (yv_buildS Tryd.bs_62 rfl rfl) (gon rfl rfl rfl (by first | assumption | rfl | (simp; done))) rfl rfl ?_; clear hf; clear a; intro a hf
            refine q_end fun w hh => ?_
            have hxy := next_yes (by assumption) hq0 hq hx2
            refine ops_yield hf rfl rfl (gon rfl rfl rfl (by first | assumption | rfl | (simp; done))) rfl (hy _ _ _ (at_done hxy) (hJe _ _ _ hJ2 hh.ext)) ?_; clear hf; clear a; intro v a w hR hf
            have hR2 : ∃ o : Bool, v = .bool o ∧ (o = true → J (done2.length + 1) w) ∧ (o = false → K done2.length w) := by
              rcases hR with ⟨rfl, h⟩ | ⟨rfl, h⟩
              · exact ⟨true, rfl, fun _ => h, fun h => by cases h⟩
              · exact ⟨false, rfl, (fun h => by cases h), fun _ => h⟩
            clear hR
            obtain ⟨o, rfl, ho1, ho2⟩ := hR2
            clear hh; have hh := Hp.init w []
            refine ops_v hf hh (yv_not rfl) (gon rfl rfl rfl (by first | assumption | rfl | (simp; done))) rfl rfl rfl ?_; clear hf; clear a; intro a hf
            refine ops_v hf hh (yv_pick_t rfl (by first | assumption | rfl | (simp; done)) rfl) (.inl rfl) rfl rfl rfl ?_; clear hf; clear a; intro a hf
            refine ops_end ?_
            refine then_n ?_
            refine sy_cond hf rfl (fun hg14 => ?_) (fun hg14 => ?_)
            · have hG14 := hg14; try simp only [gS] at hG14
              refine sy_ret ?_
              refine blk_r ?_
              refine then_r ?_
              refine then_r ?_
              refine blk_r ?_
              refine blk_r ?_
              refine then_r ?_
              refine then_r ?_
              refine blk_r ?_
              refine ret_r hf rfl rfl ?_
              first
                | exact .inr ⟨_, hKe _ _ _ (ho2 (by assumption)) hh.ext⟩
                | (refine .inl ?_
                   have hle : pairsP b p s = done := by rw [hx, restD_end p s (by omega), List.append_nil]
                   rw [hle, List.length_map]
                   exact hJe _ _ _ hJ hh.ext)
            · have hG14 := hg14; try simp only [gS] at hG14
              refine sy_skip ?_
              refine blk_n ?_
              refine then_n ?_
              refine sy_ops ?_
              refine ops_v hf hh (yv_move rfl) (.inl rfl) rfl rfl rfl ?_; clear hf; clear a; intro a hf
              refine ops_v hf hh (yv_move rfl) (.inl rfl) rfl rfl rfl ?_; clear hf; clear a; intro a hf
              refine ops_v hf hh (yv_cast (yv_subx (.inr rfl) rfl rfl (by omega) (by simp only [IntKind.top]; omega)) (intv (b := ((q - 1 : Nat) : Int)) (by omega))) (.inl rfl) rfl rfl rfl ?_; clear hf; clear a; intro a hf
              refine ops_v hf hh (yv_cast (yv_and (.inr rfl) rfl rfl (by omega) (by simp only [IntKind.top]; omega) (by omega) (by simp only [IntKind.top]; omega)) (intv (b := ((q &&& (q - 1) : Nat) : Int)) (by rw [Int.toNat_natCast, Int.toNat_natCast]))) (.inl rfl) rfl rfl rfl ?_; clear hf; clear a; intro a hf
              refine ops_v hf hh (yv_assign rfl) (.inl rfl) rfl rfl rfl ?_; clear hf; clear a; intro a hf
              refine ops_end ?_
              refine then_n ?_
              have hlt : q &&& (q - 1) < q := by have := @Nat.and_le_right q (q - 1); omega
              first
                | (have hxy := next_no (by omega) hq0 hq hx2
                   exact ⟨q &&& (q - 1), ⟨⟨by omega, done2, hxy, hJe _ _ _ hJ2 hh.ext⟩, hf.head ⟨rfl, True.intro⟩ (Keep.cons rfl (Keep.cons rfl (Keep.cons rfl (Keep.cons rfl (Keep.cons rfl (Keep.cons rfl (Keep.cons rfl (Keep.cons rfl (Keep.cons rfl (Keep.cons rfl (Keep.cons rfl (Keep.cons rfl (Keep.cons rfl (Keep.cons rfl (Keep.cons rfl (Keep.cons rfl (Keep.cons rfl (Keep.cons rfl (Keep.cons rfl (Keep.cons rfl (Keep.cons rfl (Keep.cons rfl (Keep.cons rfl (Keep.cons rfl (Keep.cons rfl (Keep.cons rfl (Keep.cons rfl (Keep.cons rfl (Keep.cons rfl (Keep.cons rfl (Keep.cons rfl (Keep.cons rfl (Keep.cons rfl (Keep.cons rfl (Keep.cons rfl (Keep.cons rfl (Keep.cons rfl (Keep.cons rfl (Keep.cons rfl (Keep.app rfl (Keep.rm rfl Keep.base)))))))))))))))))))))))))))))))))))))))))⟩, hlt⟩)
                | (refine ⟨q &&& (q - 1), ⟨⟨by omega, done2 ++ [(between p (Lib.ctz 64 q) (Lib.ctz 64 q + d), Lib.ctz 64 q, Lib.ctz 64 q + d)], by rw [hxy, List.append_assoc]; rfl, ?_⟩, hf.head ⟨rfl, True.intro⟩ (Keep.cons rfl (Keep.cons rfl (Keep.cons rfl (Keep.cons rfl (Keep.cons rfl (Keep.cons rfl (Keep.cons rfl (Keep.cons rfl (Keep.cons rfl (Keep.cons rfl (Keep.cons rfl (Keep.cons rfl (Keep.cons rfl (Keep.cons rfl (Keep.cons rfl (Keep.cons rfl (Keep.cons rfl (Keep.cons rfl (Keep.cons rfl (Keep.cons rfl (Keep.cons rfl (Keep.cons rfl (Keep.cons rfl (Keep.cons rfl (Keep.cons rfl (Keep.cons rfl (Keep.cons rfl (Keep.cons rfl (Keep.cons rfl (Keep.cons rfl (Keep.cons rfl (Keep.cons rfl (Keep.cons rfl (Keep.cons rfl (Keep.cons rfl (Keep.cons rfl (Keep.cons rfl (Keep.cons rfl (Keep.cons rfl (Keep.app rfl (Keep.rm rfl Keep.base)))))))))))))))))))))))))))))))))))))))))⟩, hlt⟩
                   rw [List.length_append]
                   exact hJe _ _ _ (ho1 (by assumption)) hh.ext)
          · have hG11 := hg11; try simp only [gS] at hG11
            refine q_off hf (goff rfl rfl rfl (by first | assumption | rfl | (simp; done))) rfl rfl ?_; clear hf; clear a; intro a hf
            refine q_off hf (goff rfl rfl rfl (by first | assumption | rfl | (simp; done))) rfl rfl ?_; clear hf; clear a; intro a hf
            refine q_off hf (goff rfl rfl rfl (by first | assumption | rfl | (simp; done))) rfl rfl ?_; clear hf; clear a; intro a hf
            refine q_off hf (goff rfl rfl rfl (by first | assumption | rfl | (simp; done))) rfl rfl ?_; clear hf; clear a; intro a hf
            refine q_off hf (goff rfl rfl rfl (by first | assumption | rfl | (simp; done))) rfl rfl ?_; clear hf; clear a; intro a hf
            refine q_off hf (goff rfl rfl rfl (by first | assumption | rfl | (simp; done))) rfl rfl ?_; clear hf; clear a; intro a hf
            refine q_off hf (goff rfl rfl rfl (by first | assumption | rfl | (simp; done))) rfl rfl ?_; clear hf; clear a; intro a hf
            refine q_end fun w hh => ?_
            refine ops_off hf (goff rfl rfl rfl (by first | assumption | rfl | (simp; done))) rfl rfl ?_; clear hf; clear a; intro a hf
            refine ops_off hf (goff rfl rfl rfl (by first | assumption | rfl | (simp; done))) rfl rfl ?_; clear hf; clear a; intro a hf
            refine ops_v hf hh (yv_pick_f rfl (by first | assumption | rfl | (simp; done)) rfl) (.inl rfl) rfl rfl rfl ?_; clear hf; clear a; intro a hf
            refine ops_end ?_
            refine then_n ?_
            refine sy_cf hf rfl (by first | assumption | rfl | (simp; done)) ?_
            refine sy_skip ?_
            refine blk_n ?_
            refine then_n ?_
            refine sy_ops ?_
            refine ops_v hf hh (yv_move rfl) (.inl rfl) rfl rfl rfl ?_; clear hf; clear a; intro a hf
            refine ops_v hf hh (yv_move rfl) (.inl rfl) rfl rfl rfl ?_; clear hf; clear a; intro a hf
            refine ops_v hf hh (yv_cast (yv_subx (.inr rfl) rfl rfl (by omega) (by simp only [IntKind.top]; omega)) (intv (b := ((q - 1 : Nat) : Int)) (by omega))) (.inl rfl) rfl rfl rfl ?_; clear hf; clear a; intro a hf
            refine ops_v hf hh (yv_cast (yv_and (.inr rfl) rfl rfl (by omega) (by simp only [IntKind.top]; omega) (by omega) (by simp only [IntKind.top]; omega)) (intv (b := ((q &&& (q - 1) : Nat) : Int)) (by rw [Int.toNat_natCast, Int.toNat_natCast]))) (.inl rfl) rfl rfl rfl ?_; clear hf; clear a; intro a hf
            refine ops_v hf hh (yv_assign rfl) (.inl rfl) rfl rfl rfl ?_; clear hf; clear a; intro a hf
            refine ops_end ?_
            refine then_n ?_
            have hlt : q &&& (q - 1) < q := by have := @Nat.and_le_right q (q - 1); omega
            first
              | (have hxy := next_no (by omega) hq0 hq hx2
                 exact ⟨q &&& (q - 1), ⟨⟨by omega, done2, hxy, hJe _ _ _ hJ2 hh.ext⟩, hf.head ⟨rfl, True.intro⟩ (Keep.cons rfl (Keep.cons rfl (Keep.cons rfl (Keep.cons rfl (Keep.cons rfl (Keep.cons rfl (Keep.cons rfl (Keep.cons rfl (Keep.cons rfl (Keep.cons rfl (Keep.cons rfl (Keep.cons rfl (Keep.cons rfl (Keep.cons rfl (Keep.cons rfl (Keep.cons rfl (Keep.cons rfl (Keep.cons rfl (Keep.cons rfl (Keep.cons rfl (Keep.cons rfl (Keep.cons rfl (Keep.cons rfl (Keep.cons rfl (Keep.cons rfl (Keep.cons rfl (Keep.cons rfl (Keep.cons rfl (Keep.cons rfl (Keep.cons rfl (Keep.cons rfl (Keep.cons rfl (Keep.cons rfl (Keep.cons rfl (Keep.cons rfl (Keep.cons rfl (Keep.cons rfl (Keep.cons rfl (Keep.cons rfl (Keep.app rfl (Keep.rm rfl Keep.base)))))))))))))))))))))))))))))))))))))))))⟩, hlt⟩)
              | (refine ⟨q &&& (q - 1), ⟨⟨by omega, done2 ++ [(between p (Lib.ctz 64 q) (Lib.ctz 64 q + d), Lib.ctz 64 q, Lib.ctz 64 q + d)], by rw [hxy, List.append_assoc]; rfl, ?_⟩, hf.head ⟨rfl, True.intro⟩ (Keep.cons rfl (Keep.cons rfl (Keep.cons rfl (Keep.cons rfl (Keep.cons rfl (Keep.cons rfl (Keep.cons rfl (Keep.cons rfl (Keep.cons rfl (Keep.cons rfl (Keep.cons rfl (Keep.cons rfl (Keep.cons rfl (Keep.cons rfl (Keep.cons rfl (Keep.cons rfl (Keep.cons rfl (Keep.cons rfl (Keep.cons rfl (Keep.cons rfl (Keep.cons rfl (Keep.cons rfl (Keep.cons rfl (Keep.cons rfl (Keep.cons rfl (Keep.cons rfl (Keep.cons rfl (Keep.cons rfl (Keep.cons rfl (Keep.cons rfl (Keep.cons rfl (Keep.cons rfl (Keep.cons rfl (Keep.cons rfl (Keep.cons rfl (Keep.cons rfl (Keep.cons rfl (Keep.cons rfl (Keep.cons rfl (Keep.app rfl (Keep.rm rfl Keep.base)))))))))))))))))))))))))))))))))))))))))⟩, hlt⟩
                 rw [List.length_append]
                 exact hJe _ _ _ (ho1 (by assumption)) hh.ext)
        · have hG6 := hg6; try simp only [gS] at hG6
          refine sy_exit ?_
          refine then_e ?_
          refine then_e ?_
          refine blk_e ?_
          refine blk_n ?_
          refine then_n ?_
          refine sy_ops ?_
          refine ops_v hf hh (yv_move rfl) (.inl rfl) rfl rfl rfl ?_; clear hf; clear a; intro a hf
          first | refine ops_v hf hh (yv_add rfl rfl (by omega) (by omega)) (.inl rfl) rfl rfl rfl ?_; clear hf; clear a; intro a hf | refine ops_v hf hh (yv_bin rfl rfl rfl) (.inl rfl) rfl rfl rfl ?_; clear hf; clear a; intro a hf
          refine ops_v hf hh (yv_assign rfl) (.inl rfl) rfl rfl rfl ?_; clear hf; clear a; intro a hf
          refine ops_end ?_
          refine then_n ?_
          have hq00 : q = 0 := by omega
          subst hq00
          refine ⟨d + 1, ⟨⟨⟨by omega, by omega⟩, done2, by rw [hx2, bitsOf_zero]; rfl, hJe _ _ _ hJ2 hh.ext⟩, hf.head ⟨rfl, True.intro⟩ (Keep.cons rfl (Keep.cons rfl (Keep.cons rfl (Keep.cons rfl (Keep.cons rfl (Keep.app rfl (Keep.rm rfl (Keep.cons rfl (Keep.cons rfl (Keep.cons rfl (Keep.cons rfl (Keep.cons rfl (Keep.cons rfl (Keep.cons rfl (Keep.cons rfl (Keep.cons rfl (Keep.cons rfl (Keep.cons rfl (Keep.cons rfl (Keep.cons rfl (Keep.cons rfl (Keep.cons rfl (Keep.app rfl (Keep.rm rfl Keep.base))))))))))))))))))))))))⟩, by omega⟩
    · have hG2 := hg2; try simp only [gS] at hG2
      refine sy_exit ?_
      refine then_e ?_
      refine then_e ?_
      refine blk_e ?_
      refine ret_n hf rfl rfl ?_
      first
        | exact .inr ⟨_, hKe _ _ _ (ho2 (by assumption)) hh.ext⟩
        | (refine .inl ?_
           have hle : pairsP b p s = done := by rw [hx, restD_end p s (by omega), List.append_nil]
           rw [hle, List.length_map]
           exact hJe _ _ _ hJ hh.ext)
end Go.Proofs.YtkolcbjghphjeaaDoor
