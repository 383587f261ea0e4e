/- The program's iterator of plans, and what takes a set, walked. -/
import Derived.Test.YtkolcbjghphjeaaDoorB8
import Derived.Test.YtkolcbjghphjeaaDoorE8
namespace Go.Proofs.YtkolcbjghphjeaaDoor
open Go Go.Sy Go.BarM
/-- Is a number with these many slots a plan? -/
def good (b : BarD) (m p : Nat) : Bool := decide (pc p = m) && decide (p &&& b.broken.toNat = 0)
def rowF (b : BarD) (m p : Nat) : List Nat := (List.range' p (2 ^ b.slots.toNat - p)).filter (good b m)
def topM (b : BarD) : Nat := (min b.most b.slots).toNat
def restM (b : BarD) (m : Nat) : List Nat := (List.range' m (topM b + 1 - m)).flatMap fun k => rowF b k 0
/-- All plans, in the program's order. -/
def plansL (b : BarD) : List Nat := restM b 0
theorem rowF_yes {b : BarD} {m p : Nat} (h : p < 2 ^ b.slots.toNat) (hg : good b m p = true) : rowF b m p = p :: rowF b m (p + 1) := by
  unfold rowF
  rw [show 2 ^ b.slots.toNat - p = (2 ^ b.slots.toNat - (p + 1)) + 1 by omega, List.range'_succ, List.filter_cons, if_pos hg]
theorem rowF_no {b : BarD} {m p : Nat} (h : p < 2 ^ b.slots.toNat) (hg : good b m p = false) : rowF b m p = rowF b m (p + 1) := by
  unfold rowF
  rw [show 2 ^ b.slots.toNat - p = (2 ^ b.slots.toNat - (p + 1)) + 1 by omega, List.range'_succ, List.filter_cons, if_neg (by rw [hg]; simp)]
theorem rowF_end {b : BarD} {m p : Nat} (h : 2 ^ b.slots.toNat ≤ p) : rowF b m p = [] := by
  unfold rowF; rw [show 2 ^ b.slots.toNat - p = 0 by omega]; rfl
theorem restM_step {b : BarD} {m : Nat} (h : m ≤ topM b) : restM b m = rowF b m 0 ++ restM b (m + 1) := by
  unfold restM; rw [show topM b + 1 - m = (topM b + 1 - (m + 1)) + 1 by omega, List.range'_succ, List.flatMap_cons]
theorem restM_end {b : BarD} {m : Nat} (h : topM b < m) : restM b m = [] := by
  unfold restM; rw [show topM b + 1 - m = 0 by omega]; rfl
def tq (x : Nat) : Array Value := #[.int .u64 x]
theorem at_doneq {L D R : List Nat} {x : Nat} (h : L = D ++ x :: R) : (L.map tq)[D.length]? = some (tq x) := by
  subst h; simp
theorem mem_plansL {b : BarD} (hV : Valid b) {p : Nat} : p ∈ plansL b ↔ isPlan b p = true := by
  rw [isPlan_land]
  have hs1 := hV.s1; have hm1 := hV.m1
  unfold plansL restM rowF good topM
  simp only [List.mem_flatMap, List.mem_range'_1, List.mem_filter, Bool.and_eq_true, decide_eq_true_eq]
  constructor
  · rintro ⟨k, ⟨_, h1⟩, ⟨_, h2⟩, h3, h4⟩
    exact ⟨by omega, h4, by omega⟩
  · rintro ⟨h1, h2, h3⟩
    have h4 : pc p ≤ b.slots.toNat := by
      have e := popF_eq 64 b.slots.toNat p h1 (by have := hV.s2; omega)
      have e2 := popF_le b.slots.toNat p
      unfold pc; omega
    exact ⟨pc p, by omega, by omega, rfl, h2⟩
/-- What the iterator of plans looks at. -/
def MemQ (b : BarD) (sa : Option Addr) (sc bp bm B1 : Nat) (w : World) : Prop := w.heap[B1]? = some (.cells #[ptr bp 0] 50 (0, 0)) ∧ BarO w b sa sc bp bm
theorem c47 (bp : Nat) (u : World) : Calls Tryd.prog 47 #[ptr bp 0] u (Ret fun v w' => ∃ B1, v = .func (.func 69) #[] #[ptr B1 0] ∧ Hp u [] [(B1, .cells #[ptr bp 0] 50)] w') := by
  refine calls_of Tryd.func47 rfl rfl (fun a hf => ?_)
  have hh := Hp.init u []
  refine sy_seq ?_
  refine sy_ops ?_
  refine ops_box hf hh rfl (.inl rfl) rfl ?_; clear hf hh; clear a; intro B1 a w hf hh
  refine ops_v hf hh (yv_assign rfl) (.inl rfl) rfl rfl rfl ?_; clear hf; clear a; intro a hf
  refine ops_end ?_
  refine then_n ?_
  refine sy_seq ?_
  refine sy_ops ?_
  refine ops_v hf hh (yv_makeFunc rfl rfl) (.inl rfl) rfl rfl rfl ?_; clear hf; clear a; intro a hf
  refine ops_v hf hh (yv_assign rfl) (.inl rfl) rfl rfl rfl ?_; clear hf; clear a; intro a hf
  refine ops_end ?_
  refine then_n ?_
  refine sy_ret ?_
  refine ret_r hf rfl rfl ?_
  exact ⟨B1, rfl, hh⟩
theorem c48 (bp set : Nat) (u : World) : Calls Tryd.prog 48 #[ptr bp 0, .int .u64 set] u (Ret fun v w' => ∃ Bs Bb, v = .func (.func 70) #[] #[ptr Bs 0, ptr Bb 0] ∧ Hp u [] [(Bs, .cells #[.int .u64 set] 54), (Bb, .cells #[ptr bp 0] 50)] w') := by
  refine calls_of Tryd.func48 rfl rfl (fun a hf => ?_)
  have hh := Hp.init u []
  refine sy_seq ?_
  refine sy_ops ?_
  refine ops_box hf hh rfl (.inl rfl) rfl ?_; clear hf hh; clear a; intro B2 a w hf hh
  refine ops_box hf hh rfl (.inl rfl) rfl ?_; clear hf hh; clear a; intro B3 a w hf hh
  refine ops_v hf hh (yv_assign rfl) (.inl rfl) rfl rfl rfl ?_; clear hf; clear a; intro a hf
  refine ops_end ?_
  refine then_n ?_
  refine sy_seq ?_
  refine sy_ops ?_
  refine ops_v hf hh (yv_makeFunc rfl rfl) (.inl rfl) rfl rfl rfl ?_; clear hf; clear a; intro a hf
  refine ops_v hf hh (yv_assign rfl) (.inl rfl) rfl rfl rfl ?_; clear hf; clear a; intro a hf
  refine ops_end ?_
  refine then_n ?_
  refine sy_ret ?_
  refine ret_r hf rfl rfl ?_
  exact ⟨B3, B2, rfl, hh⟩
theorem it69 (b : BarD) (sa : Option Addr) (sc bp bm B1 : Nat) (hV : Valid b) : IterSpec Tryd.prog 69 #[] #[ptr B1 0] ((plansL b).map tq) (MemQ b sa sc bp bm B1) := by
  intro l J K u hJM hJe hKe hy hJ0
  have hs1 := hV.s1; have hs2 := hV.s2; have hm1 := hV.m1; have hm2 := hV.m2; have hk1 := hV.k1; have hk2 := hV.k2
  have hpw := shl_bd hs1 hs2
  have hpw2 := cast_pow b.slots.toNat
  have htop : ((topM b : Nat) : Int) = min b.most b.slots := by unfold topM; omega
  show Calls Tryd.prog 69 #[.func (.yield l) #[] #[], ptr B1 0] u _
  refine calls_of Tryd.func69 rfl rfl (fun a hf => ?_)
  have hh := Hp.init u []
  obtain ⟨m1, ⟨cs, hb, hcs⟩⟩ := hJM _ _ hJ0
  have c0 := hcs.c0; have c2 := hcs.c2; have c3 := hcs.c3
  have hh := Hp.init u []
  refine sy_seq ?_
  refine sy_quiet (C := Hp _ _ _) Tryd.follows (by kernel_rfl) (hh.drawn _) ?_
  refine q_v hf (yv_load Tryd.sc_50 rfl (fun _ h => by first | exact h.at (i := 0) rfl | exact h.old m1 | exact h.old hb) (by first | rfl | assumption)) (.inl rfl) rfl rfl ?_; clear hf; clear a; intro a hf
  refine q_v hf (yv_nilCheck rfl) (.inl rfl) rfl rfl ?_; clear hf; clear a; intro a hf
  refine q_v hf (yv_fieldAddr Tryd.fo_90_0 rfl) (.inl rfl) rfl rfl ?_; clear hf; clear a; intro a hf
  refine q_v hf (yv_fieldAddr Tryd.fo_24_3 rfl) (.inl rfl) rfl rfl ?_; clear hf; clear a; intro a hf
  refine q_v hf (yv_load Tryd.sc_3 rfl (fun _ h => by first | exact h.at (i := 0) rfl | exact h.old m1 | exact h.old hb) (by first | rfl | assumption)) (.inl rfl) rfl rfl ?_; clear hf; clear a; intro a hf
  refine q_v hf (yv_load Tryd.sc_50 rfl (fun _ h => by first | exact h.at (i := 0) rfl | exact h.old m1 | exact h.old hb) (by first | rfl | assumption)) (.inl rfl) rfl rfl ?_; clear hf; clear a; intro a hf
  refine q_v hf (yv_nilCheck rfl) (.inl rfl) rfl rfl ?_; clear hf; clear a; intro a hf
  refine q_v hf (yv_fieldAddr Tryd.fo_90_0 rfl) (.inl rfl) rfl rfl ?_; clear hf; clear a; intro a hf
  refine q_v hf (yv_fieldAddr Tryd.fo_24_0 rfl) (.inl rfl) rfl rfl ?_; clear hf; clear a; intro a hf
  refine q_v hf (yv_load Tryd.sc_3 rfl (fun _ h => by first | exact h.at (i := 0) rfl | exact h.old m1 | exact h.old hb) (by first | rfl | assumption)) (.inl rfl) rfl rfl ?_; clear hf; clear a; intro a hf
  refine q_v hf (yv_min rfl rfl) (.inl rfl) rfl rfl ?_; clear hf; clear a; intro a hf
  first | refine q_v hf (yv_add rfl rfl (by omega) (by omega)) (.inl rfl) rfl rfl ?_; clear hf; clear a; intro a hf | refine q_v hf (yv_bin rfl rfl rfl) (.inl rfl) rfl rfl ?_; clear hf; clear a; intro a hf
  refine q_v hf (yv_move rfl) (.inl rfl) rfl rfl ?_; clear hf; clear a; intro a hf
  refine q_end fun w hh => ?_
  refine then_n ?_
  refine sy_block ?_
  refine sy_loopH (σ := Nat) [3, 4, 17, 18, 19, 20, 21, 22, 23, 24, 25, 26, 27, 28, 29, 30, 31, 32, 33, 34, 35, 36, 37, 38, 39, 40, 41, 42, 43, 44, 45, 46, 47, 48, 49, 50, 51] (fun m => [(17, .int .i64 m)]) (fun m => fun w' => m ≤ 17 ∧ ∃ done, plansL b = done ++ restM b m ∧ J done.length w') (fun m => 18 - m) (0) hf ?_ ?_ ?_
  · repeat' (first | exact True.intro | refine And.intro rfl ?_)
  · exact ⟨by omega, [], rfl, hJe _ _ _ hJ0 hh.ext⟩
  · rintro m a w ⟨hm, done, hx, hJ⟩ hf
    obtain ⟨m1, ⟨cs, hb, hcs⟩⟩ := hJM _ _ hJ
    have c0 := hcs.c0; have c2 := hcs.c2; have c3 := hcs.c3
    have hh := Hp.init w []
    refine sy_seq ?_
    refine sy_ops ?_
    refine ops_v hf hh (yv_bin rfl rfl rfl) (.inl rfl) rfl rfl rfl ?_; clear hf; clear a; intro a hf
    refine ops_end ?_
    refine then_n ?_
    refine sy_seq ?_
    refine sy_cond hf rfl (fun hg2 => ?_) (fun hg2 => ?_)
    · have hG2 := hg2; try simp only [gS] at hG2
      refine sy_skip ?_
      refine then_n ?_
      refine sy_seq ?_
      refine sy_block ?_
      refine sy_seq ?_
      refine sy_ops ?_
      refine ops_v hf hh (yv_move rfl) (.inl rfl) rfl rfl rfl ?_; clear hf; clear a; intro a hf
      refine ops_v hf hh (yv_assign rfl) (.inl rfl) rfl rfl rfl ?_; clear hf; clear a; intro a hf
      refine ops_end ?_
      refine then_n ?_
      refine sy_seq ?_
      refine sy_ops ?_
      refine ops_v hf hh (yv_assign rfl) (.inl rfl) rfl rfl rfl ?_; clear hf; clear a; intro a hf
      refine ops_end ?_
      refine then_n ?_
      refine sy_block ?_
      refine sy_loopH (σ := Nat) [4, 20, 21, 22, 23, 24, 25, 26, 27, 28, 29, 30, 31, 32, 33, 34, 35, 36, 37, 38, 39, 40, 41, 42, 43, 44, 45, 46, 47, 48, 49, 50] (fun p => [(4, .int .u64 p)]) (fun p => fun w' => p ≤ 65536 ∧ ∃ done, plansL b = done ++ (rowF b m p ++ restM b (m + 1)) ∧ J done.length w') (fun p => 65536 - p) (0) hf ?_ ?_ ?_
      · exact ⟨rfl, True.intro⟩
      · exact ⟨by omega, done, by rw [hx, restM_step (by omega)], hJe _ _ _ hJ hh.ext⟩
      · rintro p a w ⟨hp, done2, hx2, hJ2⟩ hf
        obtain ⟨m1, ⟨cs, hb, hcs⟩⟩ := hJM _ _ hJ2
        have c0 := hcs.c0; have c2 := hcs.c2; have c3 := hcs.c3
        have hh := Hp.init w []
        refine sy_seq ?_
        refine sy_seq ?_
        refine sy_ops ?_
        refine ops_v hf hh (yv_move rfl) (.inl rfl) rfl rfl rfl ?_; clear hf; clear a; intro a hf
        refine ops_v hf hh (yv_load Tryd.sc_50 rfl (fun _ h => by first | exact h.at (i := 0) rfl | exact h.old m1 | exact h.old hb) (by first | rfl | assumption)) (.inl rfl) rfl rfl rfl ?_; clear hf; clear a; intro a hf
        refine ops_v hf hh (yv_nilCheck rfl) (.inl rfl) rfl rfl rfl ?_; clear hf; clear a; intro a hf
        refine ops_v hf hh (yv_fieldAddr Tryd.fo_90_0 rfl) (.inl rfl) rfl rfl rfl ?_; clear hf; clear a; intro a hf
        refine ops_v hf hh (yv_fieldAddr Tryd.fo_24_0 rfl) (.inl rfl) rfl rfl rfl ?_; clear hf; clear a; intro a hf
        refine ops_v hf hh (yv_load Tryd.sc_3 rfl (fun _ h => by first | exact h.at (i := 0) rfl | exact h.old m1 | exact h.old hb) (by first | rfl | assumption)) (.inl rfl) rfl rfl rfl ?_; clear hf; clear a; intro a hf
        refine ops_v hf hh (yv_shl1 (.inr rfl) rfl rfl (by omega) (by omega)) (.inl rfl) rfl rfl rfl ?_; clear hf; clear a; intro a hf
        refine ops_v hf hh (yv_bin rfl rfl rfl) (.inl rfl) rfl rfl rfl ?_; clear hf; clear a; intro a hf
        refine ops_end ?_
        refine then_n ?_
        refine sy_cond hf rfl (fun hg4 => ?_) (fun hg4 => ?_)
        · have hG4 := hg4; try simp only [gS] at hG4
          refine sy_skip ?_
          refine then_n ?_
          refine sy_seq ?_
          refine sy_block ?_
          refine sy_seq ?_
          refine sy_ops ?_
          refine ops_v hf hh (yv_move rfl) (.inl rfl) rfl rfl rfl ?_; clear hf; clear a; intro a hf
          refine ops_call hf Tryd.en_53 rfl rfl rfl (.inl rfl) rfl (c53 p (by omega) _) ?_; clear hf; clear a; intro v a w hR hf
          obtain ⟨rfl, hx⟩ := hR; replace hh := hh.more hx; clear hx
          refine ops_v hf hh (yv_move rfl) (.inl rfl) rfl rfl rfl ?_; clear hf; clear a; intro a hf
          refine ops_v hf hh (yv_bin rfl rfl rfl) (.inl rfl) rfl rfl rfl ?_; clear hf; clear a; intro a hf
          refine ops_v hf hh (yv_move rfl) (.inl rfl) rfl rfl rfl ?_; clear hf; clear a; intro a hf
          refine guard_split hf (t := 34) rfl (fun hg7 => ?_) (fun hg7 => ?_)
          · have hG7 := hg7; try simp only [gS] at hG7
            refine ops_v hf hh (yv_move rfl) (gon rfl rfl rfl (by first | assumption | rfl | (simp; done))) rfl rfl rfl ?_; clear hf; clear a; intro a hf
            refine ops_v hf hh (yv_load Tryd.sc_50 rfl (fun _ h => by first | exact h.at (i := 0) rfl | exact h.old m1 | exact h.old hb) (by first | rfl | assumption)) (gon rfl rfl rfl (by first | assumption | rfl | (simp; done))) rfl rfl rfl ?_; clear hf; clear a; intro a hf
            refine ops_v hf hh (yv_nilCheck rfl) (gon rfl rfl rfl (by first | assumption | rfl | (simp; done))) rfl rfl rfl ?_; clear hf; clear a; intro a hf
            refine ops_v hf hh (yv_fieldAddr Tryd.fo_90_0 rfl) (gon rfl rfl rfl (by first | assumption | rfl | (simp; done))) rfl rfl rfl ?_; clear hf; clear a; intro a hf
            refine ops_v hf hh (yv_fieldAddr Tryd.fo_24_2 rfl) (gon rfl rfl rfl (by first | assumption | rfl | (simp; done))) rfl rfl rfl ?_; clear hf; clear a; intro a hf
            refine ops_v hf hh (yv_load Tryd.sc_3 rfl (fun _ h => by first | exact h.at (i := 0) rfl | exact h.old m1 | exact h.old hb) (by first | rfl | assumption)) (gon rfl rfl rfl (by first | assumption | rfl | (simp; done))) rfl rfl rfl ?_; clear hf; clear a; intro a hf
            first | refine ops_v hf hh (yv_convx (.inr rfl) (by kernel_rfl) Tryd.un_56 rfl (by omega) (by simp only [IntKind.top]; omega)) (gon rfl rfl rfl (by first | assumption | rfl | (simp; done))) rfl rfl rfl ?_; clear hf; clear a; intro a hf | refine ops_v hf hh (yv_conv (by kernel_rfl) Tryd.un_56 rfl) (gon rfl rfl rfl (by first | assumption | rfl | (simp; done))) rfl rfl rfl ?_; clear hf; clear a; intro a hf
            refine ops_v hf hh (yv_cast (yv_and (.inr rfl) rfl rfl (by omega) (by simp only [IntKind.top]; omega) (by omega) (by simp only [IntKind.top]; omega)) (intv (b := ((p &&& b.broken.toNat : Nat) : Int)) rfl)) (gon rfl rfl rfl (by first | assumption | rfl | (simp; done))) rfl rfl rfl ?_; clear hf; clear a; intro a hf
            refine ops_v hf hh (yv_bin rfl rfl rfl) (gon rfl rfl rfl (by first | assumption | rfl | (simp; done))) rfl rfl rfl ?_; clear hf; clear a; intro a hf
            refine ops_v hf hh (yv_pick_t rfl (by first | assumption | rfl | (simp; done)) rfl) (.inl rfl) rfl rfl rfl ?_; clear hf; clear a; intro a hf
            refine ops_v hf hh (yv_move rfl) (.inl rfl) rfl rfl rfl ?_; clear hf; clear a; intro a hf
            refine guard_split hf (t := 45) rfl (fun hg10 => ?_) (fun hg10 => ?_)
            · have hG10 := hg10; try simp only [gS] at hG10
              refine ops_v hf hh (yv_move rfl) (gon rfl rfl rfl (by first | assumption | rfl | (simp; done))) rfl rfl rfl ?_; clear hf; clear a; intro a hf
              refine ops_v hf hh (yv_move rfl) (gon rfl rfl rfl (by first | assumption | rfl | (simp; done))) rfl rfl rfl ?_; clear hf; clear a; intro a hf
              have hxy := rowF_yes (b := b) (m := m) (p := p) (by omega) (by unfold good; rw [Bool.and_eq_true, decide_eq_true_eq, decide_eq_true_eq]; omega)
              rw [hxy] at hx2
              refine ops_yield hf rfl rfl (gon rfl rfl rfl (by first | assumption | rfl | (simp; done))) rfl (hy _ _ _ (at_doneq hx2) (hJe _ _ _ hJ2 hh.ext)) ?_; clear hf; clear a; intro v a w hR hf
              have hR2 : ∃ o : Bool, v = .bool o ∧ (o = true → J (done2.length + 1) w) ∧ (o = false → K done2.length w) := by
                rcases hR with ⟨rfl, h⟩ | ⟨rfl, h⟩
                · exact ⟨true, rfl, fun _ => h, fun h => by cases h⟩
                · exact ⟨false, rfl, (fun h => by cases h), fun _ => h⟩
              clear hR
              obtain ⟨o, rfl, ho1, ho2⟩ := hR2
              clear hh; have hh := Hp.init w []
              refine ops_v hf hh (yv_not rfl) (gon rfl rfl rfl (by first | assumption | rfl | (simp; done))) rfl rfl rfl ?_; clear hf; clear a; intro a hf
              refine ops_v hf hh (yv_pick_t rfl (by first | assumption | rfl | (simp; done)) rfl) (.inl rfl) rfl rfl rfl ?_; clear hf; clear a; intro a hf
              refine ops_end ?_
              refine then_n ?_
              refine sy_cond hf rfl (fun hg12 => ?_) (fun hg12 => ?_)
              · have hG12 := hg12; try simp only [gS] at hG12
                refine sy_ret ?_
                refine blk_r ?_
                refine then_r ?_
                refine then_r ?_
                refine blk_r ?_
                refine blk_r ?_
                refine then_r ?_
                refine then_r ?_
                refine blk_r ?_
                refine ret_r hf rfl rfl ?_
                first
                  | exact .inr ⟨_, hKe _ _ _ (ho2 (by assumption)) hh.ext⟩
                  | (refine .inl ?_
                     have hle : plansL b = done := by rw [hx, restM_end (by omega), List.append_nil]
                     rw [hle, List.length_map]
                     exact hJe _ _ _ hJ hh.ext)
              · have hG12 := hg12; try simp only [gS] at hG12
                refine sy_skip ?_
                refine blk_n ?_
                refine then_n ?_
                refine sy_ops ?_
                refine ops_v hf hh (yv_move rfl) (.inl rfl) rfl rfl rfl ?_; clear hf; clear a; intro a hf
                first | refine ops_v hf hh (yv_addx (.inr rfl) rfl rfl (by omega) (by simp only [IntKind.top]; omega)) (.inl rfl) rfl rfl rfl ?_; clear hf; clear a; intro a hf | refine ops_v hf hh (yv_bin rfl rfl rfl) (.inl rfl) rfl rfl rfl ?_; clear hf; clear a; intro a hf
                refine ops_v hf hh (yv_assign rfl) (.inl rfl) rfl rfl rfl ?_; clear hf; clear a; intro a hf
                refine ops_end ?_
                refine then_n ?_
                first
                  | (refine ⟨p + 1, ⟨⟨by omega, done2 ++ [p], by rw [hx2, List.append_assoc]; rfl, ?_⟩, hf.head ⟨rfl, True.intro⟩ (Keep.cons rfl (Keep.cons rfl (Keep.cons rfl (Keep.cons rfl (Keep.cons rfl (Keep.cons rfl (Keep.cons rfl (Keep.cons rfl (Keep.cons rfl (Keep.cons rfl (Keep.cons rfl (Keep.cons rfl (Keep.cons rfl (Keep.cons rfl (Keep.cons rfl (Keep.cons rfl (Keep.cons rfl (Keep.cons rfl (Keep.cons rfl (Keep.cons rfl (Keep.cons rfl (Keep.cons rfl (Keep.cons rfl (Keep.cons rfl (Keep.cons rfl (Keep.cons rfl (Keep.cons rfl (Keep.cons rfl (Keep.cons rfl (Keep.cons rfl (Keep.cons rfl (Keep.cons rfl (Keep.app rfl (Keep.rm rfl Keep.base))))))))))))))))))))))))))))))))))⟩, by omega⟩
                     rw [List.length_append]
                     exact hJe _ _ _ (ho1 (by assumption)) hh.ext)
                  | (have hno : good b m p = false := by
                       unfold good
                       rw [Bool.and_eq_false_iff, decide_eq_false_iff_not, decide_eq_false_iff_not]
                       omega
                     exact ⟨p + 1, ⟨⟨by omega, done2, by rw [hx2, rowF_no (by omega) hno], hJe _ _ _ hJ2 hh.ext⟩, hf.head ⟨rfl, True.intro⟩ (Keep.cons rfl (Keep.cons rfl (Keep.cons rfl (Keep.cons rfl (Keep.cons rfl (Keep.cons rfl (Keep.cons rfl (Keep.cons rfl (Keep.cons rfl (Keep.cons rfl (Keep.cons rfl (Keep.cons rfl (Keep.cons rfl (Keep.cons rfl (Keep.cons rfl (Keep.cons rfl (Keep.cons rfl (Keep.cons rfl (Keep.cons rfl (Keep.cons rfl (Keep.cons rfl (Keep.cons rfl (Keep.cons rfl (Keep.cons rfl (Keep.cons rfl (Keep.cons rfl (Keep.cons rfl (Keep.cons rfl (Keep.cons rfl (Keep.cons rfl (Keep.cons rfl (Keep.cons rfl (Keep.app rfl (Keep.rm rfl Keep.base))))))))))))))))))))))))))))))))))⟩, by omega⟩)
            · have hG10 := hg10; try simp only [gS] at hG10
              refine ops_off hf (goff rfl rfl rfl (by first | assumption | rfl | (simp; done))) rfl rfl ?_; clear hf; clear a; intro a hf
              refine ops_off hf (goff rfl rfl rfl (by first | assumption | rfl | (simp; done))) rfl rfl ?_; clear hf; clear a; intro a hf
              refine ops_off hf (goff rfl rfl rfl (by first | assumption | rfl | (simp; done))) rfl rfl ?_; clear hf; clear a; intro a hf
              refine ops_off hf (goff rfl rfl rfl (by first | assumption | rfl | (simp; done))) rfl rfl ?_; clear hf; clear a; intro a hf
              refine ops_v hf hh (yv_pick_f rfl (by first | assumption | rfl | (simp; done)) rfl) (.inl rfl) rfl rfl rfl ?_; clear hf; clear a; intro a hf
              refine ops_end ?_
              refine then_n ?_
              refine sy_cf hf rfl (by first | assumption | rfl | (simp; done)) ?_
              refine sy_skip ?_
              refine blk_n ?_
              refine then_n ?_
              refine sy_ops ?_
              refine ops_v hf hh (yv_move rfl) (.inl rfl) rfl rfl rfl ?_; clear hf; clear a; intro a hf
              first | refine ops_v hf hh (yv_addx (.inr rfl) rfl rfl (by omega) (by simp only [IntKind.top]; omega)) (.inl rfl) rfl rfl rfl ?_; clear hf; clear a; intro a hf | refine ops_v hf hh (yv_bin rfl rfl rfl) (.inl rfl) rfl rfl rfl ?_; clear hf; clear a; intro a hf
              refine ops_v hf hh (yv_assign rfl) (.inl rfl) rfl rfl rfl ?_; clear hf; clear a; intro a hf
              refine ops_end ?_
              refine then_n ?_
              first
                | (refine ⟨p + 1, ⟨⟨by omega, done2 ++ [p], by rw [hx2, List.append_assoc]; rfl, ?_⟩, hf.head ⟨rfl, True.intro⟩ (Keep.cons rfl (Keep.cons rfl (Keep.cons rfl (Keep.cons rfl (Keep.cons rfl (Keep.cons rfl (Keep.cons rfl (Keep.cons rfl (Keep.cons rfl (Keep.cons rfl (Keep.cons rfl (Keep.cons rfl (Keep.cons rfl (Keep.cons rfl (Keep.cons rfl (Keep.cons rfl (Keep.cons rfl (Keep.cons rfl (Keep.cons rfl (Keep.cons rfl (Keep.cons rfl (Keep.cons rfl (Keep.cons rfl (Keep.cons rfl (Keep.cons rfl (Keep.cons rfl (Keep.cons rfl (Keep.cons rfl (Keep.cons rfl (Keep.cons rfl (Keep.cons rfl (Keep.cons rfl (Keep.app rfl (Keep.rm rfl Keep.base))))))))))))))))))))))))))))))))))⟩, by omega⟩
                   rw [List.length_append]
                   exact hJe _ _ _ (ho1 (by assumption)) hh.ext)
                | (have hno : good b m p = false := by
                     unfold good
                     rw [Bool.and_eq_false_iff, decide_eq_false_iff_not, decide_eq_false_iff_not]
                     omega
                   exact ⟨p + 1, ⟨⟨by omega, done2, by rw [hx2, rowF_no (by omega) hno], hJe _ _ _ hJ2 hh.ext⟩, hf.head ⟨rfl, True.intro⟩ (Keep.cons rfl (Keep.cons rfl (Keep.cons rfl (Keep.cons rfl (Keep.cons rfl (Keep.cons rfl (Keep.cons rfl (Keep.cons rfl (Keep.cons rfl (Keep.cons rfl (Keep.cons rfl (Keep.cons rfl (Keep.cons rfl (Keep.cons rfl (Keep.cons rfl (Keep.cons rfl (Keep.cons rfl (Keep.cons rfl (Keep.cons rfl (Keep.cons rfl (Keep.cons rfl (Keep.cons rfl (Keep.cons rfl (Keep.cons rfl (Keep.cons rfl (Keep.cons rfl (Keep.cons rfl (Keep.cons rfl (Keep.cons rfl (Keep.cons rfl (Keep.cons rfl (Keep.cons rfl (Keep.app rfl (Keep.rm rfl Keep.base))))))))))))))))))))))))))))))))))⟩, by omega⟩)
          · have hG7 := hg7; try simp only [gS] at hG7
            refine ops_off hf (goff rfl rfl rfl (by first | assumption | rfl | (simp; done))) rfl rfl ?_; clear hf; clear a; intro a hf
            refine ops_off hf (goff rfl rfl rfl (by first | assumption | rfl | (simp; done))) rfl rfl ?_; clear hf; clear a; intro a hf
            refine ops_off hf (goff rfl rfl rfl (by first | assumption | rfl | (simp; done))) rfl rfl ?_; clear hf; clear a; intro a hf
            refine ops_off hf (goff rfl rfl rfl (by first | assumption | rfl | (simp; done))) rfl rfl ?_; clear hf; clear a; intro a hf
            refine ops_off hf (goff rfl rfl rfl (by first | assumption | rfl | (simp; done))) rfl rfl ?_; clear hf; clear a; intro a hf
            refine ops_off hf (goff rfl rfl rfl (by first | assumption | rfl | (simp; done))) rfl rfl ?_; clear hf; clear a; intro a hf
            refine ops_off hf (goff rfl rfl rfl (by first | assumption | rfl | (simp; done))) rfl rfl ?_; clear hf; clear a; intro a hf
            refine ops_off hf (goff rfl rfl rfl (by first | assumption | rfl | (simp; done))) rfl rfl ?_; clear hf; clear a; intro a hf
            refine ops_off hf (goff rfl rfl rfl (by first | assumption | rfl | (simp; done))) rfl rfl ?_; clear hf; clear a; intro a hf
            refine ops_v hf hh (yv_pick_f rfl (by first | assumption | rfl | (simp; done)) rfl) (.inl rfl) rfl rfl rfl ?_; clear hf; clear a; intro a hf
            refine ops_v hf hh (yv_move rfl) (.inl rfl) rfl rfl rfl ?_; clear hf; clear a; intro a hf
            refine ops_off hf (goff rfl rfl rfl (by first | assumption | rfl | (simp; done))) rfl rfl ?_; clear hf; clear a; intro a hf
            refine ops_off hf (goff rfl rfl rfl (by first | assumption | rfl | (simp; done))) rfl rfl ?_; clear hf; clear a; intro a hf
            refine ops_off hf (goff rfl rfl rfl (by first | assumption | rfl | (simp; done))) rfl rfl ?_; clear hf; clear a; intro a hf
            refine ops_off hf (goff rfl rfl rfl (by first | assumption | rfl | (simp; done))) rfl rfl ?_; clear hf; clear a; intro a hf
            refine ops_v hf hh (yv_pick_f rfl (by first | assumption | rfl | (simp; done)) rfl) (.inl rfl) rfl rfl rfl ?_; clear hf; clear a; intro a hf
            refine ops_end ?_
            refine then_n ?_
            refine sy_cf hf rfl (by first | assumption | rfl | (simp; done)) ?_
            refine sy_skip ?_
            refine blk_n ?_
            refine then_n ?_
            refine sy_ops ?_
            refine ops_v hf hh (yv_move rfl) (.inl rfl) rfl rfl rfl ?_; clear hf; clear a; intro a hf
            first | refine ops_v hf hh (yv_addx (.inr rfl) rfl rfl (by omega) (by simp only [IntKind.top]; omega)) (.inl rfl) rfl rfl rfl ?_; clear hf; clear a; intro a hf | refine ops_v hf hh (yv_bin rfl rfl rfl) (.inl rfl) rfl rfl rfl ?_; clear hf; clear a; intro a hf
            refine ops_v hf hh (yv_assign rfl) (.inl rfl) rfl rfl rfl ?_; clear hf; clear a; intro a hf
            refine ops_end ?_
            refine then_n ?_
            first
              | (refine ⟨p + 1, ⟨⟨by omega, done2 ++ [p], by rw [hx2, List.append_assoc]; rfl, ?_⟩, hf.head ⟨rfl, True.intro⟩ (Keep.cons rfl (Keep.cons rfl (Keep.cons rfl (Keep.cons rfl (Keep.cons rfl (Keep.cons rfl (Keep.cons rfl (Keep.cons rfl (Keep.cons rfl (Keep.cons rfl (Keep.cons rfl (Keep.cons rfl (Keep.cons rfl (Keep.cons rfl (Keep.cons rfl (Keep.cons rfl (Keep.cons rfl (Keep.cons rfl (Keep.cons rfl (Keep.cons rfl (Keep.cons rfl (Keep.cons rfl (Keep.cons rfl (Keep.cons rfl (Keep.cons rfl (Keep.cons rfl (Keep.cons rfl (Keep.cons rfl (Keep.cons rfl (Keep.cons rfl (Keep.cons rfl (Keep.cons rfl (Keep.app rfl (Keep.rm rfl Keep.base))))))))))))))))))))))))))))))))))⟩, by omega⟩
                 rw [List.length_append]
                 exact hJe _ _ _ (ho1 (by assumption)) hh.ext)
              | (have hno : good b m p = false := by
                   unfold good
                   rw [Bool.and_eq_false_iff, decide_eq_false_iff_not, decide_eq_false_iff_not]
                   omega
                 exact ⟨p + 1, ⟨⟨by omega, done2, by rw [hx2, rowF_no (by omega) hno], hJe _ _ _ hJ2 hh.ext⟩, hf.head ⟨rfl, True.intro⟩ (Keep.cons rfl (Keep.cons rfl (Keep.cons rfl (Keep.cons rfl (Keep.cons rfl (Keep.cons rfl (Keep.cons rfl (Keep.cons rfl (Keep.cons rfl (Keep.cons rfl (Keep.cons rfl (Keep.cons rfl (Keep.cons rfl (Keep.cons rfl (Keep.cons rfl (Keep.cons rfl (Keep.cons rfl (Keep.cons rfl (Keep.cons rfl (Keep.cons rfl (Keep.cons rfl (Keep.cons rfl (Keep.cons rfl (Keep.cons rfl (Keep.cons rfl (Keep.cons rfl (Keep.cons rfl (Keep.cons rfl (Keep.cons rfl (Keep.cons rfl (Keep.cons rfl (Keep.cons rfl (Keep.app rfl (Keep.rm rfl Keep.base))))))))))))))))))))))))))))))))))⟩, by omega⟩)
        · have hG4 := hg4; try simp only [gS] at hG4
          refine sy_exit ?_
          refine then_e ?_
          refine then_e ?_
          refine blk_e ?_
          refine blk_n ?_
          refine then_n ?_
          refine sy_ops ?_
          first | refine ops_v hf hh (yv_add rfl rfl (by omega) (by omega)) (.inl rfl) rfl rfl rfl ?_; clear hf; clear a; intro a hf | refine ops_v hf hh (yv_bin rfl rfl rfl) (.inl rfl) rfl rfl rfl ?_; clear hf; clear a; intro a hf
          refine ops_v hf hh (yv_move rfl) (.inl rfl) rfl rfl rfl ?_; clear hf; clear a; intro a hf
          refine ops_end ?_
          refine then_n ?_
          refine ⟨m + 1, ⟨⟨by omega, done2, ?_, hJe _ _ _ hJ2 hh.ext⟩, hf.head ⟨rfl, True.intro⟩ (Keep.cons rfl (Keep.cons rfl (Keep.cons rfl (Keep.cons rfl (Keep.cons rfl (Keep.cons rfl (Keep.cons rfl (Keep.cons rfl (Keep.cons rfl (Keep.cons rfl (Keep.app rfl (Keep.rm rfl (Keep.cons rfl (Keep.cons rfl (Keep.cons rfl (Keep.cons rfl (Keep.app rfl (Keep.rm rfl Keep.base))))))))))))))))))⟩, by omega⟩
          rw [hx2, rowF_end (by omega)]; rfl
    · have hG2 := hg2; try simp only [gS] at hG2
      refine sy_exit ?_
      refine then_e ?_
      refine then_e ?_
      refine blk_e ?_
      refine ret_n hf rfl rfl ?_
      first
        | exact .inr ⟨_, hKe _ _ _ (ho2 (by assumption)) hh.ext⟩
        | (refine .inl ?_
           have hle : plansL b = done := by rw [hx, restM_end (by omega), List.append_nil]
           rw [hle, List.length_map]
           exact hJe _ _ _ hJ hh.ext)
/-- Where the closure of takes lies. -/
structure TakC (w : World) (b : BarD) (sa : Option Addr) (sc bp bm set Bs Bb : Nat) : Prop where
  ba : BarA w b sa sc bp bm
  cs : w.heap[Bs]? = some (.cells #[.int .u64 (set : Nat)] 54 (0, 0))
  cb : w.heap[Bb]? = some (.cells #[ptr bp 0] 50 (0, 0))
  ns : Bs ∉ [bm]
  nb : Bb ∉ [bm]
theorem TakC.ext {w w' : World} {b : BarD} {sa : Option Addr} {sc bp bm set Bs Bb : Nat} (h : TakC w b sa sc bp bm set Bs Bb) (e : Ext [bm] w w') : TakC w' b sa sc bp bm set Bs Bb :=
  ⟨h.ba.ext e (by simp), e.getM h.cs h.ns, e.getM h.cb h.nb, h.ns, h.nb⟩
/-- Does a plan take all scenes of a set? -/
def takesB (b : BarD) (set p : Nat) : Bool := decide (andn set (taken b p) = 0)
theorem c70 (b : BarD) (sa : Option Addr) (sc bp bm set Bs Bb p cm : Nat) (es : Array MapEntry) (u : World) (hV : Valid b) (hp : p < 2 ^ b.slots.toNat) (hset : set ≤ 65536) (hC : TakC u b sa sc bp bm set Bs Bb)
    (hm : u.heap[bm]? = some (.map es cm)) (hM : Memo .u64 .u64 (memF b) es) : Calls Tryd.prog 70 #[.int .u64 p, ptr Bs 0, ptr Bb 0] u
    (Ret fun v w' => v = .bool (takesB b set p) ∧ ∃ es' c', Memo .u64 .u64 (memF b) es' ∧ Hp u [bm] [(bm, .map es' c')] w') := by
  refine calls_of Tryd.func70 rfl rfl (fun a hf => ?_)
  have hh := Hp.init1 hm
  have htl : taken b p < 2 ^ b.scenes.length := by have := takenTo_lt b p b.scenes.length; unfold taken; exact this
  have hn := hV.n
  have hp10 : 2 ^ b.scenes.length ≤ 2 ^ 10 := Nat.pow_le_pow_right (by omega) (by omega)
  refine sy_seq ?_
  refine sy_ops ?_
  refine ops_v hf hh (yv_assign rfl) (.inl rfl) rfl rfl rfl ?_; clear hf; clear a; intro a hf
  refine ops_end ?_
  refine then_n ?_
  refine sy_seq ?_
  refine sy_quiet (C := Mw .u64 .u64 (memF b) u [bm] [] bm) Tryd.follows (by kernel_rfl) (Mw.drawn (.of hM hh) _) ?_
  refine q_v hf (yv_load Tryd.sc_54 rfl (fun _ h => by first | exact h.at (i := 0) rfl | exact h.oldM hC.cs hC.ns | exact h.oldM hC.cb hC.nb) (by first | rfl | assumption)) (.inl rfl) rfl rfl ?_; clear hf; clear a; intro a hf
  refine q_v hf (yv_load Tryd.sc_50 rfl (fun _ h => by first | exact h.at (i := 0) rfl | exact h.oldM hC.cs hC.ns | exact h.oldM hC.cb hC.nb) (by first | rfl | assumption)) (.inl rfl) rfl rfl ?_; clear hf; clear a; intro a hf
  refine q_v hf (yv_move rfl) (.inl rfl) rfl rfl ?_; clear hf; clear a; intro a hf
  refine q_callM hf Tryd.en_37 rfl rfl rfl (.inl rfl) rfl (fun w es cm hM hh => c37 b sa sc bp bm p cm es _ hV hp (hC.ba.ext hh.ext (by simp)) (hh.at (i := 0) rfl) hM) ?_; clear hf; clear a; intro a hf
  first | refine q_v hf (yv_andn (.inr rfl) rfl rfl (by omega) (by simp only [IntKind.top]; omega) (by omega) (by simp only [IntKind.top]; omega)) (.inl rfl) rfl rfl ?_; clear hf; clear a; intro a hf | refine q_v hf (yv_bin rfl rfl rfl) (.inl rfl) rfl rfl ?_; clear hf; clear a; intro a hf
  refine q_v hf (yv_bin rfl rfl rfl) (.inl rfl) rfl rfl ?_; clear hf; clear a; intro a hf
  refine q_v hf (yv_assign rfl) (.inl rfl) rfl rfl ?_; clear hf; clear a; intro a hf
  refine q_end ?_
  rintro w ⟨es2, cm2, hM2, hh⟩
  refine then_n ?_
  refine sy_ret ?_
  refine ret_r hf rfl rfl ?_
  refine ⟨congrArg Value.bool ?_, es2, cm2, hM2, hh⟩
  unfold takesB
  simp only [Int.toNat_natCast]
  rw [Bool.eq_iff_iff, decide_eq_true_eq, decide_eq_true_eq]
  omega
attribute [irreducible] plansL
end Go.Proofs.YtkolcbjghphjeaaDoor
