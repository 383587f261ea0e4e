/- Lemmas, in order: RoyalShares. What the document's functions on royalties compute. The document's functions on royalties. Lists of agents in memory; the document's claims. The document's claims. Sums of what is owed; royalties that are not great. The document's Claims and Owes; royalties that are great. RoyalClaims.. -/
import Derived.Test.YtkfkifkdncdhoaaQ14
namespace Go.Proofs.Ytkfkifkdncdhoaa
open Go Go.Sy Go.RoyM
theorem splV_le (n : Int) (l : List Int) : (splV n l).length ≤ l.length := by
  unfold splV
  split
  · rw [split_len]; exact Nat.le_refl _
  · exact Nat.zero_le _
set_option maxRecDepth 100000 in
theorem p3 (n : Int) (l : List Int) (sa : Option Addr) (c0 : Nat) (t : TermD) (price many : Int) (u : World) (hA : IAt u sa l) (hl : l.length ≤ 9223372036854775807) : Calls Try.prog 3 #[.int .i64 n, .slice sa l.length c0, tmV t, .int .i64 price, .int .i64 many] u (Ret fun v w' => v = .bool true ∧ Ext [] u w') := by
  refine calls_of Try.func3 rfl rfl (fun a hf => ?_)
  have hh := Hp.init u []
  refine sy_sq ?_
  refine o_box hf hh ?_; clear hf hh a; intro B7 a w hf hh
  refine o_v hf hh (yv_assign rfl) ?_; clear hf a; intro a hf
  refine o_end ?_
  refine sy_seq ?_
  refine sy_sq ?_
  refine o_v hf hh (yv_move rfl) ?_; clear hf a; intro a hf
  refine o_v hf hh (yv_len Try.se_22 rfl) ?_; clear hf a; intro a hf
  refine o_v hf hh (yv_bin rfl rfl rfl) ?_; clear hf a; intro a hf
  refine o_end ?_
  refine sy_cond hf rfl (fun hg2 => ?_) (fun hg2 => ?_)
  ·have hG2 := hg2; try simp only [gS] at hG2
   refine sy_sq ?_
   refine o_call hf Try.en_14 rfl rfl rfl (p14 _) ?_; clear hf a; intro v a w hR hf
   obtain ⟨rfl, hx⟩ := hR; replace hh := hh.more hx; clear hx
   refine o_v hf hh (yv_assign rfl) ?_; clear hf a; intro a hf
   refine o_end ?_
   refine sy_ret ?_
   refine then_r ?_
   refine ret_r hf rfl rfl ?_
   first
     | exact ⟨rfl, hh.ext⟩
     | exact ⟨rfl, hx0.trans hh.ext⟩
  ·have hG2 := hg2; try simp only [gS] at hG2
   refine sy_skip ?_
   refine then_n ?_
   refine sy_sq ?_
   refine o_v hf hh (yv_move rfl) ?_; clear hf a; intro a hf
   refine o_v hf hh (yv_move rfl) ?_; clear hf a; intro a hf
   refine o_call hf Try.en_15 rfl rfl rfl (p15 n l sa c0 _ (hA.ext hh.ext) (by omega)) ?_; clear hf a; intro v a w hR hf
   obtain ⟨oa1, cap1, X1, rfl, hO1, hx⟩ := hR; replace hh := (hh.join hx).perm List.perm_append_comm; clear hx
   refine o_v hf hh (yv_move rfl) ?_; clear hf a; intro a hf
   refine o_v hf hh (yv_extract rfl rfl) ?_; clear hf a; intro a hf
   refine o_v hf hh (yv_extract rfl rfl) ?_; clear hf a; intro a hf
   refine o_v hf hh (yv_assign rfl) ?_; clear hf a; intro a hf
   refine o_v hf hh (yv_assign rfl) ?_; clear hf a; intro a hf
   refine o_end ?_
   refine sy_sq ?_
   refine o_v hf hh (yv_move rfl) ?_; clear hf a; intro a hf
   refine o_v hf hh (yv_move rfl) ?_; clear hf a; intro a hf
   refine o_call hf Try.en_16 rfl rfl rfl (p16 n l sa c0 _ (hA.ext hh.ext) (by omega)) ?_; clear hf a; intro v a w hR hf
   obtain ⟨oa2, cap2, rfl, hI2, hx⟩ := hR; replace hh := hh.more hx; clear hx
   obtain ⟨w9, rfl⟩ : ∃ z, z = w := ⟨_, rfl⟩
   have hI1 := hO1.iat fun q hq => hh.get q (by simp [hq])
   have hx0 := hh.ext
   have q7 := hh.at (i := 0) rfl
   replace hh := Hp.init w9 []
   refine o_v hf hh (yv_move rfl) ?_; clear hf a; intro a hf
   refine o_v hf hh (yv_extract rfl rfl) ?_; clear hf a; intro a hf
   refine o_v hf hh (yv_extract rfl rfl) ?_; clear hf a; intro a hf
   refine o_v hf hh (yv_assign rfl) ?_; clear hf a; intro a hf
   refine o_v hf hh (yv_assign rfl) ?_; clear hf a; intro a hf
   refine o_end ?_
   refine sy_sq ?_
   refine o_v hf hh (y_lds Try.ag_24 rfl) ?_; clear hf a; intro a hf
   refine o_v hf hh (yv_move rfl) ?_; clear hf a; intro a hf
   refine o_v hf hh (yv_move rfl) ?_; clear hf a; intro a hf
   refine o_call hf Try.en_17 rfl rfl rfl (p17 t price many _) ?_; clear hf a; intro v a w hR hf
   obtain ⟨rfl, hx⟩ := hR; replace hh := hh.more hx; clear hx
   refine o_v hf hh (yv_move rfl) ?_; clear hf a; intro a hf
   refine o_v hf hh (yv_extract rfl rfl) ?_; clear hf a; intro a hf
   refine o_v hf hh (yv_extract rfl rfl) ?_; clear hf a; intro a hf
   refine o_v hf hh (yv_assign rfl) ?_; clear hf a; intro a hf
   refine o_v hf hh (yv_assign rfl) ?_; clear hf a; intro a hf
   refine o_end ?_
   refine sy_sq ?_
   refine o_v hf hh (y_lds Try.ag_24 rfl) ?_; clear hf a; intro a hf
   refine o_v hf hh (yv_move rfl) ?_; clear hf a; intro a hf
   refine o_v hf hh (yv_move rfl) ?_; clear hf a; intro a hf
   refine o_call hf Try.en_18 rfl rfl rfl (p18 t price many _) ?_; clear hf a; intro v a w hR hf
   obtain ⟨rfl, hx⟩ := hR; replace hh := hh.more hx; clear hx
   refine o_v hf hh (yv_move rfl) ?_; clear hf a; intro a hf
   refine o_v hf hh (yv_extract rfl rfl) ?_; clear hf a; intro a hf
   refine o_v hf hh (yv_extract rfl rfl) ?_; clear hf a; intro a hf
   refine o_v hf hh (yv_assign rfl) ?_; clear hf a; intro a hf
   refine o_v hf hh (yv_assign rfl) ?_; clear hf a; intro a hf
   refine o_end ?_
   refine sy_sq ?_
   refine o_v hf hh (yv_move rfl) ?_; clear hf a; intro a hf
   refine o_v hf hh (yv_move rfl) ?_; clear hf a; intro a hf
   refine o_call hf Try.en_19 rfl rfl rfl (p19 (splV n l) (splV n l) oa1 oa2 cap1 cap2 _ (hI1.ext hh.ext) (hI2.ext hh.ext) (by have := splV_le n l; omega)) ?_; clear hf a; intro v a w hR hf
   obtain ⟨rfl, hx⟩ := hR; replace hh := hh.more hx; clear hx
   refine o_v hf hh (yv_move rfl) ?_; clear hf a; intro a hf
   refine o_v hf hh (yv_move rfl) ?_; clear hf a; intro a hf
   refine o_v hf hh (yv_move rfl) ?_; clear hf a; intro a hf
   refine o_v hf hh (yv_bin rfl rfl rfl) ?_; clear hf a; intro a hf
   refine o_v hf hh (y_pt rfl rfl) ?_; clear hf a; intro a hf
   refine o_v hf hh (yv_move rfl) ?_; clear hf a; intro a hf
   refine o_v hf hh (yv_move rfl) ?_; clear hf a; intro a hf
   refine o_v hf hh (yv_move rfl) ?_; clear hf a; intro a hf
   refine o_v hf hh (yv_bin rfl rfl rfl) ?_; clear hf a; intro a hf
   refine o_v hf hh (y_pt rfl rfl) ?_; clear hf a; intro a hf
   refine o_v hf hh (yv_move rfl) ?_; clear hf a; intro a hf
   refine o_v hf hh (yv_move rfl) ?_; clear hf a; intro a hf
   refine o_v hf hh (yv_move rfl) ?_; clear hf a; intro a hf
   refine o_v hf hh (yv_bin rfl rfl rfl) ?_; clear hf a; intro a hf
   refine o_v hf hh (y_pt rfl rfl) ?_; clear hf a; intro a hf
   refine o_v hf hh (yv_move rfl) ?_; clear hf a; intro a hf
   refine o_call hf Try.en_14 rfl rfl rfl (p14 _) ?_; clear hf a; intro v a w hR hf
   obtain ⟨rfl, hx⟩ := hR; replace hh := hh.more hx; clear hx
   refine o_v hf hh (y_pt rfl rfl) ?_; clear hf a; intro a hf
   refine o_v hf hh (yv_assign rfl) ?_; clear hf a; intro a hf
   refine o_end ?_
   refine sy_ret ?_
   refine ret_r hf rfl rfl ?_
   first
     | exact ⟨rfl, hh.ext⟩
     | exact ⟨rfl, hx0.trans hh.ext⟩
end Go.Proofs.Ytkfkifkdncdhoaa
namespace Go.RoyM
open Go Go.Sy
theorem roy_no {d : RoyD} (h : RoyOk d → False) : royB d = false := Bool.eq_false_iff.2 fun e => h (royB_iff.1 e)
/-- Whether a report has a card. -/
def hasB (x : RepD) (k c : Int) : Bool := decide (x.kd = k) && inI c x.fi x.la
/-- The agents who claim a card, rising. -/
def claL (d : RoyD) (k c : Int) (n : Nat) : List Nat := (List.range n).filter fun g => d.reps.any fun x => decide (x.ag = (g : Int)) && hasB x k c
theorem claL_put {d : RoyD} {k c : Int} {n : Nat} (h : (d.reps.any fun x => decide (x.ag = (n : Int)) && hasB x k c) = true) : claL d k c (n + 1) = claL d k c n ++ [n] := by
  unfold claL
  rw [List.range_succ, List.filter_append]
  simp [h]
theorem claL_no {d : RoyD} {k c : Int} {n : Nat} (h : (d.reps.any fun x => decide (x.ag = (n : Int)) && hasB x k c) = false) : claL d k c (n + 1) = claL d k c n := by
  unfold claL
  rw [List.range_succ, List.filter_append]
  simp [h]
theorem any_take {α : Type} {l : List α} {i : Nat} {x : α} {f : α → Bool} (h : l[i]? = some x) : (l.take (i + 1)).any f = ((l.take i).any f || f x) := by
  rw [List.take_add_one, h, List.any_append]
  simp
theorem claL_eq (d : RoyD) (k : Int) (c : Nat) : claL d k c d.terms.length = (List.range d.terms.length).filter fun g => clmB d k g c := by
  unfold claL clmB hasB inI
  congr 1
  funext g
  congr 1
  funext x
  cases decide (x.ag = (g : Int)) <;> cases decide (x.kd = k) <;> rfl
theorem claL_len (d : RoyD) (k c : Int) (n : Nat) : (claL d k c n).length ≤ n := by
  unfold claL
  refine Nat.le_trans (List.length_filter_le _ _) ?_
  rw [List.length_range]; exact Nat.le_refl _
theorem claL_mem {d : RoyD} {k : Int} {c g : Nat} : g ∈ claL d k c d.terms.length ↔ g < d.terms.length ∧ clmB d k g c = true := by
  rw [claL_eq, List.mem_filter, List.mem_range]
theorem claL_nodup (d : RoyD) (k c : Int) (n : Nat) : (claL d k c n).Nodup := List.Nodup.sublist List.filter_sublist List.nodup_range
/-- The number with these bits. -/
def bitS (f : Nat → Bool) : Nat → Nat
  | 0 => 0
  | c + 1 => bitS f c + if f c then 2 ^ c else 0
theorem bitS_lt (f : Nat → Bool) : ∀ n, bitS f n < 2 ^ n
  | 0 => by simp [bitS]
  | n + 1 => by
    have ih := bitS_lt f n
    rw [bitS, Nat.pow_succ]
    split <;> omega
theorem bitS_bit (f : Nat → Bool) : ∀ (n i : Nat), (bitS f n).testBit i = (decide (i < n) && f i)
  | 0, i => by simp [bitS]
  | n + 1, i => by
    have ih := bitS_bit f n i
    have hl := bitS_lt f n
    rw [bitS]
    by_cases hf : f n = true
    · have e9 := Nat.two_pow_add_eq_or_of_lt hl 1
      rw [Nat.mul_one] at e9
      rw [if_pos hf, Nat.add_comm, e9, Nat.testBit_or, ih]
      by_cases hi : i = n
      · subst hi; simp [hf, Nat.testBit_two_pow_self]
      · rw [Nat.testBit_two_pow_of_ne (by omega), Bool.false_or, show decide (i < n + 1) = decide (i < n) from decide_eq_decide.2 (by omega)]
    · rw [if_neg hf, Nat.add_zero, ih]
      by_cases hi : i = n
      · subst hi; simp [hf]
      · rw [show decide (i < n + 1) = decide (i < n) from decide_eq_decide.2 (by omega)]
theorem bitS_of {x n : Nat} (h : x < 2 ^ n) : bitS x.testBit n = x := by
  apply Nat.eq_of_testBit_eq
  intro i
  rw [bitS_bit]
  by_cases hi : i < n
  · rw [decide_eq_true hi, Bool.true_and]
  · rw [decide_eq_false hi, Bool.false_and, Nat.testBit_lt_two_pow (Nat.lt_of_lt_of_le h (Nat.pow_le_pow_right (by omega) (by omega)))]
theorem surT_bit {d : RoyD} (k : Int) (g c : Nat) : ∀ h, (surT d k g h).testBit c = ((clm d k g).testBit c && (List.range h).all fun j => decide (j = g) || !(clm d k j).testBit c)
  | 0 => by simp [surT]
  | h + 1 => by
    have ih := surT_bit (d := d) k g c h
    rw [surT, List.range_succ, List.all_append]
    split
    · rename_i e
      subst e
      rw [ih]; simp
    · rename_i e
      rw [Nat.testBit_xor, Nat.testBit_and, ih]
      simp only [List.all_cons, List.all_nil, Bool.and_true, decide_eq_false e, Bool.false_or]
      cases (clm d k g).testBit c <;> cases (List.range h).all (fun j => decide (j = g) || !(clm d k j).testBit c) <;> cases (clm d k h).testBit c <;> simp [e]
/-- A card is surely an agent's if nobody else claims it. -/
def surB (d : RoyD) (k : Int) (g c : Nat) : Bool := clmB d k g c && decide ((claL d k c d.terms.length).length = 1)
theorem one_of {l : List Nat} (hn : l.Nodup) {g : Nat} (hg : g ∈ l) : l.length = 1 ↔ ∀ j ∈ l, j = g := by
  constructor
  · intro h j hj
    match l, h with
    | [x], _ => rw [List.mem_singleton.1 hj, List.mem_singleton.1 hg]
  · intro h
    match l, hn, hg with
    | [x], _, _ => rfl
    | x :: y :: l, hn, _ =>
      exfalso
      have h1 := h x (.head _)
      have h2 := h y (.tail _ (.head _))
      rw [List.nodup_cons] at hn
      exact hn.1 (by rw [h1, ← h2]; exact .head _)
theorem sur_bit {d : RoyD} (hO : RoyOk d) (k : Int) (g c : Nat) : (surN d k g).testBit c = surB d k g c := by
  unfold surN surB
  rw [surT_bit, clm_bit hO]
  cases hc : clmB d k g c
  · simp
  · rw [Bool.true_and, Bool.true_and]
    have hg : g ∈ claL d k c d.terms.length := claL_mem.2 ⟨clm_lt hO hc, hc⟩
    rw [Bool.eq_iff_iff, decide_eq_true_eq, one_of (claL_nodup _ _ _ _) hg, List.all_eq_true]
    constructor
    · intro h j hj
      obtain ⟨h1, h2⟩ := claL_mem.1 hj
      have h3 := h j (List.mem_range.2 (by have := hO.nt; omega))
      rw [clm_bit hO, h2] at h3
      simpa using h3
    · intro h j hj
      rw [clm_bit hO]
      cases h2 : clmB d k j c
      · simp
      · have := h j (claL_mem.2 ⟨clm_lt hO h2, h2⟩)
        simp [this]
theorem sur_lt {d : RoyD} (hO : RoyOk d) (k : Int) (g : Nat) : surN d k g < 4096 := Nat.lt_of_le_of_lt (surT_le d k g 4) (clm_lt12 hO k g)
theorem clm_sum {d : RoyD} (hO : RoyOk d) (k : Int) (g : Nat) : bitS (clmB d k g) 12 = clm d k g := by
  have h := bitS_of (x := clm d k g) (n := 12) (clm_lt12 hO k g)
  rwa [show (clm d k g).testBit = clmB d k g from funext fun c => clm_bit hO k g c] at h
theorem sur_sum {d : RoyD} (hO : RoyOk d) (k : Int) (g : Nat) : bitS (surB d k g) 12 = surN d k g := by
  have h := bitS_of (x := surN d k g) (n := 12) (sur_lt hO k g)
  rwa [show (surN d k g).testBit = surB d k g from funext fun c => sur_bit hO k g c] at h
theorem bitS_bd (f : Nat → Bool) {i n : Nat} (h : i ≤ n) : bitS f i < 2 ^ n := Nat.lt_of_lt_of_le (bitS_lt f i) (Nat.pow_le_pow_right (by omega) h)
/-- Whether two reports have a card in common, card by card. -/
theorem meet_iff {d : RoyD} {x y : RepD} (hx : RepOk d x) (hy : RepOk d y) : meetB x y = true ↔ ∃ c : Nat, c < 12 ∧ hasB x x.kd c = true ∧ hasB y x.kd c = true := by
  unfold meetB hasB inI
  have h1 := hx.f0; have h2 := hx.f1; have h3 := hx.l1; have h4 := hy.f0; have h5 := hy.f1; have h6 := hy.l1
  simp only [Bool.and_eq_true, decide_eq_true_eq, true_and]
  constructor
  · rintro ⟨h, hne⟩
    obtain ⟨c, hc⟩ := bit_of_ne hne
    rw [Nat.testBit_and, crd_bit hx, crd_bit hy] at hc
    simp only [Bool.and_eq_true, decide_eq_true_eq] at hc
    exact ⟨c, by omega, hc.1, h.symm, hc.2⟩
  · rintro ⟨c, hc, h7, h8, h9⟩
    refine ⟨h8.symm, fun h => ?_⟩
    have : (crd x &&& crd y).testBit c = true := by
      rw [Nat.testBit_and, crd_bit hx, crd_bit hy]
      simp only [Bool.and_eq_true, decide_eq_true_eq]
      exact ⟨h7, h9⟩
    rw [h, Nat.zero_testBit] at this
    cases this
theorem pc_half {x : Nat} (h : x < 18446744073709551616) : pc x = x % 2 + pc (x / 2) := pc_step h
end Go.RoyM
namespace Go.Proofs.Ytkfkifkdncdhoaa
open Go Go.Sy Go.RoyM
theorem allT_take {α : Type} {l : List α} {i : Nat} {x : α} {f : α → Bool} (h : (l.take i).all f = true) (hx : l[i]? = some x) (hf : f x = true) : (l.take (i + 1)).all f = true := by
  rw [List.take_add_one, hx, List.all_append, h]
  simp [hf]
set_option maxRecDepth 100000 in
theorem p40 (d : RoyD) (p : Pl) (u : World) (hR : RoyAt u d p) : Calls Try.prog 40 #[.agg (royC d p)] u (Ret fun v w' => v = .bool (royB d) ∧ Ext [] u w') := by
  refine calls_of Try.func40 rfl rfl (fun a hf => ?_)
  have hh := Hp.init u []
  obtain ⟨st, sp, ss, sr, sd, ct, cp, cs, cr, cd⟩ := p
  have hn1 := hR.n1; have hn2 := hR.n2; have hn3 := hR.n3; have hn4 := hR.n4; have hn5 := hR.n5
  refine sy_sq ?_
  refine o_box hf hh ?_; clear hf hh a; intro B1 a w hf hh
  refine o_v hf hh (yv_assign rfl) ?_; clear hf a; intro a hf
  refine o_end ?_
  refine sy_seq ?_
  refine sy_sq ?_
  refine o_v hf hh (yv_fieldAddr Try.fo_37_0 rfl) ?_; clear hf a; intro a hf
  refine o_v hf hh (y_ld Try.sc_33 rfl) ?_; clear hf a; intro a hf
  refine o_v hf hh (yv_len Try.se_33 rfl) ?_; clear hf a; intro a hf
  refine o_v hf hh (yv_bin rfl rfl rfl) ?_; clear hf a; intro a hf
  refine o_v hf hh (yv_move rfl) ?_; clear hf a; intro a hf
  refine guard_split hf (t := 11) rfl (fun hg2 => ?_) (fun hg2 => ?_)
  ·have hG2 := hg2; try simp only [gS] at hG2
   refine o_off hf ?_; clear hf a; intro a hf
   refine o_off hf ?_; clear hf a; intro a hf
   refine o_off hf ?_; clear hf a; intro a hf
   refine o_off hf ?_; clear hf a; intro a hf
   refine o_v hf hh (y_pt rfl rfl) ?_; clear hf a; intro a hf
   refine o_v hf hh (yv_move rfl) ?_; clear hf a; intro a hf
   refine o_off hf ?_; clear hf a; intro a hf
   refine o_off hf ?_; clear hf a; intro a hf
   refine o_off hf ?_; clear hf a; intro a hf
   refine o_off hf ?_; clear hf a; intro a hf
   refine o_off hf ?_; clear hf a; intro a hf
   refine o_off hf ?_; clear hf a; intro a hf
   refine o_off hf ?_; clear hf a; intro a hf
   refine o_v hf hh (y_pt rfl rfl) ?_; clear hf a; intro a hf
   refine o_v hf hh (yv_move rfl) ?_; clear hf a; intro a hf
   refine o_off hf ?_; clear hf a; intro a hf
   refine o_off hf ?_; clear hf a; intro a hf
   refine o_off hf ?_; clear hf a; intro a hf
   refine o_off hf ?_; clear hf a; intro a hf
   refine o_v hf hh (y_pt rfl rfl) ?_; clear hf a; intro a hf
   refine o_v hf hh (yv_move rfl) ?_; clear hf a; intro a hf
   refine o_off hf ?_; clear hf a; intro a hf
   refine o_off hf ?_; clear hf a; intro a hf
   refine o_off hf ?_; clear hf a; intro a hf
   refine o_off hf ?_; clear hf a; intro a hf
   refine o_off hf ?_; clear hf a; intro a hf
   refine o_off hf ?_; clear hf a; intro a hf
   refine o_off hf ?_; clear hf a; intro a hf
   refine o_v hf hh (y_pt rfl rfl) ?_; clear hf a; intro a hf
   refine o_end ?_
   refine c_t hf ?_
   refine sy_sq ?_
   refine o_v hf hh (yv_assign rfl) ?_; clear hf a; intro a hf
   refine o_end ?_
   refine sy_ret ?_
   refine then_r ?_
   refine ret_r hf rfl rfl ?_
   first
     | (refine ⟨congrArg Value.bool ?_, hh.ext⟩
        clear hf hh
        rw [show i = d.terms.length by omega, List.take_length] at hA1
        rw [show i = d.paid.length by omega, List.take_length] at hA2
        rw [show i2 = d.prices.length by omega, List.take_length] at hA3
        rw [show i2 = d.shares.length by omega, List.take_length] at hA4
        rw [show i3 = d.reps.length by omega, List.take_length] at hA5
        rw [royB_eq]; unfold sizeB monB
        rw [hA1, hA2, hA3, hA4, hA5, decide_eq_true hs1, decide_eq_true hs2, decide_eq_true hs3, decide_eq_true hs4, decide_eq_true hs5]; rfl)
     | (refine ⟨congrArg Value.bool (roy_no fun hO => ?_).symm, hh.ext⟩
        clear hf hh
        have hnt := hO.nt; have hnp := hO.np; have hns := hO.ns; have hnr := hO.nr; have hpd := hO.npd
        first
        | omega
        | (have hxt := termB_iff.2 (hO.t _ (List.mem_of_getElem? hx)); have hyp := hO.pd _ (List.mem_of_getElem? hy); unfold inI at *; simp_all; done)
        | (have hxt := hO.p _ (List.mem_of_getElem? hx); have hyp := shB_iff.2 (hO.s _ (List.mem_of_getElem? hy)); unfold inI at *; simp_all; done)
        | (have hr := hO.r _ (List.mem_of_getElem? hx); have r1 := hr.a0; have r2 := hr.a1; have r3 := hr.k0; have r4 := hr.k1; have r5 := hr.f0; have r6 := hr.f1; have r7 := hr.l1; unfold inI at *; simp only [Bool.and_eq_false_iff, decide_eq_false_iff_not, Bool.and_eq_true, decide_eq_true_eq] at *; omega)
        | omega)
  ·have hG2 := hg2; try simp only [gS] at hG2
   refine o_v hf hh (yv_fieldAddr Try.fo_37_1 rfl) ?_; clear hf a; intro a hf
   refine o_v hf hh (y_ld Try.sc_22 rfl) ?_; clear hf a; intro a hf
   refine o_v hf hh (yv_len Try.se_22 rfl) ?_; clear hf a; intro a hf
   refine o_v hf hh (yv_bin rfl rfl rfl) ?_; clear hf a; intro a hf
   refine o_v hf hh (y_pf rfl rfl) ?_; clear hf a; intro a hf
   refine o_v hf hh (yv_move rfl) ?_; clear hf a; intro a hf
   refine guard_split hf (t := 17) rfl (fun hg4 => ?_) (fun hg4 => ?_)
   ·have hG4 := hg4; try simp only [gS] at hG4
    refine o_off hf ?_; clear hf a; intro a hf
    refine o_off hf ?_; clear hf a; intro a hf
    refine o_off hf ?_; clear hf a; intro a hf
    refine o_off hf ?_; clear hf a; intro a hf
    refine o_off hf ?_; clear hf a; intro a hf
    refine o_off hf ?_; clear hf a; intro a hf
    refine o_off hf ?_; clear hf a; intro a hf
    refine o_v hf hh (y_pt rfl rfl) ?_; clear hf a; intro a hf
    refine o_v hf hh (yv_move rfl) ?_; clear hf a; intro a hf
    refine o_off hf ?_; clear hf a; intro a hf
    refine o_off hf ?_; clear hf a; intro a hf
    refine o_off hf ?_; clear hf a; intro a hf
    refine o_off hf ?_; clear hf a; intro a hf
    refine o_v hf hh (y_pt rfl rfl) ?_; clear hf a; intro a hf
    refine o_v hf hh (yv_move rfl) ?_; clear hf a; intro a hf
    refine o_off hf ?_; clear hf a; intro a hf
    refine o_off hf ?_; clear hf a; intro a hf
    refine o_off hf ?_; clear hf a; intro a hf
    refine o_off hf ?_; clear hf a; intro a hf
    refine o_off hf ?_; clear hf a; intro a hf
    refine o_off hf ?_; clear hf a; intro a hf
    refine o_off hf ?_; clear hf a; intro a hf
    refine o_v hf hh (y_pt rfl rfl) ?_; clear hf a; intro a hf
    refine o_end ?_
    refine c_t hf ?_
    refine sy_sq ?_
    refine o_v hf hh (yv_assign rfl) ?_; clear hf a; intro a hf
    refine o_end ?_
    refine sy_ret ?_
    refine then_r ?_
    refine ret_r hf rfl rfl ?_
    first
      | (refine ⟨congrArg Value.bool ?_, hh.ext⟩
         clear hf hh
         rw [show i = d.terms.length by omega, List.take_length] at hA1
         rw [show i = d.paid.length by omega, List.take_length] at hA2
         rw [show i2 = d.prices.length by omega, List.take_length] at hA3
         rw [show i2 = d.shares.length by omega, List.take_length] at hA4
         rw [show i3 = d.reps.length by omega, List.take_length] at hA5
         rw [royB_eq]; unfold sizeB monB
         rw [hA1, hA2, hA3, hA4, hA5, decide_eq_true hs1, decide_eq_true hs2, decide_eq_true hs3, decide_eq_true hs4, decide_eq_true hs5]; rfl)
      | (refine ⟨congrArg Value.bool (roy_no fun hO => ?_).symm, hh.ext⟩
         clear hf hh
         have hnt := hO.nt; have hnp := hO.np; have hns := hO.ns; have hnr := hO.nr; have hpd := hO.npd
         first
         | omega
         | (have hxt := termB_iff.2 (hO.t _ (List.mem_of_getElem? hx)); have hyp := hO.pd _ (List.mem_of_getElem? hy); unfold inI at *; simp_all; done)
         | (have hxt := hO.p _ (List.mem_of_getElem? hx); have hyp := shB_iff.2 (hO.s _ (List.mem_of_getElem? hy)); unfold inI at *; simp_all; done)
         | (have hr := hO.r _ (List.mem_of_getElem? hx); have r1 := hr.a0; have r2 := hr.a1; have r3 := hr.k0; have r4 := hr.k1; have r5 := hr.f0; have r6 := hr.f1; have r7 := hr.l1; unfold inI at *; simp only [Bool.and_eq_false_iff, decide_eq_false_iff_not, Bool.and_eq_true, decide_eq_true_eq] at *; omega)
         | omega)
   ·have hG4 := hg4; try simp only [gS] at hG4
    refine o_v hf hh (yv_fieldAddr Try.fo_37_2 rfl) ?_; clear hf a; intro a hf
    refine o_v hf hh (y_ld Try.sc_34 rfl) ?_; clear hf a; intro a hf
    refine o_v hf hh (yv_len Try.se_34 rfl) ?_; clear hf a; intro a hf
    refine o_v hf hh (yv_fieldAddr Try.fo_37_1 rfl) ?_; clear hf a; intro a hf
    refine o_v hf hh (y_ld Try.sc_22 rfl) ?_; clear hf a; intro a hf
    refine o_v hf hh (yv_len Try.se_22 rfl) ?_; clear hf a; intro a hf
    refine o_v hf hh (yv_bin rfl rfl rfl) ?_; clear hf a; intro a hf
    refine o_v hf hh (y_pf rfl rfl) ?_; clear hf a; intro a hf
    refine o_v hf hh (yv_move rfl) ?_; clear hf a; intro a hf
    refine guard_split hf (t := 26) rfl (fun hg6 => ?_) (fun hg6 => ?_)
    ·have hG6 := hg6; try simp only [gS] at hG6
     refine o_off hf ?_; clear hf a; intro a hf
     refine o_off hf ?_; clear hf a; intro a hf
     refine o_off hf ?_; clear hf a; intro a hf
     refine o_off hf ?_; clear hf a; intro a hf
     refine o_v hf hh (y_pt rfl rfl) ?_; clear hf a; intro a hf
     refine o_v hf hh (yv_move rfl) ?_; clear hf a; intro a hf
     refine o_off hf ?_; clear hf a; intro a hf
     refine o_off hf ?_; clear hf a; intro a hf
     refine o_off hf ?_; clear hf a; intro a hf
     refine o_off hf ?_; clear hf a; intro a hf
     refine o_off hf ?_; clear hf a; intro a hf
     refine o_off hf ?_; clear hf a; intro a hf
     refine o_off hf ?_; clear hf a; intro a hf
     refine o_v hf hh (y_pt rfl rfl) ?_; clear hf a; intro a hf
     refine o_end ?_
     refine c_t hf ?_
     refine sy_sq ?_
     refine o_v hf hh (yv_assign rfl) ?_; clear hf a; intro a hf
     refine o_end ?_
     refine sy_ret ?_
     refine then_r ?_
     refine ret_r hf rfl rfl ?_
     first
       | (refine ⟨congrArg Value.bool ?_, hh.ext⟩
          clear hf hh
          rw [show i = d.terms.length by omega, List.take_length] at hA1
          rw [show i = d.paid.length by omega, List.take_length] at hA2
          rw [show i2 = d.prices.length by omega, List.take_length] at hA3
          rw [show i2 = d.shares.length by omega, List.take_length] at hA4
          rw [show i3 = d.reps.length by omega, List.take_length] at hA5
          rw [royB_eq]; unfold sizeB monB
          rw [hA1, hA2, hA3, hA4, hA5, decide_eq_true hs1, decide_eq_true hs2, decide_eq_true hs3, decide_eq_true hs4, decide_eq_true hs5]; rfl)
       | (refine ⟨congrArg Value.bool (roy_no fun hO => ?_).symm, hh.ext⟩
          clear hf hh
          have hnt := hO.nt; have hnp := hO.np; have hns := hO.ns; have hnr := hO.nr; have hpd := hO.npd
          first
          | omega
          | (have hxt := termB_iff.2 (hO.t _ (List.mem_of_getElem? hx)); have hyp := hO.pd _ (List.mem_of_getElem? hy); unfold inI at *; simp_all; done)
          | (have hxt := hO.p _ (List.mem_of_getElem? hx); have hyp := shB_iff.2 (hO.s _ (List.mem_of_getElem? hy)); unfold inI at *; simp_all; done)
          | (have hr := hO.r _ (List.mem_of_getElem? hx); have r1 := hr.a0; have r2 := hr.a1; have r3 := hr.k0; have r4 := hr.k1; have r5 := hr.f0; have r6 := hr.f1; have r7 := hr.l1; unfold inI at *; simp only [Bool.and_eq_false_iff, decide_eq_false_iff_not, Bool.and_eq_true, decide_eq_true_eq] at *; omega)
          | omega)
    ·have hG6 := hg6; try simp only [gS] at hG6
     refine o_v hf hh (yv_fieldAddr Try.fo_37_3 rfl) ?_; clear hf a; intro a hf
     refine o_v hf hh (y_ld Try.sc_35 rfl) ?_; clear hf a; intro a hf
     refine o_v hf hh (yv_len Try.se_35 rfl) ?_; clear hf a; intro a hf
     refine o_v hf hh (yv_bin rfl rfl rfl) ?_; clear hf a; intro a hf
     refine o_v hf hh (y_pf rfl rfl) ?_; clear hf a; intro a hf
     refine o_v hf hh (yv_move rfl) ?_; clear hf a; intro a hf
     refine guard_split hf (t := 32) rfl (fun hg8 => ?_) (fun hg8 => ?_)
     ·have hG8 := hg8; try simp only [gS] at hG8
      refine o_off hf ?_; clear hf a; intro a hf
      refine o_off hf ?_; clear hf a; intro a hf
      refine o_off hf ?_; clear hf a; intro a hf
      refine o_off hf ?_; clear hf a; intro a hf
      refine o_off hf ?_; clear hf a; intro a hf
      refine o_off hf ?_; clear hf a; intro a hf
      refine o_off hf ?_; clear hf a; intro a hf
      refine o_v hf hh (y_pt rfl rfl) ?_; clear hf a; intro a hf
      refine o_end ?_
      refine c_t hf ?_
      refine sy_sq ?_
      refine o_v hf hh (yv_assign rfl) ?_; clear hf a; intro a hf
      refine o_end ?_
      refine sy_ret ?_
      refine then_r ?_
      refine ret_r hf rfl rfl ?_
      first
        | (refine ⟨congrArg Value.bool ?_, hh.ext⟩
           clear hf hh
           rw [show i = d.terms.length by omega, List.take_length] at hA1
           rw [show i = d.paid.length by omega, List.take_length] at hA2
           rw [show i2 = d.prices.length by omega, List.take_length] at hA3
           rw [show i2 = d.shares.length by omega, List.take_length] at hA4
           rw [show i3 = d.reps.length by omega, List.take_length] at hA5
           rw [royB_eq]; unfold sizeB monB
           rw [hA1, hA2, hA3, hA4, hA5, decide_eq_true hs1, decide_eq_true hs2, decide_eq_true hs3, decide_eq_true hs4, decide_eq_true hs5]; rfl)
        | (refine ⟨congrArg Value.bool (roy_no fun hO => ?_).symm, hh.ext⟩
           clear hf hh
           have hnt := hO.nt; have hnp := hO.np; have hns := hO.ns; have hnr := hO.nr; have hpd := hO.npd
           first
           | omega
           | (have hxt := termB_iff.2 (hO.t _ (List.mem_of_getElem? hx)); have hyp := hO.pd _ (List.mem_of_getElem? hy); unfold inI at *; simp_all; done)
           | (have hxt := hO.p _ (List.mem_of_getElem? hx); have hyp := shB_iff.2 (hO.s _ (List.mem_of_getElem? hy)); unfold inI at *; simp_all; done)
           | (have hr := hO.r _ (List.mem_of_getElem? hx); have r1 := hr.a0; have r2 := hr.a1; have r3 := hr.k0; have r4 := hr.k1; have r5 := hr.f0; have r6 := hr.f1; have r7 := hr.l1; unfold inI at *; simp only [Bool.and_eq_false_iff, decide_eq_false_iff_not, Bool.and_eq_true, decide_eq_true_eq] at *; omega)
           | omega)
     ·have hG8 := hg8; try simp only [gS] at hG8
      refine o_v hf hh (yv_fieldAddr Try.fo_37_4 rfl) ?_; clear hf a; intro a hf
      refine o_v hf hh (y_ld Try.sc_22 rfl) ?_; clear hf a; intro a hf
      refine o_v hf hh (yv_len Try.se_22 rfl) ?_; clear hf a; intro a hf
      refine o_v hf hh (yv_fieldAddr Try.fo_37_0 rfl) ?_; clear hf a; intro a hf
      refine o_v hf hh (y_ld Try.sc_33 rfl) ?_; clear hf a; intro a hf
      refine o_v hf hh (yv_len Try.se_33 rfl) ?_; clear hf a; intro a hf
      refine o_v hf hh (yv_bin rfl rfl rfl) ?_; clear hf a; intro a hf
      refine o_v hf hh (y_pf rfl rfl) ?_; clear hf a; intro a hf
      refine o_end ?_
      refine sy_cond hf rfl (fun hg10 => ?_) (fun hg10 => ?_)
      ·have hG10 := hg10; try simp only [gS] at hG10
       refine sy_sq ?_
       refine o_v hf hh (yv_assign rfl) ?_; clear hf a; intro a hf
       refine o_end ?_
       refine sy_ret ?_
       refine then_r ?_
       refine ret_r hf rfl rfl ?_
       first
         | (refine ⟨congrArg Value.bool ?_, hh.ext⟩
            clear hf hh
            rw [show i = d.terms.length by omega, List.take_length] at hA1
            rw [show i = d.paid.length by omega, List.take_length] at hA2
            rw [show i2 = d.prices.length by omega, List.take_length] at hA3
            rw [show i2 = d.shares.length by omega, List.take_length] at hA4
            rw [show i3 = d.reps.length by omega, List.take_length] at hA5
            rw [royB_eq]; unfold sizeB monB
            rw [hA1, hA2, hA3, hA4, hA5, decide_eq_true hs1, decide_eq_true hs2, decide_eq_true hs3, decide_eq_true hs4, decide_eq_true hs5]; rfl)
         | (refine ⟨congrArg Value.bool (roy_no fun hO => ?_).symm, hh.ext⟩
            clear hf hh
            have hnt := hO.nt; have hnp := hO.np; have hns := hO.ns; have hnr := hO.nr; have hpd := hO.npd
            first
            | omega
            | (have hxt := termB_iff.2 (hO.t _ (List.mem_of_getElem? hx)); have hyp := hO.pd _ (List.mem_of_getElem? hy); unfold inI at *; simp_all; done)
            | (have hxt := hO.p _ (List.mem_of_getElem? hx); have hyp := shB_iff.2 (hO.s _ (List.mem_of_getElem? hy)); unfold inI at *; simp_all; done)
            | (have hr := hO.r _ (List.mem_of_getElem? hx); have r1 := hr.a0; have r2 := hr.a1; have r3 := hr.k0; have r4 := hr.k1; have r5 := hr.f0; have r6 := hr.f1; have r7 := hr.l1; unfold inI at *; simp only [Bool.and_eq_false_iff, decide_eq_false_iff_not, Bool.and_eq_true, decide_eq_true_eq] at *; omega)
            | omega)
      ·have hG10 := hg10; try simp only [gS] at hG10
       refine sy_skip ?_
       refine then_n ?_
       refine sy_seq ?_
       refine sy_seq ?_
       have hs1 : d.terms.length ≤ 4 := by omega
       have hs2 : d.prices.length ≤ 4 := by omega
       have hs3 : d.shares.length = d.prices.length := by omega
       have hs4 : d.reps.length ≤ 20 := by omega
       have hs5 : d.paid.length = d.terms.length := by omega
       refine sy_ops ?_
       refine o_v hf hh (yv_assign rfl) ?_; clear hf a; intro a hf
       refine o_end ?_
       refine sy_block ?_
       refine sy_loopF (σ := Nat) [2, 3, 41, 42, 43, 44, 45, 46, 47, 48, 49, 50, 51, 52, 53, 54, 55, 56, 57, 58, 59, 60, 61, 62, 63] (fun i => [(3, .int .i64 (i : Nat))]) (fun i => i ≤ d.terms.length ∧ (d.terms.take i).all termB = true ∧ (d.paid.take i).all (fun n => inI n 0 1099511627776) = true) (fun i => d.terms.length - i) (0) hf hh ?_ ?_ ?_
       · repeat' (first | exact True.intro | refine And.intro rfl ?_)
       · exact ⟨Nat.zero_le _, rfl, rfl⟩
       ·rintro i a w ⟨hi, hA1, hA2⟩ hf hh
        refine sy_seq ?_
        refine sy_sq ?_
        refine o_v hf hh (yv_move rfl) ?_; clear hf a; intro a hf
        refine o_v hf hh (yv_fieldAddr Try.fo_37_0 rfl) ?_; clear hf a; intro a hf
        refine o_v hf hh (y_ld Try.sc_33 rfl) ?_; clear hf a; intro a hf
        refine o_v hf hh (yv_len Try.se_33 rfl) ?_; clear hf a; intro a hf
        refine o_v hf hh (yv_bin rfl rfl rfl) ?_; clear hf a; intro a hf
        refine o_end ?_
        refine sy_cond hf rfl (fun hg12 => ?_) (fun hg12 => ?_)
        ·have hG12 := hg12; try simp only [gS] at hG12
         refine sy_skip ?_
         refine then_n ?_
         refine sy_seq ?_
         refine sy_block ?_
         refine sy_seq ?_
         obtain ⟨x, hx⟩ := ex_of (l := d.terms) (i := i) (by omega)
         obtain ⟨y, hy⟩ := ex_of (l := d.paid) (i := i) (by omega)
         obtain ⟨blk, off, cc, T, fr, e, hb, hc⟩ := hR.tm i x hx; dsimp only at e; subst e
         obtain ⟨blk2, off2, cc2, T2, fr2, e2, hb2, hc2⟩ := hR.pd i y hy; dsimp only at e2; subst e2
         refine sy_ops ?_
         refine o_v hf hh (yv_fieldAddr Try.fo_37_0 rfl) ?_; clear hf a; intro a hf
         refine o_v hf hh (y_ld Try.sc_33 rfl) ?_; clear hf a; intro a hf
         refine o_v hf hh (yv_move rfl) ?_; clear hf a; intro a hf
         refine o_v hf hh (y_ix Try.se_33 rfl rfl) ?_; clear hf a; intro a hf
         refine o_v hf hh (y_lds Try.ag_24 rfl) ?_; clear hf a; intro a hf
         refine o_call hf Try.en_39 rfl rfl rfl (p39 x _) ?_; clear hf a; intro v a w hR hf
         obtain ⟨rfl, hx⟩ := hR; replace hh := hh.more hx; clear hx
         refine o_v hf hh (yv_not rfl) ?_; clear hf a; intro a hf
         refine o_v hf hh (yv_move rfl) ?_; clear hf a; intro a hf
         refine guard_split hf (t := 55) rfl (fun hg14 => ?_) (fun hg14 => ?_)
         ·have hG14 := hg14; try simp only [gS] at hG14
          refine o_off hf ?_; clear hf a; intro a hf
          refine o_off hf ?_; clear hf a; intro a hf
          refine o_off hf ?_; clear hf a; intro a hf
          refine o_off hf ?_; clear hf a; intro a hf
          refine o_off hf ?_; clear hf a; intro a hf
          refine o_off hf ?_; clear hf a; intro a hf
          refine o_off hf ?_; clear hf a; intro a hf
          refine o_v hf hh (y_pt rfl rfl) ?_; clear hf a; intro a hf
          refine o_end ?_
          refine c_t hf ?_
          refine sy_sq ?_
          refine o_v hf hh (yv_assign rfl) ?_; clear hf a; intro a hf
          refine o_end ?_
          refine sy_ret ?_
          refine blk_r ?_
          refine then_r ?_
          refine then_r ?_
          refine blk_r ?_
          refine then_r ?_
          refine ret_r hf rfl rfl ?_
          first
            | (refine ⟨congrArg Value.bool ?_, hh.ext⟩
               clear hf hh
               rw [show i = d.terms.length by omega, List.take_length] at hA1
               rw [show i = d.paid.length by omega, List.take_length] at hA2
               rw [show i2 = d.prices.length by omega, List.take_length] at hA3
               rw [show i2 = d.shares.length by omega, List.take_length] at hA4
               rw [show i3 = d.reps.length by omega, List.take_length] at hA5
               rw [royB_eq]; unfold sizeB monB
               rw [hA1, hA2, hA3, hA4, hA5, decide_eq_true hs1, decide_eq_true hs2, decide_eq_true hs3, decide_eq_true hs4, decide_eq_true hs5]; rfl)
            | (refine ⟨congrArg Value.bool (roy_no fun hO => ?_).symm, hh.ext⟩
               clear hf hh
               have hnt := hO.nt; have hnp := hO.np; have hns := hO.ns; have hnr := hO.nr; have hpd := hO.npd
               first
               | omega
               | (have hxt := termB_iff.2 (hO.t _ (List.mem_of_getElem? hx)); have hyp := hO.pd _ (List.mem_of_getElem? hy); unfold inI at *; simp_all; done)
               | (have hxt := hO.p _ (List.mem_of_getElem? hx); have hyp := shB_iff.2 (hO.s _ (List.mem_of_getElem? hy)); unfold inI at *; simp_all; done)
               | (have hr := hO.r _ (List.mem_of_getElem? hx); have r1 := hr.a0; have r2 := hr.a1; have r3 := hr.k0; have r4 := hr.k1; have r5 := hr.f0; have r6 := hr.f1; have r7 := hr.l1; unfold inI at *; simp only [Bool.and_eq_false_iff, decide_eq_false_iff_not, Bool.and_eq_true, decide_eq_true_eq] at *; omega)
               | omega)
         ·have hG14 := hg14; try simp only [gS] at hG14
          refine o_v hf hh (yv_fieldAddr Try.fo_37_4 rfl) ?_; clear hf a; intro a hf
          refine o_v hf hh (y_ld Try.sc_22 rfl) ?_; clear hf a; intro a hf
          refine o_v hf hh (yv_move rfl) ?_; clear hf a; intro a hf
          refine o_v hf hh (y_ix Try.se_22 rfl rfl) ?_; clear hf a; intro a hf
          refine o_v hf hh (y_ld Try.sc_3 rfl) ?_; clear hf a; intro a hf
          refine o_call hf Try.en_51 rfl rfl rfl (p51 _ _ _ _) ?_; clear hf a; intro v a w hR hf
          obtain ⟨rfl, hx⟩ := hR; replace hh := hh.more hx; clear hx
          refine o_v hf hh (yv_not rfl) ?_; clear hf a; intro a hf
          refine o_v hf hh (y_pf rfl rfl) ?_; clear hf a; intro a hf
          refine o_end ?_
          refine sy_cond hf rfl (fun hg16 => ?_) (fun hg16 => ?_)
          ·have hG16 := hg16; try simp only [gS] at hG16
           refine sy_sq ?_
           refine o_v hf hh (yv_assign rfl) ?_; clear hf a; intro a hf
           refine o_end ?_
           refine sy_ret ?_
           refine blk_r ?_
           refine then_r ?_
           refine then_r ?_
           refine blk_r ?_
           refine then_r ?_
           refine ret_r hf rfl rfl ?_
           first
             | (refine ⟨congrArg Value.bool ?_, hh.ext⟩
                clear hf hh
                rw [show i = d.terms.length by omega, List.take_length] at hA1
                rw [show i = d.paid.length by omega, List.take_length] at hA2
                rw [show i2 = d.prices.length by omega, List.take_length] at hA3
                rw [show i2 = d.shares.length by omega, List.take_length] at hA4
                rw [show i3 = d.reps.length by omega, List.take_length] at hA5
                rw [royB_eq]; unfold sizeB monB
                rw [hA1, hA2, hA3, hA4, hA5, decide_eq_true hs1, decide_eq_true hs2, decide_eq_true hs3, decide_eq_true hs4, decide_eq_true hs5]; rfl)
             | (refine ⟨congrArg Value.bool (roy_no fun hO => ?_).symm, hh.ext⟩
                clear hf hh
                have hnt := hO.nt; have hnp := hO.np; have hns := hO.ns; have hnr := hO.nr; have hpd := hO.npd
                first
                | omega
                | (have hxt := termB_iff.2 (hO.t _ (List.mem_of_getElem? hx)); have hyp := hO.pd _ (List.mem_of_getElem? hy); unfold inI at *; simp_all; done)
                | (have hxt := hO.p _ (List.mem_of_getElem? hx); have hyp := shB_iff.2 (hO.s _ (List.mem_of_getElem? hy)); unfold inI at *; simp_all; done)
                | (have hr := hO.r _ (List.mem_of_getElem? hx); have r1 := hr.a0; have r2 := hr.a1; have r3 := hr.k0; have r4 := hr.k1; have r5 := hr.f0; have r6 := hr.f1; have r7 := hr.l1; unfold inI at *; simp only [Bool.and_eq_false_iff, decide_eq_false_iff_not, Bool.and_eq_true, decide_eq_true_eq] at *; omega)
                | omega)
          ·have hG16 := hg16; try simp only [gS] at hG16
           refine sy_skip ?_
           refine blk_n ?_
           refine then_n ?_
           refine sy_ops ?_
           refine o_v hf hh (yv_move rfl) ?_; clear hf a; intro a hf
           refine o_v hf hh (y_add rfl rfl) ?_; clear hf a; intro a hf
           refine o_v hf hh (yv_assign rfl) ?_; clear hf a; intro a hf
           refine ops_end ?_
           refine then_n ?_
           exact ⟨i + 1, ⟨⟨by omega, allT_take hA1 hx (by simp_all), all_take hA2 hy (by simp_all)⟩, (hf.head (by repeat' (first | exact True.intro | refine And.intro rfl ?_)) (Keep.cons rfl (Keep.cons rfl (Keep.cons rfl (Keep.cons rfl (Keep.cons rfl (Keep.cons rfl (Keep.cons rfl (Keep.cons rfl (Keep.cons rfl (Keep.cons rfl (Keep.cons rfl (Keep.cons rfl (Keep.cons rfl (Keep.cons rfl (Keep.cons rfl (Keep.cons rfl (Keep.cons rfl (Keep.cons rfl (Keep.cons rfl (Keep.cons rfl (Keep.cons rfl (Keep.cons rfl (Keep.cons rfl (Keep.cons rfl (Keep.app rfl (Keep.rm rfl Keep.base))))))))))))))))))))))))))), hh⟩, by omega⟩
        ·have hG12 := hg12; try simp only [gS] at hG12
         refine sy_exit ?_
         refine then_e ?_
         refine then_e ?_
         refine blk_e ?_
         refine then_n ?_
         refine sy_seq ?_
         refine sy_sq ?_
         refine o_v hf hh (yv_assign rfl) ?_; clear hf a; intro a hf
         refine o_end ?_
         refine sy_block ?_
         refine sy_loopF (σ := Nat) [2, 4, 64, 65, 66, 67, 68, 69, 70, 71, 72, 73, 74, 75, 76, 77, 78, 79, 80, 81, 82, 83, 84, 85, 86] (fun i2 => [(4, .int .i64 (i2 : Nat))]) (fun i2 => i2 ≤ d.prices.length ∧ (d.prices.take i2).all (fun n => inI n 0 1048576) = true ∧ (d.shares.take i2).all shB = true) (fun i2 => d.prices.length - i2) (0) hf hh ?_ ?_ ?_
         · repeat' (first | exact True.intro | refine And.intro rfl ?_)
         · exact ⟨Nat.zero_le _, rfl, rfl⟩
         ·rintro i2 a w ⟨hi2, hA3, hA4⟩ hf hh
          refine sy_seq ?_
          refine sy_sq ?_
          refine o_v hf hh (yv_move rfl) ?_; clear hf a; intro a hf
          refine o_v hf hh (yv_fieldAddr Try.fo_37_1 rfl) ?_; clear hf a; intro a hf
          refine o_v hf hh (y_ld Try.sc_22 rfl) ?_; clear hf a; intro a hf
          refine o_v hf hh (yv_len Try.se_22 rfl) ?_; clear hf a; intro a hf
          refine o_v hf hh (yv_bin rfl rfl rfl) ?_; clear hf a; intro a hf
          refine o_end ?_
          refine sy_cond hf rfl (fun hg18 => ?_) (fun hg18 => ?_)
          ·have hG18 := hg18; try simp only [gS] at hG18
           refine sy_skip ?_
           refine then_n ?_
           refine sy_seq ?_
           refine sy_block ?_
           refine sy_seq ?_
           obtain ⟨x, hx⟩ := ex_of (l := d.prices) (i := i2) (by omega)
           obtain ⟨y, hy⟩ := ex_of (l := d.shares) (i := i2) (by omega)
           obtain ⟨blk, off, cc, T, fr, e, hb, hc⟩ := hR.pr i2 x hx; dsimp only at e; subst e
           obtain ⟨blk2, off2, cc2, T2, fr2, sb, cb, e2, hb2, hc2, hI⟩ := hR.sh i2 y hy; dsimp only at e2; subst e2
           refine sy_ops ?_
           refine o_v hf hh (yv_fieldAddr Try.fo_37_1 rfl) ?_; clear hf a; intro a hf
           refine o_v hf hh (y_ld Try.sc_22 rfl) ?_; clear hf a; intro a hf
           refine o_v hf hh (yv_move rfl) ?_; clear hf a; intro a hf
           refine o_v hf hh (y_ix Try.se_22 rfl rfl) ?_; clear hf a; intro a hf
           refine o_v hf hh (y_ld Try.sc_3 rfl) ?_; clear hf a; intro a hf
           refine o_call hf Try.en_51 rfl rfl rfl (p51 _ _ _ _) ?_; clear hf a; intro v a w hR hf
           obtain ⟨rfl, hx⟩ := hR; replace hh := hh.more hx; clear hx
           refine o_v hf hh (yv_not rfl) ?_; clear hf a; intro a hf
           refine o_v hf hh (yv_move rfl) ?_; clear hf a; intro a hf
           refine guard_split hf (t := 78) rfl (fun hg20 => ?_) (fun hg20 => ?_)
           ·have hG20 := hg20; try simp only [gS] at hG20
            refine o_off hf ?_; clear hf a; intro a hf
            refine o_off hf ?_; clear hf a; intro a hf
            refine o_off hf ?_; clear hf a; intro a hf
            refine o_off hf ?_; clear hf a; intro a hf
            refine o_off hf ?_; clear hf a; intro a hf
            refine o_off hf ?_; clear hf a; intro a hf
            refine o_off hf ?_; clear hf a; intro a hf
            refine o_v hf hh (y_pt rfl rfl) ?_; clear hf a; intro a hf
            refine o_end ?_
            refine c_t hf ?_
            refine sy_sq ?_
            refine o_v hf hh (yv_assign rfl) ?_; clear hf a; intro a hf
            refine o_end ?_
            refine sy_ret ?_
            refine blk_r ?_
            refine then_r ?_
            refine then_r ?_
            refine blk_r ?_
            refine then_r ?_
            refine ret_r hf rfl rfl ?_
            first
              | (refine ⟨congrArg Value.bool ?_, hh.ext⟩
                 clear hf hh
                 rw [show i = d.terms.length by omega, List.take_length] at hA1
                 rw [show i = d.paid.length by omega, List.take_length] at hA2
                 rw [show i2 = d.prices.length by omega, List.take_length] at hA3
                 rw [show i2 = d.shares.length by omega, List.take_length] at hA4
                 rw [show i3 = d.reps.length by omega, List.take_length] at hA5
                 rw [royB_eq]; unfold sizeB monB
                 rw [hA1, hA2, hA3, hA4, hA5, decide_eq_true hs1, decide_eq_true hs2, decide_eq_true hs3, decide_eq_true hs4, decide_eq_true hs5]; rfl)
              | (refine ⟨congrArg Value.bool (roy_no fun hO => ?_).symm, hh.ext⟩
                 clear hf hh
                 have hnt := hO.nt; have hnp := hO.np; have hns := hO.ns; have hnr := hO.nr; have hpd := hO.npd
                 first
                 | omega
                 | (have hxt := termB_iff.2 (hO.t _ (List.mem_of_getElem? hx)); have hyp := hO.pd _ (List.mem_of_getElem? hy); unfold inI at *; simp_all; done)
                 | (have hxt := hO.p _ (List.mem_of_getElem? hx); have hyp := shB_iff.2 (hO.s _ (List.mem_of_getElem? hy)); unfold inI at *; simp_all; done)
                 | (have hr := hO.r _ (List.mem_of_getElem? hx); have r1 := hr.a0; have r2 := hr.a1; have r3 := hr.k0; have r4 := hr.k1; have r5 := hr.f0; have r6 := hr.f1; have r7 := hr.l1; unfold inI at *; simp only [Bool.and_eq_false_iff, decide_eq_false_iff_not, Bool.and_eq_true, decide_eq_true_eq] at *; omega)
                 | omega)
           ·have hG20 := hg20; try simp only [gS] at hG20
            refine o_v hf hh (yv_fieldAddr Try.fo_37_2 rfl) ?_; clear hf a; intro a hf
            refine o_v hf hh (y_ld Try.sc_34 rfl) ?_; clear hf a; intro a hf
            refine o_v hf hh (yv_move rfl) ?_; clear hf a; intro a hf
            refine o_v hf hh (y_ix Try.se_34 rfl rfl) ?_; clear hf a; intro a hf
            refine o_v hf hh (y_ld Try.sc_22 rfl) ?_; clear hf a; intro a hf
            refine o_call hf Try.en_37 rfl rfl rfl (p37 y sb cb _ (hI.ext hh.ext) (hR.n6 y (List.mem_of_getElem? hy))) ?_; clear hf a; intro v a w hR hf
            obtain ⟨rfl, hx⟩ := hR; replace hh := hh.more hx; clear hx
            refine o_v hf hh (yv_not rfl) ?_; clear hf a; intro a hf
            refine o_v hf hh (y_pf rfl rfl) ?_; clear hf a; intro a hf
            refine o_end ?_
            refine sy_cond hf rfl (fun hg22 => ?_) (fun hg22 => ?_)
            ·have hG22 := hg22; try simp only [gS] at hG22
             refine sy_sq ?_
             refine o_v hf hh (yv_assign rfl) ?_; clear hf a; intro a hf
             refine o_end ?_
             refine sy_ret ?_
             refine blk_r ?_
             refine then_r ?_
             refine then_r ?_
             refine blk_r ?_
             refine then_r ?_
             refine ret_r hf rfl rfl ?_
             first
               | (refine ⟨congrArg Value.bool ?_, hh.ext⟩
                  clear hf hh
                  rw [show i = d.terms.length by omega, List.take_length] at hA1
                  rw [show i = d.paid.length by omega, List.take_length] at hA2
                  rw [show i2 = d.prices.length by omega, List.take_length] at hA3
                  rw [show i2 = d.shares.length by omega, List.take_length] at hA4
                  rw [show i3 = d.reps.length by omega, List.take_length] at hA5
                  rw [royB_eq]; unfold sizeB monB
                  rw [hA1, hA2, hA3, hA4, hA5, decide_eq_true hs1, decide_eq_true hs2, decide_eq_true hs3, decide_eq_true hs4, decide_eq_true hs5]; rfl)
               | (refine ⟨congrArg Value.bool (roy_no fun hO => ?_).symm, hh.ext⟩
                  clear hf hh
                  have hnt := hO.nt; have hnp := hO.np; have hns := hO.ns; have hnr := hO.nr; have hpd := hO.npd
                  first
                  | omega
                  | (have hxt := termB_iff.2 (hO.t _ (List.mem_of_getElem? hx)); have hyp := hO.pd _ (List.mem_of_getElem? hy); unfold inI at *; simp_all; done)
                  | (have hxt := hO.p _ (List.mem_of_getElem? hx); have hyp := shB_iff.2 (hO.s _ (List.mem_of_getElem? hy)); unfold inI at *; simp_all; done)
                  | (have hr := hO.r _ (List.mem_of_getElem? hx); have r1 := hr.a0; have r2 := hr.a1; have r3 := hr.k0; have r4 := hr.k1; have r5 := hr.f0; have r6 := hr.f1; have r7 := hr.l1; unfold inI at *; simp only [Bool.and_eq_false_iff, decide_eq_false_iff_not, Bool.and_eq_true, decide_eq_true_eq] at *; omega)
                  | omega)
            ·have hG22 := hg22; try simp only [gS] at hG22
             refine sy_skip ?_
             refine blk_n ?_
             refine then_n ?_
             refine sy_ops ?_
             refine o_v hf hh (yv_move rfl) ?_; clear hf a; intro a hf
             refine o_v hf hh (y_add rfl rfl) ?_; clear hf a; intro a hf
             refine o_v hf hh (yv_assign rfl) ?_; clear hf a; intro a hf
             refine ops_end ?_
             refine then_n ?_
             exact ⟨i2 + 1, ⟨⟨by omega, all_take hA3 hx (by simp_all), allT_take hA4 hy (by simp_all)⟩, (hf.head (by repeat' (first | exact True.intro | refine And.intro rfl ?_)) (Keep.cons rfl (Keep.cons rfl (Keep.cons rfl (Keep.cons rfl (Keep.cons rfl (Keep.cons rfl (Keep.cons rfl (Keep.cons rfl (Keep.cons rfl (Keep.cons rfl (Keep.cons rfl (Keep.cons rfl (Keep.cons rfl (Keep.cons rfl (Keep.cons rfl (Keep.cons rfl (Keep.cons rfl (Keep.cons rfl (Keep.cons rfl (Keep.cons rfl (Keep.cons rfl (Keep.cons rfl (Keep.cons rfl (Keep.cons rfl (Keep.app rfl (Keep.rm rfl Keep.base))))))))))))))))))))))))))), hh⟩, by omega⟩
          ·have hG18 := hg18; try simp only [gS] at hG18
           refine sy_exit ?_
           refine then_e ?_
           refine then_e ?_
           refine blk_e ?_
           refine then_n ?_
           refine sy_seq ?_
           refine sy_sq ?_
           refine o_v hf hh (yv_assign rfl) ?_; clear hf a; intro a hf
           refine o_end ?_
           refine sy_block ?_
           refine sy_loopF (σ := Nat) [2, 5, 6, 87, 88, 89, 90, 91, 92, 93, 94, 95, 96, 97, 98, 99, 100, 101, 102, 103, 104, 105, 106, 107, 108, 109, 110, 111, 112, 113, 114, 115, 116, 117, 118, 119, 120, 121, 122, 123, 124, 125, 126, 127, 128, 129] (fun i3 => [(5, .int .i64 (i3 : Nat))]) (fun i3 => i3 ≤ d.reps.length ∧ (d.reps.take i3).all (repB d) = true) (fun i3 => d.reps.length - i3) (0) hf hh ?_ ?_ ?_
           · repeat' (first | exact True.intro | refine And.intro rfl ?_)
           · exact ⟨Nat.zero_le _, rfl⟩
           ·rintro i3 a w ⟨hi3, hA5⟩ hf hh
            refine sy_seq ?_
            refine sy_sq ?_
            refine o_v hf hh (yv_move rfl) ?_; clear hf a; intro a hf
            refine o_v hf hh (yv_fieldAddr Try.fo_37_3 rfl) ?_; clear hf a; intro a hf
            refine o_v hf hh (y_ld Try.sc_35 rfl) ?_; clear hf a; intro a hf
            refine o_v hf hh (yv_len Try.se_35 rfl) ?_; clear hf a; intro a hf
            refine o_v hf hh (yv_bin rfl rfl rfl) ?_; clear hf a; intro a hf
            refine o_end ?_
            refine sy_cond hf rfl (fun hg24 => ?_) (fun hg24 => ?_)
            ·have hG24 := hg24; try simp only [gS] at hG24
             refine sy_skip ?_
             refine then_n ?_
             refine sy_seq ?_
             refine sy_block ?_
             refine sy_seq ?_
             obtain ⟨x, hx⟩ := ex_of (l := d.reps) (i := i3) (by omega)
             obtain ⟨blk, off, cc, T, fr, e, hb, hc⟩ := hR.rp i3 x hx; dsimp only at e; subst e
             refine sy_ops ?_
             refine o_v hf hh (yv_fieldAddr Try.fo_37_3 rfl) ?_; clear hf a; intro a hf
             refine o_v hf hh (y_ld Try.sc_35 rfl) ?_; clear hf a; intro a hf
             refine o_v hf hh (yv_move rfl) ?_; clear hf a; intro a hf
             refine o_v hf hh (y_ix Try.se_35 rfl rfl) ?_; clear hf a; intro a hf
             refine o_v hf hh (y_lds Try.ag_66 rfl) ?_; clear hf a; intro a hf
             refine o_alloc hf hh Try.ze_66 ?_; clear hf hh a; intro B6 a w hf hh
             refine o_store hf hh Try.sz_66 fun w hh => ?_
             refine o_end ?_
             refine sy_sq ?_
             refine o_v hf hh (yv_fieldAddr Try.fo_66_0 rfl) ?_; clear hf a; intro a hf
             refine o_v hf hh (y_ld Try.sc_3 rfl) ?_; clear hf a; intro a hf
             refine o_v hf hh (yv_fieldAddr Try.fo_37_0 rfl) ?_; clear hf a; intro a hf
             refine o_v hf hh (y_ld Try.sc_33 rfl) ?_; clear hf a; intro a hf
             refine o_v hf hh (yv_len Try.se_33 rfl) ?_; clear hf a; intro a hf
             refine o_v hf hh (y_sub rfl rfl) ?_; clear hf a; intro a hf
             refine o_call hf Try.en_51 rfl rfl rfl (p51 _ _ _ _) ?_; clear hf a; intro v a w hR hf
             obtain ⟨rfl, hx⟩ := hR; replace hh := hh.more hx; clear hx
             refine o_v hf hh (yv_not rfl) ?_; clear hf a; intro a hf
             refine o_v hf hh (yv_move rfl) ?_; clear hf a; intro a hf
             refine guard_split hf (t := 107) rfl (fun hg26 => ?_) (fun hg26 => ?_)
             ·have hG26 := hg26; try simp only [gS] at hG26
              refine o_off hf ?_; clear hf a; intro a hf
              refine o_off hf ?_; clear hf a; intro a hf
              refine o_off hf ?_; clear hf a; intro a hf
              refine o_off hf ?_; clear hf a; intro a hf
              refine o_off hf ?_; clear hf a; intro a hf
              refine o_off hf ?_; clear hf a; intro a hf
              refine o_off hf ?_; clear hf a; intro a hf
              refine o_off hf ?_; clear hf a; intro a hf
              refine o_v hf hh (y_pt rfl rfl) ?_; clear hf a; intro a hf
              refine o_v hf hh (yv_move rfl) ?_; clear hf a; intro a hf
              refine o_off hf ?_; clear hf a; intro a hf
              refine o_off hf ?_; clear hf a; intro a hf
              refine o_off hf ?_; clear hf a; intro a hf
              refine o_off hf ?_; clear hf a; intro a hf
              refine o_off hf ?_; clear hf a; intro a hf
              refine o_off hf ?_; clear hf a; intro a hf
              refine o_v hf hh (y_pt rfl rfl) ?_; clear hf a; intro a hf
              refine o_v hf hh (yv_move rfl) ?_; clear hf a; intro a hf
              refine o_off hf ?_; clear hf a; intro a hf
              refine o_off hf ?_; clear hf a; intro a hf
              refine o_off hf ?_; clear hf a; intro a hf
              refine o_v hf hh (y_pt rfl rfl) ?_; clear hf a; intro a hf
              refine o_end ?_
              refine c_t hf ?_
              refine sy_sq ?_
              refine o_v hf hh (yv_assign rfl) ?_; clear hf a; intro a hf
              refine o_end ?_
              refine sy_ret ?_
              refine blk_r ?_
              refine then_r ?_
              refine then_r ?_
              refine blk_r ?_
              refine then_r ?_
              refine ret_r hf rfl rfl ?_
              first
                | (refine ⟨congrArg Value.bool ?_, hh.ext⟩
                   clear hf hh
                   rw [show i = d.terms.length by omega, List.take_length] at hA1
                   rw [show i = d.paid.length by omega, List.take_length] at hA2
                   rw [show i2 = d.prices.length by omega, List.take_length] at hA3
                   rw [show i2 = d.shares.length by omega, List.take_length] at hA4
                   rw [show i3 = d.reps.length by omega, List.take_length] at hA5
                   rw [royB_eq]; unfold sizeB monB
                   rw [hA1, hA2, hA3, hA4, hA5, decide_eq_true hs1, decide_eq_true hs2, decide_eq_true hs3, decide_eq_true hs4, decide_eq_true hs5]; rfl)
                | (refine ⟨congrArg Value.bool (roy_no fun hO => ?_).symm, hh.ext⟩
                   clear hf hh
                   have hnt := hO.nt; have hnp := hO.np; have hns := hO.ns; have hnr := hO.nr; have hpd := hO.npd
                   first
                   | omega
                   | (have hxt := termB_iff.2 (hO.t _ (List.mem_of_getElem? hx)); have hyp := hO.pd _ (List.mem_of_getElem? hy); unfold inI at *; simp_all; done)
                   | (have hxt := hO.p _ (List.mem_of_getElem? hx); have hyp := shB_iff.2 (hO.s _ (List.mem_of_getElem? hy)); unfold inI at *; simp_all; done)
                   | (have hr := hO.r _ (List.mem_of_getElem? hx); have r1 := hr.a0; have r2 := hr.a1; have r3 := hr.k0; have r4 := hr.k1; have r5 := hr.f0; have r6 := hr.f1; have r7 := hr.l1; unfold inI at *; simp only [Bool.and_eq_false_iff, decide_eq_false_iff_not, Bool.and_eq_true, decide_eq_true_eq] at *; omega)
                   | omega)
             ·have hG26 := hg26; try simp only [gS] at hG26
              refine o_v hf hh (yv_fieldAddr Try.fo_66_1 rfl) ?_; clear hf a; intro a hf
              refine o_v hf hh (y_ld Try.sc_3 rfl) ?_; clear hf a; intro a hf
              refine o_v hf hh (yv_fieldAddr Try.fo_37_1 rfl) ?_; clear hf a; intro a hf
              refine o_v hf hh (y_ld Try.sc_22 rfl) ?_; clear hf a; intro a hf
              refine o_v hf hh (yv_len Try.se_22 rfl) ?_; clear hf a; intro a hf
              refine o_v hf hh (y_sub rfl rfl) ?_; clear hf a; intro a hf
              refine o_call hf Try.en_51 rfl rfl rfl (p51 _ _ _ _) ?_; clear hf a; intro v a w hR hf
              obtain ⟨rfl, hx⟩ := hR; replace hh := hh.more hx; clear hx
              refine o_v hf hh (yv_not rfl) ?_; clear hf a; intro a hf
              refine o_v hf hh (y_pf rfl rfl) ?_; clear hf a; intro a hf
              refine o_v hf hh (yv_move rfl) ?_; clear hf a; intro a hf
              refine guard_split hf (t := 117) rfl (fun hg28 => ?_) (fun hg28 => ?_)
              ·have hG28 := hg28; try simp only [gS] at hG28
               refine o_off hf ?_; clear hf a; intro a hf
               refine o_off hf ?_; clear hf a; intro a hf
               refine o_off hf ?_; clear hf a; intro a hf
               refine o_off hf ?_; clear hf a; intro a hf
               refine o_off hf ?_; clear hf a; intro a hf
               refine o_off hf ?_; clear hf a; intro a hf
               refine o_v hf hh (y_pt rfl rfl) ?_; clear hf a; intro a hf
               refine o_v hf hh (yv_move rfl) ?_; clear hf a; intro a hf
               refine o_off hf ?_; clear hf a; intro a hf
               refine o_off hf ?_; clear hf a; intro a hf
               refine o_off hf ?_; clear hf a; intro a hf
               refine o_v hf hh (y_pt rfl rfl) ?_; clear hf a; intro a hf
               refine o_end ?_
               refine c_t hf ?_
               refine sy_sq ?_
               refine o_v hf hh (yv_assign rfl) ?_; clear hf a; intro a hf
               refine o_end ?_
               refine sy_ret ?_
               refine blk_r ?_
               refine then_r ?_
               refine then_r ?_
               refine blk_r ?_
               refine then_r ?_
               refine ret_r hf rfl rfl ?_
               first
                 | (refine ⟨congrArg Value.bool ?_, hh.ext⟩
                    clear hf hh
                    rw [show i = d.terms.length by omega, List.take_length] at hA1
                    rw [show i = d.paid.length by omega, List.take_length] at hA2
                    rw [show i2 = d.prices.length by omega, List.take_length] at hA3
                    rw [show i2 = d.shares.length by omega, List.take_length] at hA4
                    rw [show i3 = d.reps.length by omega, List.take_length] at hA5
                    rw [royB_eq]; unfold sizeB monB
                    rw [hA1, hA2, hA3, hA4, hA5, decide_eq_true hs1, decide_eq_true hs2, decide_eq_true hs3, decide_eq_true hs4, decide_eq_true hs5]; rfl)
                 | (refine ⟨congrArg Value.bool (roy_no fun hO => ?_).symm, hh.ext⟩
                    clear hf hh
                    have hnt := hO.nt; have hnp := hO.np; have hns := hO.ns; have hnr := hO.nr; have hpd := hO.npd
                    first
                    | omega
                    | (have hxt := termB_iff.2 (hO.t _ (List.mem_of_getElem? hx)); have hyp := hO.pd _ (List.mem_of_getElem? hy); unfold inI at *; simp_all; done)
                    | (have hxt := hO.p _ (List.mem_of_getElem? hx); have hyp := shB_iff.2 (hO.s _ (List.mem_of_getElem? hy)); unfold inI at *; simp_all; done)
                    | (have hr := hO.r _ (List.mem_of_getElem? hx); have r1 := hr.a0; have r2 := hr.a1; have r3 := hr.k0; have r4 := hr.k1; have r5 := hr.f0; have r6 := hr.f1; have r7 := hr.l1; unfold inI at *; simp only [Bool.and_eq_false_iff, decide_eq_false_iff_not, Bool.and_eq_true, decide_eq_true_eq] at *; omega)
                    | omega)
              ·have hG28 := hg28; try simp only [gS] at hG28
               refine o_v hf hh (yv_fieldAddr Try.fo_66_2 rfl) ?_; clear hf a; intro a hf
               refine o_v hf hh (y_ld Try.sc_3 rfl) ?_; clear hf a; intro a hf
               refine o_v hf hh (yv_fieldAddr Try.fo_66_3 rfl) ?_; clear hf a; intro a hf
               refine o_v hf hh (y_ld Try.sc_3 rfl) ?_; clear hf a; intro a hf
               refine o_call hf Try.en_51 rfl rfl rfl (p51 _ _ _ _) ?_; clear hf a; intro v a w hR hf
               obtain ⟨rfl, hx⟩ := hR; replace hh := hh.more hx; clear hx
               refine o_v hf hh (yv_not rfl) ?_; clear hf a; intro a hf
               refine o_v hf hh (y_pf rfl rfl) ?_; clear hf a; intro a hf
               refine o_v hf hh (yv_move rfl) ?_; clear hf a; intro a hf
               refine guard_split hf (t := 125) rfl (fun hg30 => ?_) (fun hg30 => ?_)
               ·have hG30 := hg30; try simp only [gS] at hG30
                refine o_off hf ?_; clear hf a; intro a hf
                refine o_off hf ?_; clear hf a; intro a hf
                refine o_off hf ?_; clear hf a; intro a hf
                refine o_v hf hh (y_pt rfl rfl) ?_; clear hf a; intro a hf
                refine o_end ?_
                refine c_t hf ?_
                refine sy_sq ?_
                refine o_v hf hh (yv_assign rfl) ?_; clear hf a; intro a hf
                refine o_end ?_
                refine sy_ret ?_
                refine blk_r ?_
                refine then_r ?_
                refine then_r ?_
                refine blk_r ?_
                refine then_r ?_
                refine ret_r hf rfl rfl ?_
                first
                  | (refine ⟨congrArg Value.bool ?_, hh.ext⟩
                     clear hf hh
                     rw [show i = d.terms.length by omega, List.take_length] at hA1
                     rw [show i = d.paid.length by omega, List.take_length] at hA2
                     rw [show i2 = d.prices.length by omega, List.take_length] at hA3
                     rw [show i2 = d.shares.length by omega, List.take_length] at hA4
                     rw [show i3 = d.reps.length by omega, List.take_length] at hA5
                     rw [royB_eq]; unfold sizeB monB
                     rw [hA1, hA2, hA3, hA4, hA5, decide_eq_true hs1, decide_eq_true hs2, decide_eq_true hs3, decide_eq_true hs4, decide_eq_true hs5]; rfl)
                  | (refine ⟨congrArg Value.bool (roy_no fun hO => ?_).symm, hh.ext⟩
                     clear hf hh
                     have hnt := hO.nt; have hnp := hO.np; have hns := hO.ns; have hnr := hO.nr; have hpd := hO.npd
                     first
                     | omega
                     | (have hxt := termB_iff.2 (hO.t _ (List.mem_of_getElem? hx)); have hyp := hO.pd _ (List.mem_of_getElem? hy); unfold inI at *; simp_all; done)
                     | (have hxt := hO.p _ (List.mem_of_getElem? hx); have hyp := shB_iff.2 (hO.s _ (List.mem_of_getElem? hy)); unfold inI at *; simp_all; done)
                     | (have hr := hO.r _ (List.mem_of_getElem? hx); have r1 := hr.a0; have r2 := hr.a1; have r3 := hr.k0; have r4 := hr.k1; have r5 := hr.f0; have r6 := hr.f1; have r7 := hr.l1; unfold inI at *; simp only [Bool.and_eq_false_iff, decide_eq_false_iff_not, Bool.and_eq_true, decide_eq_true_eq] at *; omega)
                     | omega)
               ·have hG30 := hg30; try simp only [gS] at hG30
                refine o_v hf hh (yv_fieldAddr Try.fo_66_3 rfl) ?_; clear hf a; intro a hf
                refine o_v hf hh (y_ld Try.sc_3 rfl) ?_; clear hf a; intro a hf
                refine o_v hf hh (yv_bin rfl rfl rfl) ?_; clear hf a; intro a hf
                refine o_v hf hh (y_pf rfl rfl) ?_; clear hf a; intro a hf
                refine o_end ?_
                refine sy_cond hf rfl (fun hg32 => ?_) (fun hg32 => ?_)
                ·have hG32 := hg32; try simp only [gS] at hG32
                 refine sy_sq ?_
                 refine o_v hf hh (yv_assign rfl) ?_; clear hf a; intro a hf
                 refine o_end ?_
                 refine sy_ret ?_
                 refine blk_r ?_
                 refine then_r ?_
                 refine then_r ?_
                 refine blk_r ?_
                 refine then_r ?_
                 refine ret_r hf rfl rfl ?_
                 first
                   | (refine ⟨congrArg Value.bool ?_, hh.ext⟩
                      clear hf hh
                      rw [show i = d.terms.length by omega, List.take_length] at hA1
                      rw [show i = d.paid.length by omega, List.take_length] at hA2
                      rw [show i2 = d.prices.length by omega, List.take_length] at hA3
                      rw [show i2 = d.shares.length by omega, List.take_length] at hA4
                      rw [show i3 = d.reps.length by omega, List.take_length] at hA5
                      rw [royB_eq]; unfold sizeB monB
                      rw [hA1, hA2, hA3, hA4, hA5, decide_eq_true hs1, decide_eq_true hs2, decide_eq_true hs3, decide_eq_true hs4, decide_eq_true hs5]; rfl)
                   | (refine ⟨congrArg Value.bool (roy_no fun hO => ?_).symm, hh.ext⟩
                      clear hf hh
                      have hnt := hO.nt; have hnp := hO.np; have hns := hO.ns; have hnr := hO.nr; have hpd := hO.npd
                      first
                      | omega
                      | (have hxt := termB_iff.2 (hO.t _ (List.mem_of_getElem? hx)); have hyp := hO.pd _ (List.mem_of_getElem? hy); unfold inI at *; simp_all; done)
                      | (have hxt := hO.p _ (List.mem_of_getElem? hx); have hyp := shB_iff.2 (hO.s _ (List.mem_of_getElem? hy)); unfold inI at *; simp_all; done)
                      | (have hr := hO.r _ (List.mem_of_getElem? hx); have r1 := hr.a0; have r2 := hr.a1; have r3 := hr.k0; have r4 := hr.k1; have r5 := hr.f0; have r6 := hr.f1; have r7 := hr.l1; unfold inI at *; simp only [Bool.and_eq_false_iff, decide_eq_false_iff_not, Bool.and_eq_true, decide_eq_true_eq] at *; omega)
                      | omega)
                ·have hG32 := hg32; try simp only [gS] at hG32
                 refine sy_skip ?_
                 refine blk_n ?_
                 refine then_n ?_
                 refine sy_ops ?_
                 refine o_v hf hh (yv_move rfl) ?_; clear hf a; intro a hf
                 refine o_v hf hh (y_add rfl rfl) ?_; clear hf a; intro a hf
                 refine o_v hf hh (yv_assign rfl) ?_; clear hf a; intro a hf
                 refine ops_end ?_
                 refine then_n ?_
                 exact ⟨i3 + 1, ⟨⟨by omega, allT_take hA5 hx (by rw [repB_in]; simp_all)⟩, (hf.head (by repeat' (first | exact True.intro | refine And.intro rfl ?_)) (Keep.cons rfl (Keep.cons rfl (Keep.cons rfl (Keep.cons rfl (Keep.cons rfl (Keep.cons rfl (Keep.cons rfl (Keep.cons rfl (Keep.cons rfl (Keep.cons rfl (Keep.cons rfl (Keep.cons rfl (Keep.cons rfl (Keep.cons rfl (Keep.cons rfl (Keep.cons rfl (Keep.cons rfl (Keep.cons rfl (Keep.cons rfl (Keep.cons rfl (Keep.cons rfl (Keep.cons rfl (Keep.cons rfl (Keep.cons rfl (Keep.cons rfl (Keep.cons rfl (Keep.cons rfl (Keep.cons rfl (Keep.cons rfl (Keep.cons rfl (Keep.cons rfl (Keep.cons rfl (Keep.cons rfl (Keep.cons rfl (Keep.cons rfl (Keep.cons rfl (Keep.cons rfl (Keep.cons rfl (Keep.cons rfl (Keep.cons rfl (Keep.cons rfl (Keep.cons rfl (Keep.cons rfl (Keep.cons rfl (Keep.cons rfl (Keep.app rfl (Keep.rm rfl Keep.base)))))))))))))))))))))))))))))))))))))))))))))))), hh.less (.cons _ (List.Sublist.refl _))⟩, by omega⟩
            ·have hG24 := hg24; try simp only [gS] at hG24
             refine sy_exit ?_
             refine then_e ?_
             refine then_e ?_
             refine blk_e ?_
             refine then_n ?_
             refine sy_sq ?_
             refine o_v hf hh (yv_assign rfl) ?_; clear hf a; intro a hf
             refine o_end ?_
             refine sy_ret ?_
             refine ret_r hf rfl rfl ?_
             first
               | (refine ⟨congrArg Value.bool ?_, hh.ext⟩
                  clear hf hh
                  rw [show i = d.terms.length by omega, List.take_length] at hA1
                  rw [show i = d.paid.length by omega, List.take_length] at hA2
                  rw [show i2 = d.prices.length by omega, List.take_length] at hA3
                  rw [show i2 = d.shares.length by omega, List.take_length] at hA4
                  rw [show i3 = d.reps.length by omega, List.take_length] at hA5
                  rw [royB_eq]; unfold sizeB monB
                  rw [hA1, hA2, hA3, hA4, hA5, decide_eq_true hs1, decide_eq_true hs2, decide_eq_true hs3, decide_eq_true hs4, decide_eq_true hs5]; rfl)
               | (refine ⟨congrArg Value.bool (roy_no fun hO => ?_).symm, hh.ext⟩
                  clear hf hh
                  have hnt := hO.nt; have hnp := hO.np; have hns := hO.ns; have hnr := hO.nr; have hpd := hO.npd
                  first
                  | omega
                  | (have hxt := termB_iff.2 (hO.t _ (List.mem_of_getElem? hx)); have hyp := hO.pd _ (List.mem_of_getElem? hy); unfold inI at *; simp_all; done)
                  | (have hxt := hO.p _ (List.mem_of_getElem? hx); have hyp := shB_iff.2 (hO.s _ (List.mem_of_getElem? hy)); unfold inI at *; simp_all; done)
                  | (have hr := hO.r _ (List.mem_of_getElem? hx); have r1 := hr.a0; have r2 := hr.a1; have r3 := hr.k0; have r4 := hr.k1; have r5 := hr.f0; have r6 := hr.f1; have r7 := hr.l1; unfold inI at *; simp only [Bool.and_eq_false_iff, decide_eq_false_iff_not, Bool.and_eq_true, decide_eq_true_eq] at *; omega)
                  | omega)
theorem p66 (d : RoyD) (p : Pl) (b : Bool) (u : World) (hR : RoyAt u d p) : Calls Try.prog 66 #[.agg (royC d p), .bool b] u (Ret fun v w' => v = .int .i64 (openE d b) ∧ Ext [] u w') := by
  refine calls_of Try.func66 rfl rfl (fun a hf => ?_)
  have hh := Hp.init u []
  refine sy_sq ?_
  refine o_box hf hh ?_; clear hf hh a; intro B2 a w hf hh
  refine o_v hf hh (yv_assign rfl) ?_; clear hf a; intro a hf
  refine o_end ?_
  refine sy_seq ?_
  refine sy_sq ?_
  refine o_v hf hh (y_lds Try.ag_37 rfl) ?_; clear hf a; intro a hf
  refine o_call hf Try.en_40 rfl rfl rfl (p40 d p _ (hR.ext hh.ext)) ?_; clear hf a; intro v a w hR hf
  obtain ⟨rfl, hx⟩ := hR; replace hh := hh.more hx; clear hx
  refine o_v hf hh (yv_not rfl) ?_; clear hf a; intro a hf
  refine o_end ?_
  refine sy_cond hf rfl (fun hg2 => ?_) (fun hg2 => ?_)
  ·have hG2 := hg2; try simp only [gS] at hG2
   refine sy_sq ?_
   refine o_v hf hh (yv_assign rfl) ?_; clear hf a; intro a hf
   refine o_end ?_
   refine sy_ret ?_
   refine then_r ?_
   refine ret_r hf rfl rfl ?_
   exact ⟨intv (by unfold openE; simp_all), hh.ext⟩
  ·have hG2 := hg2; try simp only [gS] at hG2
   refine sy_skip ?_
   refine then_n ?_
   refine sy_seq ?_
   refine sy_sq ?_
   refine o_v hf hh (yv_move rfl) ?_; clear hf a; intro a hf
   refine o_v hf hh (yv_not rfl) ?_; clear hf a; intro a hf
   refine o_end ?_
   refine sy_cond hf rfl (fun hg4 => ?_) (fun hg4 => ?_)
   ·have hG4 := hg4; try simp only [gS] at hG4
    refine sy_sq ?_
    refine o_v hf hh (yv_assign rfl) ?_; clear hf a; intro a hf
    refine o_end ?_
    refine sy_ret ?_
    refine then_r ?_
    refine ret_r hf rfl rfl ?_
    exact ⟨intv (by unfold openE; simp_all), hh.ext⟩
   ·have hG4 := hg4; try simp only [gS] at hG4
    refine sy_skip ?_
    refine then_n ?_
    refine sy_sq ?_
    refine o_v hf hh (yv_assign rfl) ?_; clear hf a; intro a hf
    refine o_end ?_
    refine sy_ret ?_
    refine ret_r hf rfl rfl ?_
    exact ⟨intv (by unfold openE; simp_all), hh.ext⟩
theorem p67 (d : RoyD) (p : Pl) (g : Int) (u : World) (hn : d.terms.length ≤ 1000) : Calls Try.prog 67 #[.agg (royC d p), .int .i64 g] u (Ret fun v w' => v = .bool (isAg d g) ∧ Ext [] u w') := by
  refine calls_of Try.func67 rfl rfl (fun a hf => ?_)
  have hh := Hp.init u []
  refine sy_sq ?_
  refine o_box hf hh ?_; clear hf hh a; intro B2 a w hf hh
  refine o_v hf hh (yv_assign rfl) ?_; clear hf a; intro a hf
  refine o_end ?_
  refine sy_sq ?_
  refine o_v hf hh (yv_move rfl) ?_; clear hf a; intro a hf
  refine o_v hf hh (yv_fieldAddr Try.fo_37_0 rfl) ?_; clear hf a; intro a hf
  refine o_v hf hh (y_ld Try.sc_33 rfl) ?_; clear hf a; intro a hf
  refine o_v hf hh (yv_len Try.se_33 rfl) ?_; clear hf a; intro a hf
  refine o_v hf hh (y_sub rfl rfl) ?_; clear hf a; intro a hf
  refine o_call hf Try.en_51 rfl rfl rfl (p51 _ _ _ _) ?_; clear hf a; intro v a w hR hf
  obtain ⟨rfl, hx⟩ := hR; replace hh := hh.more hx; clear hx
  refine o_v hf hh (yv_assign rfl) ?_; clear hf a; intro a hf
  refine o_end ?_
  refine sy_ret ?_
  refine ret_r hf rfl rfl ?_
  exact ⟨rfl, hh.ext⟩
theorem p43 (d : RoyD) (p : Pl) (g : Int) (u : World) (hn : d.prices.length ≤ 1000) : Calls Try.prog 43 #[.agg (royC d p), .int .i64 g] u (Ret fun v w' => v = .bool (isKd d g) ∧ Ext [] u w') := by
  refine calls_of Try.func43 rfl rfl (fun a hf => ?_)
  have hh := Hp.init u []
  refine sy_sq ?_
  refine o_box hf hh ?_; clear hf hh a; intro B2 a w hf hh
  refine o_v hf hh (yv_assign rfl) ?_; clear hf a; intro a hf
  refine o_end ?_
  refine sy_sq ?_
  refine o_v hf hh (yv_move rfl) ?_; clear hf a; intro a hf
  refine o_v hf hh (yv_fieldAddr Try.fo_37_1 rfl) ?_; clear hf a; intro a hf
  refine o_v hf hh (y_ld Try.sc_22 rfl) ?_; clear hf a; intro a hf
  refine o_v hf hh (yv_len Try.se_22 rfl) ?_; clear hf a; intro a hf
  refine o_v hf hh (y_sub rfl rfl) ?_; clear hf a; intro a hf
  refine o_call hf Try.en_51 rfl rfl rfl (p51 _ _ _ _) ?_; clear hf a; intro v a w hR hf
  obtain ⟨rfl, hx⟩ := hR; replace hh := hh.more hx; clear hx
  refine o_v hf hh (yv_assign rfl) ?_; clear hf a; intro a hf
  refine o_end ?_
  refine sy_ret ?_
  refine ret_r hf rfl rfl ?_
  exact ⟨rfl, hh.ext⟩
theorem p60 (x : RepD) (k c : Int) (u : World) : Calls Try.prog 60 #[rpV x, .int .i64 k, .int .i64 c] u (Ret fun v w' => v = .bool (hasB x k c) ∧ Ext [] u w') := by
  refine calls_of Try.func60 rfl rfl (fun a hf => ?_)
  have hh := Hp.init u []
  refine sy_sq ?_
  refine o_box hf hh ?_; clear hf hh a; intro B3 a w hf hh
  refine o_v hf hh (yv_assign rfl) ?_; clear hf a; intro a hf
  refine o_end ?_
  refine sy_sq ?_
  refine o_v hf hh (yv_fieldAddr Try.fo_66_1 rfl) ?_; clear hf a; intro a hf
  refine o_v hf hh (y_ld Try.sc_3 rfl) ?_; clear hf a; intro a hf
  refine o_v hf hh (yv_move rfl) ?_; clear hf a; intro a hf
  refine o_v hf hh (yv_bin rfl rfl rfl) ?_; clear hf a; intro a hf
  refine o_v hf hh (yv_move rfl) ?_; clear hf a; intro a hf
  refine guard_split hf (t := 11) rfl (fun hg2 => ?_) (fun hg2 => ?_)
  ·have hG2 := hg2; try simp only [gS] at hG2
   refine o_v hf hh (yv_move rfl) ?_; clear hf a; intro a hf
   refine o_v hf hh (yv_fieldAddr Try.fo_66_2 rfl) ?_; clear hf a; intro a hf
   refine o_v hf hh (y_ld Try.sc_3 rfl) ?_; clear hf a; intro a hf
   refine o_v hf hh (yv_fieldAddr Try.fo_66_3 rfl) ?_; clear hf a; intro a hf
   refine o_v hf hh (y_ld Try.sc_3 rfl) ?_; clear hf a; intro a hf
   refine o_call hf Try.en_51 rfl rfl rfl (p51 _ _ _ _) ?_; clear hf a; intro v a w hR hf
   obtain ⟨rfl, hx⟩ := hR; replace hh := hh.more hx; clear hx
   refine o_v hf hh (y_pt rfl rfl) ?_; clear hf a; intro a hf
   refine o_v hf hh (yv_assign rfl) ?_; clear hf a; intro a hf
   refine o_end ?_
   refine sy_ret ?_
   refine ret_r hf rfl rfl ?_
   refine ⟨congrArg Value.bool ?_, hh.ext⟩
   clear hf hh
   unfold hasB
   first
     | (rw [decide_eq_true (by assumption), Bool.true_and]; done)
     | (rw [decide_eq_false (by assumption), Bool.false_and]; done)
  ·have hG2 := hg2; try simp only [gS] at hG2
   refine o_off hf ?_; clear hf a; intro a hf
   refine o_off hf ?_; clear hf a; intro a hf
   refine o_off hf ?_; clear hf a; intro a hf
   refine o_off hf ?_; clear hf a; intro a hf
   refine o_off hf ?_; clear hf a; intro a hf
   refine o_off hf ?_; clear hf a; intro a hf
   refine o_v hf hh (y_pf rfl rfl) ?_; clear hf a; intro a hf
   refine o_v hf hh (yv_assign rfl) ?_; clear hf a; intro a hf
   refine o_end ?_
   refine sy_ret ?_
   refine ret_r hf rfl rfl ?_
   refine ⟨congrArg Value.bool ?_, hh.ext⟩
   clear hf hh
   unfold hasB
   first
     | (rw [decide_eq_true (by assumption), Bool.true_and]; done)
     | (rw [decide_eq_false (by assumption), Bool.false_and]; done)
theorem p44 (d : RoyD) (p : Pl) (k c : Int) (u : World) (hR : RoyAt u d p) : Calls Try.prog 44 #[.agg (royC d p), .int .i64 k, .int .i64 c] u (Ret fun v w' => ∃ X, OwnSl 3 1 v (claL d k c d.terms.length).length (nvs (claL d k c d.terms.length)) X ∧ Hp u [] X w') := by
  refine calls_of Try.func44 rfl rfl (fun a hf => ?_)
  have hh := Hp.init u []
  obtain ⟨st, sp, ss, sr, sd, ct, cp, cs, cr, cd⟩ := p
  have hn1 := hR.n1; have hn4 := hR.n4
  refine sy_sq ?_
  refine o_box hf hh ?_; clear hf hh a; intro B3 a w hf hh
  refine o_v hf hh (yv_assign rfl) ?_; clear hf a; intro a hf
  refine o_end ?_
  refine sy_sq ?_
  refine o_v hf hh (yv_assign rfl) ?_; clear hf a; intro a hf
  refine o_end ?_
  refine sy_seq ?_
  refine sy_sq ?_
  refine o_v hf hh (yv_assign rfl) ?_; clear hf a; intro a hf
  refine o_end ?_
  refine sy_block ?_
  refine sy_loopH (σ := Nat × Value × List (Nat × Obj)) [7, 8, 9, 10, 11, 12, 13, 14, 15, 16, 17, 18, 19, 20, 21, 22, 23, 24, 25, 26, 27, 28, 29, 30, 31, 32, 33, 34, 35, 36, 37, 38, 39, 40, 41, 42, 43, 44, 45, 46, 47, 48, 49, 50] (fun s => [(7, s.2.1), (8, .int .i64 (s.1 : Nat))]) (fun s => fun w' => s.1 ≤ d.terms.length ∧ OwnSl 3 1 s.2.1 (claL d k c s.1).length (nvs (claL d k c s.1)) s.2.2 ∧ Hp u [] ([(B3, .cells (royC d ⟨st, sp, ss, sr, sd, ct, cp, cs, cr, cd⟩) 37)] ++ s.2.2) w') (fun s => d.terms.length - s.1) ((0, .slice none 0 0, [])) hf ?_ ?_ ?_
  · repeat' (first | exact True.intro | refine And.intro rfl ?_)
  · exact ⟨Nat.zero_le _, OwnSl.nil _ _, hh⟩
  ·rintro s a w ⟨hg, hO, hh⟩ hf
   obtain ⟨g, v7, X⟩ := s; simp only at hg hO hh hf ⊢
   refine sy_seq ?_
   refine sy_sq ?_
   refine o_v hf hh (yv_move rfl) ?_; clear hf a; intro a hf
   refine o_v hf hh (yv_fieldAddr Try.fo_37_0 rfl) ?_; clear hf a; intro a hf
   refine o_v hf hh (y_ld Try.sc_33 rfl) ?_; clear hf a; intro a hf
   refine o_v hf hh (yv_len Try.se_33 rfl) ?_; clear hf a; intro a hf
   refine o_v hf hh (yv_bin rfl rfl rfl) ?_; clear hf a; intro a hf
   refine o_end ?_
   refine sy_cond hf rfl (fun hg2 => ?_) (fun hg2 => ?_)
   ·have hG2 := hg2; try simp only [gS] at hG2
    refine sy_skip ?_
    refine then_n ?_
    refine sy_seq ?_
    refine sy_block ?_
    refine sy_sq ?_
    refine o_v hf hh (yv_assign rfl) ?_; clear hf a; intro a hf
    refine o_end ?_
    refine sy_seq ?_
    refine sy_sq ?_
    refine o_v hf hh (yv_assign rfl) ?_; clear hf a; intro a hf
    refine o_end ?_
    refine sy_block ?_
    refine sy_loopH (σ := Nat) [9, 10, 18, 19, 20, 21, 22, 23, 24, 25, 26, 27, 28, 29, 30, 31, 32, 33, 34, 35, 36, 37, 38, 39, 40, 41, 42, 43, 44, 45] (fun i => [(9, .bool ((d.reps.take i).any (fun x => decide (x.ag = (g : Int)) && hasB x k c))), (10, .int .i64 (i : Nat))]) (fun i => fun w' => i ≤ d.reps.length ∧ Hp u [] ([(B3, .cells (royC d ⟨st, sp, ss, sr, sd, ct, cp, cs, cr, cd⟩) 37)] ++ X) w') (fun i => d.reps.length - i) (0) hf ?_ ?_ ?_
    · repeat' (first | exact True.intro | refine And.intro rfl ?_)
    · exact ⟨Nat.zero_le _, hh⟩
    ·rintro i a w ⟨hi, hh⟩ hf
     refine sy_seq ?_
     refine sy_sq ?_
     refine o_v hf hh (yv_move rfl) ?_; clear hf a; intro a hf
     refine o_v hf hh (yv_fieldAddr Try.fo_37_3 rfl) ?_; clear hf a; intro a hf
     refine o_v hf hh (y_ld Try.sc_35 rfl) ?_; clear hf a; intro a hf
     refine o_v hf hh (yv_len Try.se_35 rfl) ?_; clear hf a; intro a hf
     refine o_v hf hh (yv_bin rfl rfl rfl) ?_; clear hf a; intro a hf
     refine o_end ?_
     refine sy_cond hf rfl (fun hg4 => ?_) (fun hg4 => ?_)
     ·have hG4 := hg4; try simp only [gS] at hG4
      refine sy_skip ?_
      refine then_n ?_
      refine sy_seq ?_
      refine sy_block ?_
      obtain ⟨x, hx⟩ := ex_of (l := d.reps) (i := i) (by omega)
      obtain ⟨blk, off, cc, T, fr, e, hb, hc⟩ := hR.rp i x hx; dsimp only at e; subst e
      have hc0 := (cellsAt_get 4 _ _ hc).2 0 _ rfl
      have hat := any_take (f := fun x => decide (x.ag = (g : Int)) && hasB x k c) hx
      refine sy_ops ?_
      refine o_v hf hh (yv_move rfl) ?_; clear hf a; intro a hf
      refine o_v hf hh (yv_move rfl) ?_; clear hf a; intro a hf
      refine guard_split hf (t := 26) rfl (fun hg6 => ?_) (fun hg6 => ?_)
      ·have hG6 := hg6; try simp only [gS] at hG6
       refine o_off hf ?_; clear hf a; intro a hf
       refine o_off hf ?_; clear hf a; intro a hf
       refine o_off hf ?_; clear hf a; intro a hf
       refine o_off hf ?_; clear hf a; intro a hf
       refine o_off hf ?_; clear hf a; intro a hf
       refine o_off hf ?_; clear hf a; intro a hf
       refine o_off hf ?_; clear hf a; intro a hf
       refine o_off hf ?_; clear hf a; intro a hf
       refine o_off hf ?_; clear hf a; intro a hf
       refine o_off hf ?_; clear hf a; intro a hf
       refine o_off hf ?_; clear hf a; intro a hf
       refine o_off hf ?_; clear hf a; intro a hf
       refine o_off hf ?_; clear hf a; intro a hf
       refine o_off hf ?_; clear hf a; intro a hf
       refine o_off hf ?_; clear hf a; intro a hf
       refine o_off hf ?_; clear hf a; intro a hf
       refine o_off hf ?_; clear hf a; intro a hf
       refine o_off hf ?_; clear hf a; intro a hf
       refine o_v hf hh (y_pt rfl rfl) ?_; clear hf a; intro a hf
       refine o_v hf hh (yv_assign rfl) ?_; clear hf a; intro a hf
       refine ops_end ?_
       refine blk_n ?_
       refine then_n ?_
       refine sy_ops ?_
       refine o_v hf hh (yv_move rfl) ?_; clear hf a; intro a hf
       refine o_v hf hh (y_add rfl rfl) ?_; clear hf a; intro a hf
       refine o_v hf hh (yv_assign rfl) ?_; clear hf a; intro a hf
       refine ops_end ?_
       refine then_n ?_
       refine ⟨i + 1, ⟨⟨by omega, hh⟩, hf.head ⟨congrArg (fun z => some (Value.bool z)) ?_, rfl, True.intro⟩ (Keep.cons rfl (Keep.cons rfl (Keep.cons rfl (Keep.cons rfl (Keep.cons rfl (Keep.cons rfl (Keep.cons rfl (Keep.cons rfl (Keep.cons rfl (Keep.cons rfl (Keep.cons rfl (Keep.cons rfl (Keep.cons rfl (Keep.cons rfl (Keep.cons rfl (Keep.cons rfl (Keep.cons rfl (Keep.cons rfl (Keep.cons rfl (Keep.cons rfl (Keep.cons rfl (Keep.cons rfl (Keep.cons rfl (Keep.cons rfl (Keep.cons rfl (Keep.cons rfl (Keep.cons rfl (Keep.cons rfl (Keep.cons rfl (Keep.cons rfl (Keep.app rfl (Keep.rm rfl Keep.base))))))))))))))))))))))))))))))))⟩, by omega⟩
       rw [hat]
       clear hf hh
       simp_all
      ·have hG6 := hg6; try simp only [gS] at hG6
       refine o_v hf hh (yv_fieldAddr Try.fo_37_3 rfl) ?_; clear hf a; intro a hf
       refine o_v hf hh (y_ld Try.sc_35 rfl) ?_; clear hf a; intro a hf
       refine o_v hf hh (yv_move rfl) ?_; clear hf a; intro a hf
       refine o_v hf hh (y_ix Try.se_35 rfl rfl) ?_; clear hf a; intro a hf
       refine o_v hf hh (yv_fieldAddr Try.fo_66_0 rfl) ?_; clear hf a; intro a hf
       refine o_v hf hh (y_ld Try.sc_3 rfl) ?_; clear hf a; intro a hf
       refine o_v hf hh (yv_move rfl) ?_; clear hf a; intro a hf
       refine o_v hf hh (yv_bin rfl rfl rfl) ?_; clear hf a; intro a hf
       refine o_v hf hh (yv_move rfl) ?_; clear hf a; intro a hf
       refine guard_split hf (t := 35) rfl (fun hg8 => ?_) (fun hg8 => ?_)
       ·have hG8 := hg8; try simp only [gS] at hG8
        refine o_v hf hh (yv_fieldAddr Try.fo_37_3 rfl) ?_; clear hf a; intro a hf
        refine o_v hf hh (y_ld Try.sc_35 rfl) ?_; clear hf a; intro a hf
        refine o_v hf hh (yv_move rfl) ?_; clear hf a; intro a hf
        refine o_v hf hh (y_ix Try.se_35 rfl rfl) ?_; clear hf a; intro a hf
        refine o_v hf hh (y_lds Try.ag_66 rfl) ?_; clear hf a; intro a hf
        refine o_v hf hh (yv_move rfl) ?_; clear hf a; intro a hf
        refine o_v hf hh (yv_move rfl) ?_; clear hf a; intro a hf
        refine o_call hf Try.en_60 rfl rfl rfl (p60 x k c _) ?_; clear hf a; intro v a w hR hf
        obtain ⟨rfl, hx⟩ := hR; replace hh := hh.more hx; clear hx
        refine o_v hf hh (y_pt rfl rfl) ?_; clear hf a; intro a hf
        refine o_v hf hh (y_pf rfl rfl) ?_; clear hf a; intro a hf
        refine o_v hf hh (yv_assign rfl) ?_; clear hf a; intro a hf
        refine ops_end ?_
        refine blk_n ?_
        refine then_n ?_
        refine sy_ops ?_
        refine o_v hf hh (yv_move rfl) ?_; clear hf a; intro a hf
        refine o_v hf hh (y_add rfl rfl) ?_; clear hf a; intro a hf
        refine o_v hf hh (yv_assign rfl) ?_; clear hf a; intro a hf
        refine ops_end ?_
        refine then_n ?_
        refine ⟨i + 1, ⟨⟨by omega, hh⟩, hf.head ⟨congrArg (fun z => some (Value.bool z)) ?_, rfl, True.intro⟩ (Keep.cons rfl (Keep.cons rfl (Keep.cons rfl (Keep.cons rfl (Keep.cons rfl (Keep.cons rfl (Keep.cons rfl (Keep.cons rfl (Keep.cons rfl (Keep.cons rfl (Keep.cons rfl (Keep.cons rfl (Keep.cons rfl (Keep.cons rfl (Keep.cons rfl (Keep.cons rfl (Keep.cons rfl (Keep.cons rfl (Keep.cons rfl (Keep.cons rfl (Keep.cons rfl (Keep.cons rfl (Keep.cons rfl (Keep.cons rfl (Keep.cons rfl (Keep.cons rfl (Keep.cons rfl (Keep.cons rfl (Keep.cons rfl (Keep.cons rfl (Keep.app rfl (Keep.rm rfl Keep.base))))))))))))))))))))))))))))))))⟩, by omega⟩
        rw [hat]
        clear hf hh
        simp_all
       ·have hG8 := hg8; try simp only [gS] at hG8
        refine o_off hf ?_; clear hf a; intro a hf
        refine o_off hf ?_; clear hf a; intro a hf
        refine o_off hf ?_; clear hf a; intro a hf
        refine o_off hf ?_; clear hf a; intro a hf
        refine o_off hf ?_; clear hf a; intro a hf
        refine o_off hf ?_; clear hf a; intro a hf
        refine o_off hf ?_; clear hf a; intro a hf
        refine o_off hf ?_; clear hf a; intro a hf
        refine o_v hf hh (y_pf rfl rfl) ?_; clear hf a; intro a hf
        refine o_v hf hh (y_pf rfl rfl) ?_; clear hf a; intro a hf
        refine o_v hf hh (yv_assign rfl) ?_; clear hf a; intro a hf
        refine ops_end ?_
        refine blk_n ?_
        refine then_n ?_
        refine sy_ops ?_
        refine o_v hf hh (yv_move rfl) ?_; clear hf a; intro a hf
        refine o_v hf hh (y_add rfl rfl) ?_; clear hf a; intro a hf
        refine o_v hf hh (yv_assign rfl) ?_; clear hf a; intro a hf
        refine ops_end ?_
        refine then_n ?_
        refine ⟨i + 1, ⟨⟨by omega, hh⟩, hf.head ⟨congrArg (fun z => some (Value.bool z)) ?_, rfl, True.intro⟩ (Keep.cons rfl (Keep.cons rfl (Keep.cons rfl (Keep.cons rfl (Keep.cons rfl (Keep.cons rfl (Keep.cons rfl (Keep.cons rfl (Keep.cons rfl (Keep.cons rfl (Keep.cons rfl (Keep.cons rfl (Keep.cons rfl (Keep.cons rfl (Keep.cons rfl (Keep.cons rfl (Keep.cons rfl (Keep.cons rfl (Keep.cons rfl (Keep.cons rfl (Keep.cons rfl (Keep.cons rfl (Keep.cons rfl (Keep.cons rfl (Keep.cons rfl (Keep.cons rfl (Keep.cons rfl (Keep.cons rfl (Keep.cons rfl (Keep.cons rfl (Keep.app rfl (Keep.rm rfl Keep.base))))))))))))))))))))))))))))))))⟩, by omega⟩
        rw [hat]
        clear hf hh
        simp_all
     ·have hG4 := hg4; try simp only [gS] at hG4
      refine sy_exit ?_
      refine then_e ?_
      refine then_e ?_
      refine blk_e ?_
      refine then_n ?_
      refine sy_sq ?_
      refine o_v hf hh (yv_move rfl) ?_; clear hf a; intro a hf
      refine o_end ?_
      refine sy_cond hf rfl (fun hg11 => ?_) (fun hg11 => ?_)
      ·have hG11 := hg11; try simp only [gS] at hG11
       have hcl := claL_len d k c g
       refine sy_ops ?_
       refine o_v hf hh (yv_move rfl) ?_; clear hf a; intro a hf
       refine o_v hf hh (yv_move rfl) ?_; clear hf a; intro a hf
       refine ops_buildSl hf hh Try.bl_22_1 rfl rfl (.inl rfl) rfl ?_; clear hf hh; clear a; intro B49 a w hf hh
       refine ops_append (e := 3) (size := 1) (xs := nvs (claL d k c g)) (X := X) (Z := _) (m := (claL d k c g).length) (q := 1) hf (hh.perm (.cons _ (List.perm_append_comm (l₁ := [_]) (l₂ := X)))) Try.eb_22 rfl rfl hO rfl rfl rfl (by simp only [maxLen]; omega) (by omega) (.inl rfl) rfl ?_; clear hf hh a; intro v2 X2 a w hO2 hf hh
       replace hh := hh.perm List.perm_append_comm
       obtain ⟨oa2, cp2, rfl⟩ := own_val hO2
       refine o_v hf hh (yv_assign rfl) ?_; clear hf a; intro a hf
       refine ops_end ?_
       refine blk_n ?_
       refine then_n ?_
       refine sy_ops ?_
       refine o_v hf hh (yv_move rfl) ?_; clear hf a; intro a hf
       refine o_v hf hh (y_add rfl rfl) ?_; clear hf a; intro a hf
       refine o_v hf hh (yv_assign rfl) ?_; clear hf a; intro a hf
       refine ops_end ?_
       refine then_n ?_
       have hal : (d.reps.take i).any (fun x => decide (x.ag = (g : Int)) && hasB x k c) = d.reps.any (fun x => decide (x.ag = (g : Int)) && hasB x k c) := by rw [List.take_of_length_le (by omega)]
       first
         | exact ⟨(g + 1, _, X2), ⟨⟨by simp only; omega, by
             have e1 : claL d k c (g + 1) = claL d k c g ++ [g] := claL_put (by rw [← hal]; simp_all)
             simp only; rw [e1, nvs_app, List.length_append]; exact hO2, hh⟩, (hf.head (by repeat' (first | exact True.intro | refine And.intro rfl ?_)) (Keep.cons rfl (Keep.cons rfl (Keep.cons rfl (Keep.cons rfl (Keep.cons rfl (Keep.cons rfl (Keep.cons rfl (Keep.cons rfl (Keep.cons rfl (Keep.cons rfl (Keep.cons rfl (Keep.cons rfl (Keep.cons rfl (Keep.cons rfl (Keep.app rfl (Keep.rm rfl (Keep.cons rfl (Keep.cons rfl (Keep.cons rfl (Keep.cons rfl (Keep.cons rfl (Keep.cons rfl (Keep.cons rfl (Keep.app rfl (Keep.rm rfl Keep.base))))))))))))))))))))))))))⟩, by simp only; omega⟩
         | exact ⟨(g + 1, v7, X), ⟨⟨by simp only; omega, by
             have e1 : claL d k c (g + 1) = claL d k c g := claL_no (by rw [← hal]; simp_all)
             simp only; rw [e1]; exact hO, hh⟩, (hf.head (by repeat' (first | exact True.intro | refine And.intro rfl ?_)) (Keep.cons rfl (Keep.cons rfl (Keep.cons rfl (Keep.cons rfl (Keep.cons rfl (Keep.cons rfl (Keep.cons rfl (Keep.cons rfl (Keep.cons rfl (Keep.cons rfl (Keep.cons rfl (Keep.cons rfl (Keep.cons rfl (Keep.cons rfl (Keep.app rfl (Keep.rm rfl (Keep.cons rfl (Keep.cons rfl (Keep.cons rfl (Keep.cons rfl (Keep.cons rfl (Keep.cons rfl (Keep.cons rfl (Keep.app rfl (Keep.rm rfl Keep.base))))))))))))))))))))))))))⟩, by simp only; omega⟩
      ·have hG11 := hg11; try simp only [gS] at hG11
       refine sy_skip ?_
       refine blk_n ?_
       refine then_n ?_
       refine sy_ops ?_
       refine o_v hf hh (yv_move rfl) ?_; clear hf a; intro a hf
       refine o_v hf hh (y_add rfl rfl) ?_; clear hf a; intro a hf
       refine o_v hf hh (yv_assign rfl) ?_; clear hf a; intro a hf
       refine ops_end ?_
       refine then_n ?_
       have hal : (d.reps.take i).any (fun x => decide (x.ag = (g : Int)) && hasB x k c) = d.reps.any (fun x => decide (x.ag = (g : Int)) && hasB x k c) := by rw [List.take_of_length_le (by omega)]
       first
         | exact ⟨(g + 1, _, X2), ⟨⟨by simp only; omega, by
             have e1 : claL d k c (g + 1) = claL d k c g ++ [g] := claL_put (by rw [← hal]; simp_all)
             simp only; rw [e1, nvs_app, List.length_append]; exact hO2, hh⟩, (hf.head (by repeat' (first | exact True.intro | refine And.intro rfl ?_)) (Keep.cons rfl (Keep.cons rfl (Keep.cons rfl (Keep.cons rfl (Keep.cons rfl (Keep.cons rfl (Keep.cons rfl (Keep.cons rfl (Keep.cons rfl (Keep.app rfl (Keep.rm rfl (Keep.cons rfl (Keep.cons rfl (Keep.cons rfl (Keep.cons rfl (Keep.cons rfl (Keep.cons rfl (Keep.cons rfl (Keep.app rfl (Keep.rm rfl Keep.base)))))))))))))))))))))⟩, by simp only; omega⟩
         | exact ⟨(g + 1, v7, X), ⟨⟨by simp only; omega, by
             have e1 : claL d k c (g + 1) = claL d k c g := claL_no (by rw [← hal]; simp_all)
             simp only; rw [e1]; exact hO, hh⟩, (hf.head (by repeat' (first | exact True.intro | refine And.intro rfl ?_)) (Keep.cons rfl (Keep.cons rfl (Keep.cons rfl (Keep.cons rfl (Keep.cons rfl (Keep.cons rfl (Keep.cons rfl (Keep.cons rfl (Keep.cons rfl (Keep.app rfl (Keep.rm rfl (Keep.cons rfl (Keep.cons rfl (Keep.cons rfl (Keep.cons rfl (Keep.cons rfl (Keep.cons rfl (Keep.cons rfl (Keep.app rfl (Keep.rm rfl Keep.base)))))))))))))))))))))⟩, by simp only; omega⟩
   ·have hG2 := hg2; try simp only [gS] at hG2
    refine sy_exit ?_
    refine then_e ?_
    refine then_e ?_
    refine blk_e ?_
    refine then_n ?_
    refine sy_sq ?_
    refine o_v hf hh (yv_move rfl) ?_; clear hf a; intro a hf
    refine o_v hf hh (yv_assign rfl) ?_; clear hf a; intro a hf
    refine o_end ?_
    refine sy_ret ?_
    refine ret_r hf rfl rfl ?_
    obtain rfl : g = d.terms.length := by omega
    exact ⟨X, hO, hh.less (.cons _ (List.Sublist.refl _))⟩
theorem p97 (n : Nat) (hn : n ≤ 60) (u : World) : Calls Try.prog 97 #[.int .i64 (n : Nat)] u (Ret fun v w' => v = .int .i64 (2 ^ n : Nat) ∧ Ext [] u w') := by
  refine calls_of Try.func97 rfl rfl (fun a hf => ?_)
  have hh := Hp.init u []
  refine sy_sq ?_
  refine o_v hf hh (yv_assign rfl) ?_; clear hf a; intro a hf
  refine o_end ?_
  refine sy_sq ?_
  refine o_v hf hh (yv_assign rfl) ?_; clear hf a; intro a hf
  refine o_end ?_
  refine sy_seq ?_
  refine sy_sq ?_
  refine o_v hf hh (yv_assign rfl) ?_; clear hf a; intro a hf
  refine o_end ?_
  refine sy_block ?_
  refine sy_loopF (σ := Nat) [3, 4, 5, 6, 7, 8, 9, 10, 11] (fun i => [(3, .int .i64 (2 ^ i : Nat)), (4, .int .i64 (i : Nat))]) (fun i => i ≤ n) (fun i => n - i) (0) hf hh ?_ ?_ ?_
  · repeat' (first | exact True.intro | refine And.intro rfl ?_)
  · exact Nat.zero_le _
  ·rintro i a w hi hf hh
   have hp : 2 ^ i ≤ 2 ^ 60 := Nat.pow_le_pow_right (by omega) (by omega)
   obtain ⟨q, hq⟩ : ∃ q, q = 2 ^ i := ⟨_, rfl⟩
   rw [← hq] at hp hf
   refine sy_seq ?_
   refine sy_sq ?_
   refine o_v hf hh (yv_move rfl) ?_; clear hf a; intro a hf
   refine o_v hf hh (yv_move rfl) ?_; clear hf a; intro a hf
   refine o_v hf hh (yv_bin rfl rfl rfl) ?_; clear hf a; intro a hf
   refine o_end ?_
   refine sy_cond hf rfl (fun hg2 => ?_) (fun hg2 => ?_)
   ·have hG2 := hg2; try simp only [gS] at hG2
    refine sy_skip ?_
    refine then_n ?_
    refine sy_seq ?_
    refine sy_block ?_
    refine sy_ops ?_
    refine o_v hf hh (yv_move rfl) ?_; clear hf a; intro a hf
    refine o_v hf hh (y_mul rfl rfl) ?_; clear hf a; intro a hf
    refine o_v hf hh (yv_assign rfl) ?_; clear hf a; intro a hf
    refine ops_end ?_
    refine blk_n ?_
    refine then_n ?_
    refine sy_ops ?_
    refine o_v hf hh (yv_move rfl) ?_; clear hf a; intro a hf
    refine o_v hf hh (y_add rfl rfl) ?_; clear hf a; intro a hf
    refine o_v hf hh (yv_assign rfl) ?_; clear hf a; intro a hf
    refine ops_end ?_
    refine then_n ?_
    exact ⟨i + 1, ⟨by omega, hf.head ⟨congrArg some (intv (by rw [Nat.pow_succ, ← hq]; omega)), rfl, True.intro⟩ (Keep.cons rfl (Keep.cons rfl (Keep.cons rfl (Keep.cons rfl (Keep.cons rfl (Keep.cons rfl (Keep.cons rfl (Keep.cons rfl (Keep.cons rfl (Keep.app rfl (Keep.rm rfl Keep.base))))))))))), hh⟩, by omega⟩
   ·have hG2 := hg2; try simp only [gS] at hG2
    refine sy_exit ?_
    refine then_e ?_
    refine then_e ?_
    refine blk_e ?_
    refine then_n ?_
    refine sy_sq ?_
    refine o_v hf hh (yv_move rfl) ?_; clear hf a; intro a hf
    refine o_v hf hh (yv_assign rfl) ?_; clear hf a; intro a hf
    refine o_end ?_
    refine sy_ret ?_
    refine ret_r hf rfl rfl ?_
    obtain rfl : i = n := by omega
    exact ⟨by rw [hq]; rfl, hh.ext⟩
theorem p73 (x : Nat) (hx : x < 65536) (u : World) : Calls Try.prog 73 #[.int .i64 (x : Nat)] u (Ret fun v w' => v = .int .i64 (pc x : Nat) ∧ Ext [] u w') := by
  refine calls_of Try.func73 rfl rfl (fun a hf => ?_)
  have hh := Hp.init u []
  refine sy_sq ?_
  refine o_v hf hh (yv_assign rfl) ?_; clear hf a; intro a hf
  refine o_end ?_
  refine sy_sq ?_
  refine o_v hf hh (yv_assign rfl) ?_; clear hf a; intro a hf
  refine o_end ?_
  refine sy_seq ?_
  refine sy_block ?_
  refine sy_loopF (σ := Nat) [0, 3, 4, 5, 6, 7, 8, 9, 10, 11] (fun y => [(0, .int .i64 (y : Nat)), (3, .int .i64 ((pc x - pc y : Nat) : Int))]) (fun y => y ≤ x ∧ pc y ≤ pc x) (fun y => y) (x) hf hh ?_ ?_ ?_
  · exact ⟨rfl, congrArg some (intv (by simp)), True.intro⟩
  · exact ⟨Nat.le_refl _, Nat.le_refl _⟩
  ·rintro y a w ⟨hy, hpy⟩ hf hh
   have hst := pc_half (x := y) (by omega)
   have hpx := pc_lt (k := 16) (n := x) (by omega) (by omega)
   refine sy_seq ?_
   refine sy_sq ?_
   refine o_v hf hh (yv_move rfl) ?_; clear hf a; intro a hf
   refine o_v hf hh (yv_bin rfl rfl rfl) ?_; clear hf a; intro a hf
   refine o_end ?_
   refine sy_cond hf rfl (fun hg2 => ?_) (fun hg2 => ?_)
   ·have hG2 := hg2; try simp only [gS] at hG2
    refine sy_skip ?_
    refine then_n ?_
    refine sy_block ?_
    refine sy_sq ?_
    refine o_v hf hh (yv_move rfl) ?_; clear hf a; intro a hf
    refine o_v hf hh (yv_move rfl) ?_; clear hf a; intro a hf
    refine o_v hf hh (yv_rem rfl rfl (by omega) (by omega)) ?_; clear hf a; intro a hf
    refine o_v hf hh (y_add rfl rfl) ?_; clear hf a; intro a hf
    refine o_v hf hh (yv_assign rfl) ?_; clear hf a; intro a hf
    refine o_end ?_
    refine sy_ops ?_
    refine o_v hf hh (yv_move rfl) ?_; clear hf a; intro a hf
    refine o_v hf hh (yv_quo rfl rfl (by omega) (by omega) (by omega)) ?_; clear hf a; intro a hf
    refine o_v hf hh (yv_assign rfl) ?_; clear hf a; intro a hf
    refine ops_end ?_
    refine blk_n ?_
    refine then_n ?_
    exact ⟨y / 2, ⟨⟨by omega, by omega⟩, hf.head ⟨congrArg some (intv (by omega)), congrArg some (intv (by omega)), True.intro⟩ (Keep.cons rfl (Keep.cons rfl (Keep.cons rfl (Keep.cons rfl (Keep.cons rfl (Keep.cons rfl (Keep.cons rfl (Keep.cons rfl (Keep.cons rfl (Keep.cons rfl (Keep.app rfl (Keep.rm rfl Keep.base)))))))))))), hh⟩, by omega⟩
   ·have hG2 := hg2; try simp only [gS] at hG2
    refine sy_exit ?_
    refine then_e ?_
    refine then_e ?_
    refine blk_e ?_
    refine then_n ?_
    refine sy_sq ?_
    refine o_v hf hh (yv_move rfl) ?_; clear hf a; intro a hf
    refine o_v hf hh (yv_assign rfl) ?_; clear hf a; intro a hf
    refine o_end ?_
    refine sy_ret ?_
    refine ret_r hf rfl rfl ?_
    obtain rfl : y = 0 := by omega
    exact ⟨intv (by rw [pc_zero]; omega), hh.ext⟩
end Go.Proofs.Ytkfkifkdncdhoaa
namespace Go.RoyM
open Go Go.Sy
/-- Numbers that are not less than nought lie in memory. -/
def NAt (w : World) (sa : Option Addr) (l : List Nat) : Prop :=
  ∀ i x, l[i]? = some x → ∃ blk off c T fr, sa = some ⟨blk, off, none⟩ ∧ w.heap[blk]? = some (.cells c T fr) ∧ c[off + ((i : Nat) : Int).toNat * 1]? = some (.int .i64 ((x : Nat) : Int))
theorem NAt.ext {w w' : World} {sa : Option Addr} {l : List Nat} (h : NAt w sa l) (e : Ext [] w w') : NAt w' sa l := fun i s hi =>
  let ⟨blk, off, c, T, fr, h1, h2, h3⟩ := h i s hi
  ⟨blk, off, c, T, fr, h1, e.get h2, h3⟩
theorem NAt.iat {w : World} {sa : Option Addr} {l : List Nat} (h : NAt w sa l) : IAt w sa (l.map fun x => ((x : Nat) : Int)) := fun i x hi => by
  rw [List.getElem?_map] at hi
  cases e : l[i]? with
  | none => rw [e] at hi; cases hi
  | some y => rw [e] at hi; cases hi; exact h i y e
theorem own_nat {v : Value} {m : Nat} {l : List Nat} {X : List (Nat × Obj)} {w : World} (h : OwnSl 3 1 v m (nvs l) X) (hX : ∀ q ∈ X, w.heap[q.1]? = some q.2) : ∃ oa cap, v = .slice oa m cap ∧ m = l.length ∧ NAt w oa l := by
  rw [nvs_ivs] at h
  obtain ⟨oa, cap, h1, h2, h3⟩ := own_iat h hX
  rw [List.length_map] at h2
  refine ⟨oa, cap, h1, h2, fun i x hi => h3 i ((x : Nat) : Int) (by rw [List.getElem?_map, hi]; rfl)⟩
/-- A weight for an element that has come. -/
def inW (l : List Nat) (g w i : Nat) : Nat := if g ∈ l.take i then w else 0
theorem take_in {l : List Nat} {i x g : Nat} (h : l[i]? = some x) : g ∈ l.take (i + 1) ↔ g ∈ l.take i ∨ g = x := by
  rw [List.take_add_one, h, List.mem_append]
  simp
theorem inW_zero (l : List Nat) (g w : Nat) : inW l g w 0 = 0 := by unfold inW; simp
theorem inW_hit {l : List Nat} (hn : l.Nodup) {i g : Nat} (h : l[i]? = some g) (w : Nat) : inW l g w (i + 1) = inW l g w i + w := by
  unfold inW
  rw [if_pos ((take_in h).2 (.inr rfl)), if_neg, Nat.zero_add]
  intro h1
  obtain ⟨j, hj⟩ := List.mem_iff_getElem?.1 h1
  rw [List.getElem?_take] at hj
  split at hj
  · have := (List.getElem?_inj (len_of hj) hn).1 (hj.trans h.symm)
    omega
  · cases hj
theorem inW_miss {l : List Nat} {i g x : Nat} (h : l[i]? = some x) (hne : ¬ x = g) (w : Nat) : inW l g w (i + 1) = inW l g w i := by
  unfold inW
  by_cases h1 : g ∈ l.take i
  · rw [if_pos h1, if_pos ((take_in h).2 (.inl h1))]
  · rw [if_neg h1, if_neg fun h2 => ((take_in h).1 h2).elim h1 fun e => hne e.symm]
theorem inW_all (l : List Nat) (g w : Nat) : inW l g w l.length = if g ∈ l then w else 0 := by unfold inW; rw [List.take_length]
theorem inW_le (l : List Nat) (g w i : Nat) : inW l g w i ≤ w := by unfold inW; split <;> omega
theorem clm_step {d : RoyD} {k : Int} {g : Nat} (hg : g < d.terms.length) (c : Nat) : bitS (clmB d k g) (c + 1) = bitS (clmB d k g) c + inW (claL d k c d.terms.length) g (2 ^ c) (claL d k c d.terms.length).length := by
  rw [inW_all, bitS]
  congr 1
  cases h : clmB d k g c
  · rw [if_neg (by decide), if_neg fun h1 => by rw [(claL_mem.1 h1).2] at h; cases h]
  · rw [if_pos rfl, if_pos (claL_mem.2 ⟨hg, h⟩)]
theorem sur_step {d : RoyD} {k : Int} {g : Nat} (hg : g < d.terms.length) (c : Nat) : bitS (surB d k g) (c + 1) = bitS (surB d k g) c + inW (claL d k c d.terms.length) g (if (claL d k c d.terms.length).length = 1 then 2 ^ c else 0) (claL d k c d.terms.length).length := by
  rw [inW_all, bitS]
  congr 1
  unfold surB
  cases h : clmB d k g c
  · rw [Bool.false_and, if_neg (by decide), if_neg fun h1 => by rw [(claL_mem.1 h1).2] at h; cases h]
  · rw [if_pos (claL_mem.2 ⟨hg, h⟩), Bool.true_and]
    by_cases h2 : (claL d k c d.terms.length).length = 1
    · rw [if_pos (decide_eq_true h2), if_pos h2]
    · rw [if_neg (by simpa using h2), if_neg h2]
end Go.RoyM
namespace Go.Proofs.Ytkfkifkdncdhoaa
open Go Go.Sy Go.RoyM
set_option maxRecDepth 100000 in
theorem p68 (d : RoyD) (p : Pl) (g : Nat) (k : Int) (u : World) (hR : RoyAt u d p) (hO : RoyOk d) (hg : g < d.terms.length) : Calls Try.prog 68 #[.agg (royC d p), .int .i64 (g : Nat), .int .i64 k] u (Ret fun v w' => v = .tuple #[.int .i64 (surN d k g : Nat), .int .i64 (clm d k g : Nat)] ∧ Ext [] u w') := by
  refine calls_of Try.func68 rfl rfl (fun a hf => ?_)
  have hh := Hp.init u []
  have hnt := hO.nt
  refine sy_sq ?_
  refine o_box hf hh ?_; clear hf hh a; intro B3 a w hf hh
  refine o_v hf hh (yv_assign rfl) ?_; clear hf a; intro a hf
  refine o_v hf hh (yv_assign rfl) ?_; clear hf a; intro a hf
  refine o_end ?_
  refine sy_sq ?_
  refine o_v hf hh (yv_assign rfl) ?_; clear hf a; intro a hf
  refine o_v hf hh (yv_assign rfl) ?_; clear hf a; intro a hf
  refine o_end ?_
  refine sy_seq ?_
  refine sy_sq ?_
  refine o_v hf hh (yv_assign rfl) ?_; clear hf a; intro a hf
  refine o_end ?_
  refine sy_block ?_
  refine sy_loopH (σ := Nat) [8, 9, 10, 11, 12, 13, 14, 15, 16, 17, 18, 19, 20, 21, 22, 23, 24, 25, 26, 27, 28, 29, 30, 31, 32, 33, 34, 35, 36, 37, 38, 39, 40, 41, 42, 43] (fun c => [(8, .int .i64 (bitS (surB d k g) c : Nat)), (9, .int .i64 (bitS (clmB d k g) c : Nat)), (10, .int .i64 (c : Nat))]) (fun c => fun w' => c ≤ 12 ∧ Hp u [] [(B3, .cells (royC d p) 37)] w') (fun c => 12 - c) (0) hf ?_ ?_ ?_
  · repeat' (first | exact True.intro | refine And.intro rfl ?_)
  · exact ⟨by omega, hh⟩
  ·rintro c a w ⟨hc12, hh⟩ hf
   refine sy_seq ?_
   refine sy_sq ?_
   refine o_v hf hh (yv_move rfl) ?_; clear hf a; intro a hf
   refine o_v hf hh (yv_bin rfl rfl rfl) ?_; clear hf a; intro a hf
   refine o_end ?_
   refine sy_cond hf rfl (fun hg2 => ?_) (fun hg2 => ?_)
   ·have hG2 := hg2; try simp only [gS] at hG2
    refine sy_skip ?_
    refine then_n ?_
    refine sy_seq ?_
    refine sy_block ?_
    refine sy_sq ?_
    refine o_v hf hh (y_lds Try.ag_37 rfl) ?_; clear hf a; intro a hf
    refine o_v hf hh (yv_move rfl) ?_; clear hf a; intro a hf
    refine o_v hf hh (yv_move rfl) ?_; clear hf a; intro a hf
    refine o_call hf Try.en_44 rfl rfl rfl (p44 d p k c _ (hR.ext hh.ext)) ?_; clear hf a; intro v a w hR hf
    obtain ⟨X, hOw, hx⟩ := hR; have hcl := claL_len d k c d.terms.length
    have hnd := claL_nodup d k c d.terms.length
    have hsu := sur_step (k := k) hg c
    have hcu := clm_step (k := k) hg c
    have hp2 : 2 ^ c ≤ 2 ^ 11 := Nat.pow_le_pow_right (by omega) (by omega)
    have hb1 := bitS_bd (surB d k g) (i := c) (n := 12) (by omega)
    have hb2 := bitS_bd (clmB d k g) (i := c) (n := 12) (by omega)
    obtain ⟨l, hl⟩ : ∃ l, l = claL d k c d.terms.length := ⟨_, rfl⟩
    obtain ⟨q, hq⟩ : ∃ q, q = 2 ^ c := ⟨_, rfl⟩
    rw [← hl] at hOw hcl hnd hsu hcu; rw [← hq] at hsu hcu hp2
    obtain ⟨oa, cap, rfl, hlm, hN⟩ := own_nat hOw hx.get
    have hh9 := hh.more hx.ext
    have q3 := hh9.at (i := 0) rfl
    obtain ⟨w9, rfl⟩ : ∃ z, z = w := ⟨_, rfl⟩
    replace hh := Hp.init w9 []; clear hx
    refine o_v hf hh (yv_assign rfl) ?_; clear hf a; intro a hf
    refine o_end ?_
    refine sy_sq ?_
    refine o_v hf hh (yv_assign rfl) ?_; clear hf a; intro a hf
    refine o_end ?_
    refine sy_block ?_
    refine sy_loopF (σ := Nat) [8, 9, 12, 21, 22, 23, 24, 25, 26, 27, 28, 29, 30, 31, 32, 33, 34, 35, 36, 37, 38, 39, 40, 41, 42, 43] (fun i => [(8, .int .i64 ((bitS (surB d k g) c + inW l g (if l.length = 1 then q else 0) i : Nat) : Int)), (9, .int .i64 ((bitS (clmB d k g) c + inW l g q i : Nat) : Int)), (12, .int .i64 (i : Nat))]) (fun i => i ≤ l.length) (fun i => l.length - i) (0) hf hh ?_ ?_ ?_
    · exact ⟨congrArg some (intv (by rw [inW_zero, Nat.add_zero])), congrArg some (intv (by rw [inW_zero, Nat.add_zero])), rfl, True.intro⟩
    · exact Nat.zero_le _
    ·rintro i a w hi hf hh
     refine sy_seq ?_
     refine sy_sq ?_
     refine o_v hf hh (yv_move rfl) ?_; clear hf a; intro a hf
     refine o_v hf hh (yv_move rfl) ?_; clear hf a; intro a hf
     refine o_v hf hh (yv_len Try.se_22 rfl) ?_; clear hf a; intro a hf
     refine o_v hf hh (yv_bin rfl rfl rfl) ?_; clear hf a; intro a hf
     refine o_end ?_
     refine sy_cond hf rfl (fun hg5 => ?_) (fun hg5 => ?_)
     ·have hG5 := hg5; try simp only [gS] at hG5
      refine sy_skip ?_
      refine then_n ?_
      refine sy_seq ?_
      refine sy_block ?_
      refine sy_seq ?_
      obtain ⟨x, hx⟩ := ex_of (l := l) (i := i) (by omega)
      obtain ⟨blk, off, cc, T, fr, e, hb, hc⟩ := hN i x hx; subst e
      have hw1 := inW_le l g q i
      have hw2 := inW_le l g (if l.length = 1 then q else 0) i
      have hw3 : (if l.length = 1 then q else 0) ≤ q := by split <;> omega
      refine sy_ops ?_
      refine o_v hf hh (yv_move rfl) ?_; clear hf a; intro a hf
      refine o_v hf hh (yv_move rfl) ?_; clear hf a; intro a hf
      refine o_v hf hh (y_ix Try.se_22 rfl rfl) ?_; clear hf a; intro a hf
      refine o_v hf hh (y_ld Try.sc_3 rfl) ?_; clear hf a; intro a hf
      refine o_v hf hh (yv_move rfl) ?_; clear hf a; intro a hf
      refine o_v hf hh (yv_bin rfl rfl rfl) ?_; clear hf a; intro a hf
      refine o_end ?_
      refine sy_cond hf rfl (fun hg7 => ?_) (fun hg7 => ?_)
      ·have hG7 := hg7; try simp only [gS] at hG7
       refine sy_seq ?_
       have hxg : x = g := by omega
       subst hxg
       have hi1 := inW_hit hnd hx q
       have hi2 := inW_hit hnd hx (if l.length = 1 then q else 0)
       have hw4 := inW_le l x q (i + 1)
       have hw5 := inW_le l x (if l.length = 1 then q else 0) (i + 1)
       refine sy_ops ?_
       refine o_v hf hh (yv_move rfl) ?_; clear hf a; intro a hf
       refine o_v hf hh (yv_move rfl) ?_; clear hf a; intro a hf
       refine o_call hf Try.en_97 rfl rfl rfl (p97 c (by omega) _) ?_; clear hf a; intro v a w hR hf
       rw [← hq] at hR
       obtain ⟨rfl, hx⟩ := hR; replace hh := hh.more hx; clear hx
       refine o_v hf hh (y_add rfl rfl) ?_; clear hf a; intro a hf
       refine o_v hf hh (yv_assign rfl) ?_; clear hf a; intro a hf
       refine o_end ?_
       refine sy_sq ?_
       refine o_v hf hh (yv_move rfl) ?_; clear hf a; intro a hf
       refine o_v hf hh (yv_len Try.se_22 rfl) ?_; clear hf a; intro a hf
       refine o_v hf hh (yv_bin rfl rfl rfl) ?_; clear hf a; intro a hf
       refine o_end ?_
       refine sy_cond hf rfl (fun hg10 => ?_) (fun hg10 => ?_)
       ·have hG10 := hg10; try simp only [gS] at hG10
        refine sy_ops ?_
        refine o_v hf hh (yv_move rfl) ?_; clear hf a; intro a hf
        refine o_v hf hh (yv_move rfl) ?_; clear hf a; intro a hf
        refine o_call hf Try.en_97 rfl rfl rfl (p97 c (by omega) _) ?_; clear hf a; intro v a w hR hf
        rw [← hq] at hR
        obtain ⟨rfl, hx⟩ := hR; replace hh := hh.more hx; clear hx
        refine o_v hf hh (y_add rfl rfl) ?_; clear hf a; intro a hf
        refine o_v hf hh (yv_assign rfl) ?_; clear hf a; intro a hf
        refine ops_end ?_
        refine blk_n ?_
        refine then_n ?_
        refine sy_ops ?_
        refine o_v hf hh (yv_move rfl) ?_; clear hf a; intro a hf
        refine o_v hf hh (y_add rfl rfl) ?_; clear hf a; intro a hf
        refine o_v hf hh (yv_assign rfl) ?_; clear hf a; intro a hf
        refine ops_end ?_
        refine then_n ?_
        first
          | (have hl1 : l.length = 1 := by omega
             rw [if_pos hl1] at hi2
             exact ⟨i + 1, ⟨by omega, hf.head ⟨congrArg some (intv (by rw [if_pos hl1] at hf ⊢; omega)), congrArg some (intv (by omega)), rfl, True.intro⟩ (Keep.cons rfl (Keep.cons rfl (Keep.cons rfl (Keep.cons rfl (Keep.cons rfl (Keep.cons rfl (Keep.cons rfl (Keep.cons rfl (Keep.cons rfl (Keep.cons rfl (Keep.cons rfl (Keep.cons rfl (Keep.cons rfl (Keep.cons rfl (Keep.cons rfl (Keep.cons rfl (Keep.cons rfl (Keep.cons rfl (Keep.cons rfl (Keep.cons rfl (Keep.cons rfl (Keep.cons rfl (Keep.cons rfl (Keep.cons rfl (Keep.cons rfl (Keep.cons rfl (Keep.app rfl (Keep.rm rfl Keep.base)))))))))))))))))))))))))))), hh⟩, by omega⟩)
          | (have hl1 : ¬ l.length = 1 := by omega
             rw [if_neg hl1] at hi2
             exact ⟨i + 1, ⟨by omega, hf.head ⟨congrArg some (intv (by rw [if_neg hl1]; omega)), congrArg some (intv (by omega)), rfl, True.intro⟩ (Keep.cons rfl (Keep.cons rfl (Keep.cons rfl (Keep.cons rfl (Keep.cons rfl (Keep.cons rfl (Keep.cons rfl (Keep.cons rfl (Keep.cons rfl (Keep.cons rfl (Keep.cons rfl (Keep.cons rfl (Keep.cons rfl (Keep.cons rfl (Keep.cons rfl (Keep.cons rfl (Keep.cons rfl (Keep.cons rfl (Keep.cons rfl (Keep.cons rfl (Keep.cons rfl (Keep.cons rfl (Keep.cons rfl (Keep.cons rfl (Keep.cons rfl (Keep.cons rfl (Keep.app rfl (Keep.rm rfl Keep.base)))))))))))))))))))))))))))), hh⟩, by omega⟩)
          | (have hxg : ¬ x = g := by omega
             exact ⟨i + 1, ⟨by omega, hf.head ⟨congrArg some (intv (by rw [inW_miss hx hxg])), congrArg some (intv (by rw [inW_miss hx hxg])), rfl, True.intro⟩ (Keep.cons rfl (Keep.cons rfl (Keep.cons rfl (Keep.cons rfl (Keep.cons rfl (Keep.cons rfl (Keep.cons rfl (Keep.cons rfl (Keep.cons rfl (Keep.cons rfl (Keep.cons rfl (Keep.cons rfl (Keep.cons rfl (Keep.cons rfl (Keep.cons rfl (Keep.cons rfl (Keep.cons rfl (Keep.cons rfl (Keep.cons rfl (Keep.cons rfl (Keep.cons rfl (Keep.cons rfl (Keep.cons rfl (Keep.cons rfl (Keep.cons rfl (Keep.cons rfl (Keep.app rfl (Keep.rm rfl Keep.base)))))))))))))))))))))))))))), hh⟩, by omega⟩)
       ·have hG10 := hg10; try simp only [gS] at hG10
        refine sy_skip ?_
        refine blk_n ?_
        refine then_n ?_
        refine sy_ops ?_
        refine o_v hf hh (yv_move rfl) ?_; clear hf a; intro a hf
        refine o_v hf hh (y_add rfl rfl) ?_; clear hf a; intro a hf
        refine o_v hf hh (yv_assign rfl) ?_; clear hf a; intro a hf
        refine ops_end ?_
        refine then_n ?_
        first
          | (have hl1 : l.length = 1 := by omega
             rw [if_pos hl1] at hi2
             exact ⟨i + 1, ⟨by omega, hf.head ⟨congrArg some (intv (by rw [if_pos hl1] at hf ⊢; omega)), congrArg some (intv (by omega)), rfl, True.intro⟩ (Keep.cons rfl (Keep.cons rfl (Keep.cons rfl (Keep.cons rfl (Keep.cons rfl (Keep.cons rfl (Keep.cons rfl (Keep.cons rfl (Keep.cons rfl (Keep.cons rfl (Keep.cons rfl (Keep.cons rfl (Keep.cons rfl (Keep.cons rfl (Keep.cons rfl (Keep.cons rfl (Keep.cons rfl (Keep.cons rfl (Keep.cons rfl (Keep.cons rfl (Keep.cons rfl (Keep.app rfl (Keep.rm rfl Keep.base))))))))))))))))))))))), hh⟩, by omega⟩)
          | (have hl1 : ¬ l.length = 1 := by omega
             rw [if_neg hl1] at hi2
             exact ⟨i + 1, ⟨by omega, hf.head ⟨congrArg some (intv (by rw [if_neg hl1]; omega)), congrArg some (intv (by omega)), rfl, True.intro⟩ (Keep.cons rfl (Keep.cons rfl (Keep.cons rfl (Keep.cons rfl (Keep.cons rfl (Keep.cons rfl (Keep.cons rfl (Keep.cons rfl (Keep.cons rfl (Keep.cons rfl (Keep.cons rfl (Keep.cons rfl (Keep.cons rfl (Keep.cons rfl (Keep.cons rfl (Keep.cons rfl (Keep.cons rfl (Keep.cons rfl (Keep.cons rfl (Keep.cons rfl (Keep.cons rfl (Keep.app rfl (Keep.rm rfl Keep.base))))))))))))))))))))))), hh⟩, by omega⟩)
          | (have hxg : ¬ x = g := by omega
             exact ⟨i + 1, ⟨by omega, hf.head ⟨congrArg some (intv (by rw [inW_miss hx hxg])), congrArg some (intv (by rw [inW_miss hx hxg])), rfl, True.intro⟩ (Keep.cons rfl (Keep.cons rfl (Keep.cons rfl (Keep.cons rfl (Keep.cons rfl (Keep.cons rfl (Keep.cons rfl (Keep.cons rfl (Keep.cons rfl (Keep.cons rfl (Keep.cons rfl (Keep.cons rfl (Keep.cons rfl (Keep.cons rfl (Keep.cons rfl (Keep.cons rfl (Keep.cons rfl (Keep.cons rfl (Keep.cons rfl (Keep.cons rfl (Keep.cons rfl (Keep.app rfl (Keep.rm rfl Keep.base))))))))))))))))))))))), hh⟩, by omega⟩)
      ·have hG7 := hg7; try simp only [gS] at hG7
       refine sy_skip ?_
       refine blk_n ?_
       refine then_n ?_
       refine sy_ops ?_
       refine o_v hf hh (yv_move rfl) ?_; clear hf a; intro a hf
       refine o_v hf hh (y_add rfl rfl) ?_; clear hf a; intro a hf
       refine o_v hf hh (yv_assign rfl) ?_; clear hf a; intro a hf
       refine ops_end ?_
       refine then_n ?_
       first
         | (have hl1 : l.length = 1 := by omega
            rw [if_pos hl1] at hi2
            exact ⟨i + 1, ⟨by omega, hf.head ⟨congrArg some (intv (by rw [if_pos hl1] at hf ⊢; omega)), congrArg some (intv (by omega)), rfl, True.intro⟩ (Keep.cons rfl (Keep.cons rfl (Keep.cons rfl (Keep.cons rfl (Keep.cons rfl (Keep.cons rfl (Keep.cons rfl (Keep.cons rfl (Keep.cons rfl (Keep.cons rfl (Keep.cons rfl (Keep.cons rfl (Keep.cons rfl (Keep.app rfl (Keep.rm rfl Keep.base))))))))))))))), hh⟩, by omega⟩)
         | (have hl1 : ¬ l.length = 1 := by omega
            rw [if_neg hl1] at hi2
            exact ⟨i + 1, ⟨by omega, hf.head ⟨congrArg some (intv (by rw [if_neg hl1]; omega)), congrArg some (intv (by omega)), rfl, True.intro⟩ (Keep.cons rfl (Keep.cons rfl (Keep.cons rfl (Keep.cons rfl (Keep.cons rfl (Keep.cons rfl (Keep.cons rfl (Keep.cons rfl (Keep.cons rfl (Keep.cons rfl (Keep.cons rfl (Keep.cons rfl (Keep.cons rfl (Keep.app rfl (Keep.rm rfl Keep.base))))))))))))))), hh⟩, by omega⟩)
         | (have hxg : ¬ x = g := by omega
            exact ⟨i + 1, ⟨by omega, hf.head ⟨congrArg some (intv (by rw [inW_miss hx hxg])), congrArg some (intv (by rw [inW_miss hx hxg])), rfl, True.intro⟩ (Keep.cons rfl (Keep.cons rfl (Keep.cons rfl (Keep.cons rfl (Keep.cons rfl (Keep.cons rfl (Keep.cons rfl (Keep.cons rfl (Keep.cons rfl (Keep.cons rfl (Keep.cons rfl (Keep.cons rfl (Keep.cons rfl (Keep.app rfl (Keep.rm rfl Keep.base))))))))))))))), hh⟩, by omega⟩)
     ·have hG5 := hg5; try simp only [gS] at hG5
      refine sy_exit ?_
      refine then_e ?_
      refine then_e ?_
      refine blk_e ?_
      refine blk_n ?_
      refine then_n ?_
      refine sy_ops ?_
      refine o_v hf hh (yv_move rfl) ?_; clear hf a; intro a hf
      refine o_v hf hh (y_add rfl rfl) ?_; clear hf a; intro a hf
      refine o_v hf hh (yv_assign rfl) ?_; clear hf a; intro a hf
      refine ops_end ?_
      refine then_n ?_
      exact ⟨c + 1, ⟨⟨by omega, hh9.more hh.ext⟩, hf.head ⟨congrArg some (intv (by rw [hsu, show i = l.length by omega])), congrArg some (intv (by rw [hcu, show i = l.length by omega])), rfl, True.intro⟩ (Keep.cons rfl (Keep.cons rfl (Keep.cons rfl (Keep.cons rfl (Keep.cons rfl (Keep.cons rfl (Keep.cons rfl (Keep.app rfl (Keep.rm rfl (Keep.cons rfl (Keep.cons rfl (Keep.cons rfl (Keep.cons rfl (Keep.cons rfl (Keep.cons rfl (Keep.cons rfl (Keep.cons rfl (Keep.app rfl (Keep.rm rfl Keep.base)))))))))))))))))))⟩, by omega⟩
   ·have hG2 := hg2; try simp only [gS] at hG2
    refine sy_exit ?_
    refine then_e ?_
    refine then_e ?_
    refine blk_e ?_
    refine then_n ?_
    refine sy_sq ?_
    refine o_v hf hh (yv_move rfl) ?_; clear hf a; intro a hf
    refine o_v hf hh (yv_move rfl) ?_; clear hf a; intro a hf
    refine o_v hf hh (yv_assign rfl) ?_; clear hf a; intro a hf
    refine o_v hf hh (yv_assign rfl) ?_; clear hf a; intro a hf
    refine o_end ?_
    refine sy_ret ?_
    refine ret_r hf rfl rfl ?_
    obtain rfl : c = 12 := by omega
    exact ⟨by rw [sur_sum hO, clm_sum hO]; rfl, hh.ext⟩
end Go.Proofs.Ytkfkifkdncdhoaa
namespace Go.RoyM
open Go Go.Sy
theorem owe_bd {d : RoyD} (hO : RoyOk d) {g : Nat} (hg : g < d.terms.length) (F : Nat → Nat) (hF : ∀ k, F k ≤ 12) {i : Nat} (hi : i ≤ d.prices.length) : -5497558138880 ≤ sumI (-(d.paid.getD g 0) :: (List.range i).map fun k => comV (termN d g) (d.prices.getD k 0) (F k : Nat)) ∧ sumI (-(d.paid.getD g 0) :: (List.range i).map fun k => comV (termN d g) (d.prices.getD k 0) (F k : Nat)) ≤ 5497558138880 := by
  obtain ⟨t, ht⟩ := ex_of hg
  obtain ⟨pd, hpd⟩ := ex_of (l := d.paid) (i := g) (by have := hO.npd; omega)
  have hp := hO.pd pd (List.mem_of_getElem? hpd)
  rw [getD_at hpd, term_at ht]
  have h := sum_bd (b := 1099511627776) (l := -pd :: (List.range i).map fun k => comV t (d.prices.getD k 0) (F k : Nat)) (fun x hx => by
    rcases List.mem_cons.1 hx with rfl | hx
    · omega
    · obtain ⟨k, hk, rfl⟩ := List.mem_map.1 hx
      obtain ⟨pr, hpr⟩ := ex_of (l := d.prices) (i := k) (by have := List.mem_range.1 hk; omega)
      have hb := hO.p pr (List.mem_of_getElem? hpr)
      rw [getD_at hpr]
      have := com_bd (hO.t t (List.mem_of_getElem? ht)) hb.1 hb.2 (hF k)
      omega)
  have h4 := hO.np
  have h5 : (-pd :: (List.range i).map fun k => comV t (d.prices.getD k 0) (F k : Nat)).length = i + 1 := by simp
  rw [h5] at h
  omega
theorem low_sum {d : RoyD} {g i : Nat} {x : Int} (hx : d.prices[i]? = some x) : sumI (lowL d g (i + 1)) = sumI (lowL d g i) + comV (termN d g) x (pc (surN d i g) : Nat) := by
  rw [lowL_succ, sumI_app, getD_at hx]
  show _ + (0 + _) = _
  rw [Int.zero_add]
theorem hig_sum {d : RoyD} {g i : Nat} {x : Int} (hx : d.prices[i]? = some x) : sumI (higL d g (i + 1)) = sumI (higL d g i) + comV (termN d g) x (pc (clm d i g) : Nat) := by
  rw [higL_succ, sumI_app, getD_at hx]
  show _ + (0 + _) = _
  rw [Int.zero_add]
/-- The most parts of a sharing. -/
def mxN (l : List (List Int)) : Nat := l.foldl (fun m x => max m x.length) 0
theorem mx_take {l : List (List Int)} {i : Nat} {x : List Int} (h : l[i]? = some x) : mxN (l.take (i + 1)) = max (mxN (l.take i)) x.length := by
  unfold mxN
  rw [List.take_add_one, h, List.foldl_append]; rfl
theorem mx_fold : ∀ (l : List (List Int)) (m : Nat), m ≤ l.foldl (fun m x => max m x.length) m ∧ ∀ x ∈ l, x.length ≤ l.foldl (fun m x => max m x.length) m
  | [], m => ⟨Nat.le_refl _, by simp⟩
  | y :: l, m => by
    obtain ⟨h1, h2⟩ := mx_fold l (max m y.length)
    rw [List.foldl_cons]
    refine ⟨by omega, fun x hx => ?_⟩
    rcases List.mem_cons.1 hx with rfl | hx
    · omega
    · exact h2 x hx
def grB (d : RoyD) : Bool := decide (16 < d.terms.length) || (decide (16 < d.prices.length) || (decide (16 < d.shares.length) || (decide (60 < d.reps.length) || (decide (16 < d.paid.length) || decide (20 < mxN d.shares)))))
theorem gr_no {d : RoyD} (h : grB d = false) : d.terms.length ≤ 16 ∧ d.prices.length ≤ 16 ∧ d.shares.length ≤ 16 ∧ d.reps.length ≤ 60 ∧ d.paid.length ≤ 16 ∧ ∀ l ∈ d.shares, l.length ≤ 20 := by
  unfold grB at h
  simp only [Bool.or_eq_false_iff, decide_eq_false_iff_not] at h
  obtain ⟨h1, h2, h3, h4, h5, h6⟩ := h
  refine ⟨by omega, by omega, by omega, by omega, by omega, fun l hl => ?_⟩
  have h7 : l.length ≤ mxN d.shares := (mx_fold d.shares 0).2 l hl
  omega
/-- No two reports with a card in common so far, as the document looks for them. -/
theorem meet_no {d : RoyD} {x y : RepD} (hx : RepOk d x) (hy : RepOk d y) (h : ∀ c : Nat, c < 12 → ¬ (hasB x x.kd c = true ∧ hasB y x.kd c = true)) : meetB x y = false := Bool.eq_false_iff.2 fun e => by
  obtain ⟨c, hc, h1, h2⟩ := (meet_iff hx hy).1 e
  exact h c hc ⟨h1, h2⟩
end Go.RoyM
namespace Go.Proofs.Ytkfkifkdncdhoaa
open Go Go.Sy Go.RoyM
/-- Royalties of any size in memory. -/
structure RoyIn (w : World) (d : RoyD) (p : Pl) : Prop where
  tm : TAt 3 tmC w p.st d.terms
  pr : IAt w p.sp d.prices
  sh : LAt w p.ss d.shares
  rp : TAt 4 rpC w p.sr d.reps
  pd : IAt w p.sd d.paid
  n1 : d.terms.length ≤ maxLen
  n2 : d.prices.length ≤ maxLen
  n3 : d.shares.length ≤ maxLen
  n4 : d.reps.length ≤ maxLen
  n5 : d.paid.length ≤ maxLen
  n6 : ∀ l ∈ d.shares, l.length ≤ maxLen
  cap : d.reps.length ≤ p.cr
  caps : d.shares.length ≤ p.cs
theorem RoyIn.ext {w w' : World} {d : RoyD} {p : Pl} (h : RoyIn w d p) (e : Ext [] w w') : RoyIn w' d p :=
  ⟨h.tm.ext e, h.pr.ext e, h.sh.ext e, h.rp.ext e, h.pd.ext e, h.n1, h.n2, h.n3, h.n4, h.n5, h.n6, h.cap, h.caps⟩
theorem RoyIn.at {w : World} {d : RoyD} {p : Pl} (h : RoyIn w d p) (hg : grB d = false) : RoyAt w d p := by
  obtain ⟨h1, h2, h3, h4, h5, h6⟩ := gr_no hg
  exact ⟨h.tm, h.pr, h.sh, h.rp, h.pd, by omega, by omega, by omega, by omega, by omega, fun l hl => by have := h6 l hl; omega, h.cap⟩
theorem p20 (d : RoyD) (p : Pl) (u : World) (hR : RoyIn u d p) : Calls Try.prog 20 #[.agg (royC d p)] u (Ret fun v w' => v = .bool (grB d) ∧ Ext [] u w') := by
  refine calls_of Try.func20 rfl rfl (fun a hf => ?_)
  have hh := Hp.init u []
  obtain ⟨st, sp, ss, sr, sd, ct, cp, cs, cr, cd⟩ := p
  have hn3 := hR.n3; simp only [maxLen] at hn3
  refine sy_sq ?_
  refine o_box hf hh ?_; clear hf hh a; intro B1 a w hf hh
  refine o_v hf hh (yv_assign rfl) ?_; clear hf a; intro a hf
  refine o_end ?_
  refine sy_sq ?_
  refine o_v hf hh (yv_assign rfl) ?_; clear hf a; intro a hf
  refine o_end ?_
  refine sy_seq ?_
  refine sy_sq ?_
  refine o_v hf hh (yv_fieldAddr Try.fo_37_2 rfl) ?_; clear hf a; intro a hf
  refine o_v hf hh (y_ld Try.sc_34 rfl) ?_; clear hf a; intro a hf
  refine o_v hf hh (yv_len Try.se_34 rfl) ?_; clear hf a; intro a hf
  refine o_v hf hh (yv_move rfl) ?_; clear hf a; intro a hf
  refine o_end ?_
  refine sy_block ?_
  refine sy_loopF (σ := Nat) [3, 5, 9, 10, 11, 12, 13, 14, 15, 16, 17] (fun i => [(3, .int .i64 (mxN (d.shares.take i) : Nat)), (9, .int .i64 (i : Nat))]) (fun i => i ≤ d.shares.length) (fun i => d.shares.length - i) (0) hf hh ?_ ?_ ?_
  · repeat' (first | exact True.intro | refine And.intro rfl ?_)
  · exact Nat.zero_le _
  ·rintro i a w hi hf hh
   refine sy_sq ?_
   refine o_v hf hh (yv_bin rfl rfl rfl) ?_; clear hf a; intro a hf
   refine o_end ?_
   refine sy_seq ?_
   refine sy_cond hf rfl (fun hg2 => ?_) (fun hg2 => ?_)
   ·have hG2 := hg2; try simp only [gS] at hG2
    refine sy_skip ?_
    refine then_n ?_
    refine sy_seq ?_
    refine sy_block ?_
    refine sy_seq ?_
    obtain ⟨x, hx⟩ := ex_of (l := d.shares) (i := i) (by omega)
    obtain ⟨blk, off, cc, T, fr, sb, cb, e, hb, hc, hI⟩ := hR.sh i x hx; dsimp only at e; subst e
    have hmt := mx_take hx
    refine sy_ops ?_
    refine o_v hf hh (y_ix Try.se_34 rfl rfl) ?_; clear hf a; intro a hf
    refine o_v hf hh (y_ld Try.sc_22 rfl) ?_; clear hf a; intro a hf
    refine o_v hf hh (yv_assign rfl) ?_; clear hf a; intro a hf
    refine o_end ?_
    refine sy_ops ?_
    refine o_v hf hh (yv_move rfl) ?_; clear hf a; intro a hf
    refine o_v hf hh (yv_move rfl) ?_; clear hf a; intro a hf
    refine o_v hf hh (yv_len Try.se_22 rfl) ?_; clear hf a; intro a hf
    refine o_v hf hh (yv_max rfl rfl) ?_; clear hf a; intro a hf
    refine o_v hf hh (yv_assign rfl) ?_; clear hf a; intro a hf
    refine ops_end ?_
    refine blk_n ?_
    refine then_n ?_
    refine sy_ops ?_
    refine o_v hf hh (y_add rfl rfl) ?_; clear hf a; intro a hf
    refine o_v hf hh (yv_move rfl) ?_; clear hf a; intro a hf
    refine ops_end ?_
    refine then_n ?_
    exact ⟨i + 1, ⟨by omega, hf.head ⟨congrArg some (intv (by rw [hmt]; omega)), rfl, True.intro⟩ (Keep.cons rfl (Keep.cons rfl (Keep.cons rfl (Keep.cons rfl (Keep.cons rfl (Keep.cons rfl (Keep.cons rfl (Keep.cons rfl (Keep.cons rfl (Keep.cons rfl (Keep.cons rfl (Keep.app rfl (Keep.rm rfl Keep.base))))))))))))), hh⟩, by omega⟩
   ·have hG2 := hg2; try simp only [gS] at hG2
    refine sy_exit ?_
    refine then_e ?_
    refine then_e ?_
    refine blk_e ?_
    refine then_n ?_
    refine sy_seq ?_
    obtain rfl : i = d.shares.length := by omega
    rw [List.take_length] at hf
    refine sy_ops ?_
    refine o_v hf hh (yv_fieldAddr Try.fo_37_0 rfl) ?_; clear hf a; intro a hf
    refine o_v hf hh (y_ld Try.sc_33 rfl) ?_; clear hf a; intro a hf
    refine o_v hf hh (yv_len Try.se_33 rfl) ?_; clear hf a; intro a hf
    refine o_v hf hh (yv_bin rfl rfl rfl) ?_; clear hf a; intro a hf
    refine o_v hf hh (yv_move rfl) ?_; clear hf a; intro a hf
    refine guard_split hf (t := 22) rfl (fun hg4 => ?_) (fun hg4 => ?_)
    ·have hG4 := hg4; try simp only [gS] at hG4
     refine o_off hf ?_; clear hf a; intro a hf
     refine o_off hf ?_; clear hf a; intro a hf
     refine o_off hf ?_; clear hf a; intro a hf
     refine o_off hf ?_; clear hf a; intro a hf
     refine o_v hf hh (y_pt rfl rfl) ?_; clear hf a; intro a hf
     refine o_v hf hh (yv_move rfl) ?_; clear hf a; intro a hf
     refine o_off hf ?_; clear hf a; intro a hf
     refine o_off hf ?_; clear hf a; intro a hf
     refine o_off hf ?_; clear hf a; intro a hf
     refine o_off hf ?_; clear hf a; intro a hf
     refine o_v hf hh (y_pt rfl rfl) ?_; clear hf a; intro a hf
     refine o_v hf hh (yv_move rfl) ?_; clear hf a; intro a hf
     refine o_off hf ?_; clear hf a; intro a hf
     refine o_off hf ?_; clear hf a; intro a hf
     refine o_off hf ?_; clear hf a; intro a hf
     refine o_off hf ?_; clear hf a; intro a hf
     refine o_v hf hh (y_pt rfl rfl) ?_; clear hf a; intro a hf
     refine o_v hf hh (yv_move rfl) ?_; clear hf a; intro a hf
     refine o_off hf ?_; clear hf a; intro a hf
     refine o_off hf ?_; clear hf a; intro a hf
     refine o_off hf ?_; clear hf a; intro a hf
     refine o_off hf ?_; clear hf a; intro a hf
     refine o_v hf hh (y_pt rfl rfl) ?_; clear hf a; intro a hf
     refine o_v hf hh (yv_move rfl) ?_; clear hf a; intro a hf
     refine o_off hf ?_; clear hf a; intro a hf
     refine o_off hf ?_; clear hf a; intro a hf
     refine o_v hf hh (y_pt rfl rfl) ?_; clear hf a; intro a hf
     refine o_v hf hh (yv_assign rfl) ?_; clear hf a; intro a hf
     refine o_end ?_
     refine sy_ret ?_
     refine ret_r hf rfl rfl ?_
     refine ⟨congrArg Value.bool ?_, hh.ext⟩
     clear hf hh
     unfold grB
     rw [Bool.eq_iff_iff]
     simp only [Bool.or_eq_true, decide_eq_true_eq]
     first
       | omega
       | (simp; omega)
    ·have hG4 := hg4; try simp only [gS] at hG4
     refine o_v hf hh (yv_fieldAddr Try.fo_37_1 rfl) ?_; clear hf a; intro a hf
     refine o_v hf hh (y_ld Try.sc_22 rfl) ?_; clear hf a; intro a hf
     refine o_v hf hh (yv_len Try.se_22 rfl) ?_; clear hf a; intro a hf
     refine o_v hf hh (yv_bin rfl rfl rfl) ?_; clear hf a; intro a hf
     refine o_v hf hh (y_pf rfl rfl) ?_; clear hf a; intro a hf
     refine o_v hf hh (yv_move rfl) ?_; clear hf a; intro a hf
     refine guard_split hf (t := 28) rfl (fun hg6 => ?_) (fun hg6 => ?_)
     ·have hG6 := hg6; try simp only [gS] at hG6
      refine o_off hf ?_; clear hf a; intro a hf
      refine o_off hf ?_; clear hf a; intro a hf
      refine o_off hf ?_; clear hf a; intro a hf
      refine o_off hf ?_; clear hf a; intro a hf
      refine o_v hf hh (y_pt rfl rfl) ?_; clear hf a; intro a hf
      refine o_v hf hh (yv_move rfl) ?_; clear hf a; intro a hf
      refine o_off hf ?_; clear hf a; intro a hf
      refine o_off hf ?_; clear hf a; intro a hf
      refine o_off hf ?_; clear hf a; intro a hf
      refine o_off hf ?_; clear hf a; intro a hf
      refine o_v hf hh (y_pt rfl rfl) ?_; clear hf a; intro a hf
      refine o_v hf hh (yv_move rfl) ?_; clear hf a; intro a hf
      refine o_off hf ?_; clear hf a; intro a hf
      refine o_off hf ?_; clear hf a; intro a hf
      refine o_off hf ?_; clear hf a; intro a hf
      refine o_off hf ?_; clear hf a; intro a hf
      refine o_v hf hh (y_pt rfl rfl) ?_; clear hf a; intro a hf
      refine o_v hf hh (yv_move rfl) ?_; clear hf a; intro a hf
      refine o_off hf ?_; clear hf a; intro a hf
      refine o_off hf ?_; clear hf a; intro a hf
      refine o_v hf hh (y_pt rfl rfl) ?_; clear hf a; intro a hf
      refine o_v hf hh (yv_assign rfl) ?_; clear hf a; intro a hf
      refine o_end ?_
      refine sy_ret ?_
      refine ret_r hf rfl rfl ?_
      refine ⟨congrArg Value.bool ?_, hh.ext⟩
      clear hf hh
      unfold grB
      rw [Bool.eq_iff_iff]
      simp only [Bool.or_eq_true, decide_eq_true_eq]
      first
        | omega
        | (simp; omega)
     ·have hG6 := hg6; try simp only [gS] at hG6
      refine o_v hf hh (yv_fieldAddr Try.fo_37_2 rfl) ?_; clear hf a; intro a hf
      refine o_v hf hh (y_ld Try.sc_34 rfl) ?_; clear hf a; intro a hf
      refine o_v hf hh (yv_len Try.se_34 rfl) ?_; clear hf a; intro a hf
      refine o_v hf hh (yv_bin rfl rfl rfl) ?_; clear hf a; intro a hf
      refine o_v hf hh (y_pf rfl rfl) ?_; clear hf a; intro a hf
      refine o_v hf hh (yv_move rfl) ?_; clear hf a; intro a hf
      refine guard_split hf (t := 34) rfl (fun hg8 => ?_) (fun hg8 => ?_)
      ·have hG8 := hg8; try simp only [gS] at hG8
       refine o_off hf ?_; clear hf a; intro a hf
       refine o_off hf ?_; clear hf a; intro a hf
       refine o_off hf ?_; clear hf a; intro a hf
       refine o_off hf ?_; clear hf a; intro a hf
       refine o_v hf hh (y_pt rfl rfl) ?_; clear hf a; intro a hf
       refine o_v hf hh (yv_move rfl) ?_; clear hf a; intro a hf
       refine o_off hf ?_; clear hf a; intro a hf
       refine o_off hf ?_; clear hf a; intro a hf
       refine o_off hf ?_; clear hf a; intro a hf
       refine o_off hf ?_; clear hf a; intro a hf
       refine o_v hf hh (y_pt rfl rfl) ?_; clear hf a; intro a hf
       refine o_v hf hh (yv_move rfl) ?_; clear hf a; intro a hf
       refine o_off hf ?_; clear hf a; intro a hf
       refine o_off hf ?_; clear hf a; intro a hf
       refine o_v hf hh (y_pt rfl rfl) ?_; clear hf a; intro a hf
       refine o_v hf hh (yv_assign rfl) ?_; clear hf a; intro a hf
       refine o_end ?_
       refine sy_ret ?_
       refine ret_r hf rfl rfl ?_
       refine ⟨congrArg Value.bool ?_, hh.ext⟩
       clear hf hh
       unfold grB
       rw [Bool.eq_iff_iff]
       simp only [Bool.or_eq_true, decide_eq_true_eq]
       first
         | omega
         | (simp; omega)
      ·have hG8 := hg8; try simp only [gS] at hG8
       refine o_v hf hh (yv_fieldAddr Try.fo_37_3 rfl) ?_; clear hf a; intro a hf
       refine o_v hf hh (y_ld Try.sc_35 rfl) ?_; clear hf a; intro a hf
       refine o_v hf hh (yv_len Try.se_35 rfl) ?_; clear hf a; intro a hf
       refine o_v hf hh (yv_bin rfl rfl rfl) ?_; clear hf a; intro a hf
       refine o_v hf hh (y_pf rfl rfl) ?_; clear hf a; intro a hf
       refine o_v hf hh (yv_move rfl) ?_; clear hf a; intro a hf
       refine guard_split hf (t := 40) rfl (fun hg10 => ?_) (fun hg10 => ?_)
       ·have hG10 := hg10; try simp only [gS] at hG10
        refine o_off hf ?_; clear hf a; intro a hf
        refine o_off hf ?_; clear hf a; intro a hf
        refine o_off hf ?_; clear hf a; intro a hf
        refine o_off hf ?_; clear hf a; intro a hf
        refine o_v hf hh (y_pt rfl rfl) ?_; clear hf a; intro a hf
        refine o_v hf hh (yv_move rfl) ?_; clear hf a; intro a hf
        refine o_off hf ?_; clear hf a; intro a hf
        refine o_off hf ?_; clear hf a; intro a hf
        refine o_v hf hh (y_pt rfl rfl) ?_; clear hf a; intro a hf
        refine o_v hf hh (yv_assign rfl) ?_; clear hf a; intro a hf
        refine o_end ?_
        refine sy_ret ?_
        refine ret_r hf rfl rfl ?_
        refine ⟨congrArg Value.bool ?_, hh.ext⟩
        clear hf hh
        unfold grB
        rw [Bool.eq_iff_iff]
        simp only [Bool.or_eq_true, decide_eq_true_eq]
        first
          | omega
          | (simp; omega)
       ·have hG10 := hg10; try simp only [gS] at hG10
        refine o_v hf hh (yv_fieldAddr Try.fo_37_4 rfl) ?_; clear hf a; intro a hf
        refine o_v hf hh (y_ld Try.sc_22 rfl) ?_; clear hf a; intro a hf
        refine o_v hf hh (yv_len Try.se_22 rfl) ?_; clear hf a; intro a hf
        refine o_v hf hh (yv_bin rfl rfl rfl) ?_; clear hf a; intro a hf
        refine o_v hf hh (y_pf rfl rfl) ?_; clear hf a; intro a hf
        refine o_v hf hh (yv_move rfl) ?_; clear hf a; intro a hf
        refine guard_split hf (t := 46) rfl (fun hg12 => ?_) (fun hg12 => ?_)
        ·have hG12 := hg12; try simp only [gS] at hG12
         refine o_off hf ?_; clear hf a; intro a hf
         refine o_off hf ?_; clear hf a; intro a hf
         refine o_v hf hh (y_pt rfl rfl) ?_; clear hf a; intro a hf
         refine o_v hf hh (yv_assign rfl) ?_; clear hf a; intro a hf
         refine o_end ?_
         refine sy_ret ?_
         refine ret_r hf rfl rfl ?_
         refine ⟨congrArg Value.bool ?_, hh.ext⟩
         clear hf hh
         unfold grB
         rw [Bool.eq_iff_iff]
         simp only [Bool.or_eq_true, decide_eq_true_eq]
         first
           | omega
           | (simp; omega)
        ·have hG12 := hg12; try simp only [gS] at hG12
         refine o_v hf hh (yv_move rfl) ?_; clear hf a; intro a hf
         refine o_v hf hh (yv_bin rfl rfl rfl) ?_; clear hf a; intro a hf
         refine o_v hf hh (y_pf rfl rfl) ?_; clear hf a; intro a hf
         refine o_v hf hh (yv_assign rfl) ?_; clear hf a; intro a hf
         refine o_end ?_
         refine sy_ret ?_
         refine ret_r hf rfl rfl ?_
         refine ⟨congrArg Value.bool ?_, hh.ext⟩
         clear hf hh
         unfold grB
         rw [Bool.eq_iff_iff]
         simp only [Bool.or_eq_true, decide_eq_true_eq]
         first
           | omega
           | (simp; omega)
theorem p24 (d : RoyD) (p : Pl) (g k : Int) (u : World) (hR : RoyAt u d p) : Calls Try.prog 24 #[.agg (royC d p), .int .i64 g, .int .i64 k] u (Ret fun v w' => v = .tuple #[.int .i64 ((claV d g k).1 : Nat), .int .i64 ((claV d g k).2 : Nat), .int .i64 (claE d g k)] ∧ Ext [] u w') := by
  refine calls_of Try.func24 rfl rfl (fun a hf => ?_)
  have hh := Hp.init u []
  refine sy_sq ?_
  refine o_box hf hh ?_; clear hf hh a; intro B3 a w hf hh
  refine o_v hf hh (yv_assign rfl) ?_; clear hf a; intro a hf
  refine o_v hf hh (yv_assign rfl) ?_; clear hf a; intro a hf
  refine o_v hf hh (yv_assign rfl) ?_; clear hf a; intro a hf
  refine o_end ?_
  refine sy_seq ?_
  refine sy_tree1 (.q 0 0 (.q 0 1 (.p 2 (.e1 3 (.p 4 (.q 0 5 (.p 6 (.e1 7 (.p 8 (.e1 9 (.p 10 (.fin)))))))))))) [] Try.follows (by kernel_rfl) hh (fun w hh => ?_)
  refine mc_q rfl rfl hh hf (y_lds Try.ag_37 rfl) (.inl rfl) rfl rfl ?_; clear hf a; intro a hf
  refine mc_q rfl rfl hh hf (y_lds Try.ag_37 rfl) (.inl rfl) rfl rfl ?_; clear hf a; intro a hf
  refine mc_p rfl   hf (yv_move rfl) (.inl rfl) rfl rfl ?_; clear hf a; intro a hf
  refine mc_e rfl fun Q1 => ?_
  refine o_call hf Try.en_67 rfl rfl rfl (p67 d p g _ hR.n1) ?_; clear hf a; intro v a w hR hf
  obtain ⟨rfl, hx⟩ := hR; replace hh := hh.more hx; clear hx
  refine ops_end ?_
  refine then_n ⟨⟨fun _ _ => hh, trivial⟩, ?_⟩
  refine mc_p rfl   hf (yv_move rfl) (.inl rfl) rfl rfl ?_; clear hf a; intro a hf
  refine guard_any hf (t := 16) rfl (fun hg2 => ?_) (fun hg2 => ?_)
  ·have hG2 := hg2; try simp only [gS] at hG2
   refine mc_q rfl rfl hh hf (y_lds Try.ag_37 rfl) (gon rfl rfl rfl (by first | assumption | rfl | (simp; done) | (simp; omega))) rfl rfl ?_; clear hf a; intro a hf
   refine mc_p rfl   hf (yv_move rfl) (gon rfl rfl rfl (by first | assumption | rfl | (simp; done) | (simp; omega))) rfl rfl ?_; clear hf a; intro a hf
   refine mc_e rfl fun Q1 => ?_
   refine o_call hf Try.en_43 rfl rfl rfl (p43 d p k _ hR.n2) ?_; clear hf a; intro v a w hR hf
   obtain ⟨rfl, hx⟩ := hR; replace hh := hh.more hx; clear hx
   refine ops_end ?_
   refine then_n ⟨⟨fun _ _ => hh, trivial⟩, ?_⟩
   refine mc_p rfl   hf (y_pt rfl rfl) (.inl rfl) rfl rfl ?_; clear hf a; intro a hf
   refine mc_e rfl fun Q1 => ?_
   first
     | (refine o_call hf Try.en_66 rfl rfl rfl (p66 d p _ _ (hR.ext hh.ext)) ?_; clear hf a; intro v a w hR2 hf
        rw [show openE d (isKd d k) = claE d g k by unfold claE; simp_all] at hR2)
     | (refine o_call hf Try.en_66 rfl rfl rfl (p66 d p _ _ (hR.ext hh.ext)) ?_; clear hf a; intro v a w hR2 hf
        rw [show openE d false = claE d g k by unfold claE; simp_all] at hR2)
   obtain ⟨rfl, hx⟩ := hR2; replace hh := hh.more hx; clear hx
   refine ops_end ?_
   refine then_n ⟨⟨fun _ _ => hh, trivial⟩, ?_⟩
   refine mc_p rfl   hf (yv_assign rfl) (.inl rfl) rfl rfl ?_; clear hf a; intro a hf
   refine mc_end ?_
   refine then_n ?_
   refine sy_seq ?_
   refine sy_sq ?_
   refine o_v hf hh (yv_move rfl) ?_; clear hf a; intro a hf
   refine o_v hf hh (yv_bin rfl rfl rfl) ?_; clear hf a; intro a hf
   refine o_end ?_
   refine sy_cond hf rfl (fun hg6 => ?_) (fun hg6 => ?_)
   ·have hG6 := hg6; try simp only [gS] at hG6
    refine sy_sq ?_
    refine o_v hf hh (yv_move rfl) ?_; clear hf a; intro a hf
    refine o_v hf hh (yv_assign rfl) ?_; clear hf a; intro a hf
    refine o_v hf hh (yv_assign rfl) ?_; clear hf a; intro a hf
    refine o_v hf hh (yv_assign rfl) ?_; clear hf a; intro a hf
    refine o_end ?_
    refine sy_ret ?_
    refine then_r ?_
    refine ret_r hf rfl rfl ?_
    first
      | (have e1 : claV d g k = (0, 0) := by unfold claV; rw [if_neg (by assumption)]
         exact ⟨by rw [e1]; rfl, hh.ext⟩)
      | exact ⟨by rw [e1, he]; rfl, hh.ext⟩
   ·have hG6 := hg6; try simp only [gS] at hG6
    refine sy_skip ?_
    refine then_n ?_
    refine sy_seq ?_
    have he : claE d g k = 0 := by assumption
    obtain ⟨hok, hask⟩ := openE_zero.1 he
    have hO := royB_iff.1 hok
    rw [Bool.and_eq_true] at hask
    obtain ⟨hg0, hg1⟩ := inI_bd hask.1
    obtain ⟨q, rfl⟩ : ∃ q : Nat, g = q := ⟨g.toNat, by omega⟩
    have e1 : claV d q k = (surN d k q, clm d k q) := by unfold claV; rw [if_pos he]; rfl
    refine sy_ops ?_
    refine o_v hf hh (y_lds Try.ag_37 rfl) ?_; clear hf a; intro a hf
    refine o_v hf hh (yv_move rfl) ?_; clear hf a; intro a hf
    refine o_v hf hh (yv_move rfl) ?_; clear hf a; intro a hf
    refine o_call hf Try.en_68 rfl rfl rfl (p68 d p q k _ (hR.ext hh.ext) hO (by omega)) ?_; clear hf a; intro v a w hR hf
    obtain ⟨rfl, hx⟩ := hR; replace hh := hh.more hx; clear hx
    refine o_v hf hh (yv_move rfl) ?_; clear hf a; intro a hf
    refine o_v hf hh (yv_extract rfl rfl) ?_; clear hf a; intro a hf
    refine o_v hf hh (yv_extract rfl rfl) ?_; clear hf a; intro a hf
    refine o_v hf hh (yv_assign rfl) ?_; clear hf a; intro a hf
    refine o_v hf hh (yv_assign rfl) ?_; clear hf a; intro a hf
    refine o_end ?_
    refine sy_sq ?_
    refine o_v hf hh (yv_move rfl) ?_; clear hf a; intro a hf
    refine o_v hf hh (yv_move rfl) ?_; clear hf a; intro a hf
    refine o_v hf hh (yv_assign rfl) ?_; clear hf a; intro a hf
    refine o_v hf hh (yv_assign rfl) ?_; clear hf a; intro a hf
    refine o_v hf hh (yv_assign rfl) ?_; clear hf a; intro a hf
    refine o_end ?_
    refine sy_ret ?_
    refine ret_r hf rfl rfl ?_
    first
      | (have e1 : claV d g k = (0, 0) := by unfold claV; rw [if_neg (by assumption)]
         exact ⟨by rw [e1]; rfl, hh.ext⟩)
      | exact ⟨by rw [e1, he]; rfl, hh.ext⟩
  ·have hG2 := hg2; try simp only [gS] at hG2
   refine mc_offq rfl rfl hh hf (goff rfl rfl rfl (by first | assumption | rfl | (simp; done) | (simp; omega))) rfl rfl ?_; clear hf a; intro a hf
   refine mc_off rfl hf (goff rfl rfl rfl (by first | assumption | rfl | (simp; done) | (simp; omega))) rfl rfl ?_; clear hf a; intro a hf
   refine mc_e rfl fun Q1 => ?_
   refine o_off hf ?_; clear hf a; intro a hf
   refine ops_end ?_
   refine then_n ⟨⟨fun _ _ => hh, trivial⟩, ?_⟩
   refine mc_p rfl   hf (y_pf rfl rfl) (.inl rfl) rfl rfl ?_; clear hf a; intro a hf
   refine mc_e rfl fun Q1 => ?_
   first
     | (refine o_call hf Try.en_66 rfl rfl rfl (p66 d p _ _ (hR.ext hh.ext)) ?_; clear hf a; intro v a w hR2 hf
        rw [show openE d (isKd d k) = claE d g k by unfold claE; simp_all] at hR2)
     | (refine o_call hf Try.en_66 rfl rfl rfl (p66 d p _ _ (hR.ext hh.ext)) ?_; clear hf a; intro v a w hR2 hf
        rw [show openE d false = claE d g k by unfold claE; simp_all] at hR2)
   obtain ⟨rfl, hx⟩ := hR2; replace hh := hh.more hx; clear hx
   refine ops_end ?_
   refine then_n ⟨⟨fun _ _ => hh, trivial⟩, ?_⟩
   refine mc_p rfl   hf (yv_assign rfl) (.inl rfl) rfl rfl ?_; clear hf a; intro a hf
   refine mc_end ?_
   refine then_n ?_
   refine sy_seq ?_
   refine sy_sq ?_
   refine o_v hf hh (yv_move rfl) ?_; clear hf a; intro a hf
   refine o_v hf hh (yv_bin rfl rfl rfl) ?_; clear hf a; intro a hf
   refine o_end ?_
   refine sy_cond hf rfl (fun hg12 => ?_) (fun hg12 => ?_)
   ·have hG12 := hg12; try simp only [gS] at hG12
    refine sy_sq ?_
    refine o_v hf hh (yv_move rfl) ?_; clear hf a; intro a hf
    refine o_v hf hh (yv_assign rfl) ?_; clear hf a; intro a hf
    refine o_v hf hh (yv_assign rfl) ?_; clear hf a; intro a hf
    refine o_v hf hh (yv_assign rfl) ?_; clear hf a; intro a hf
    refine o_end ?_
    refine sy_ret ?_
    refine then_r ?_
    refine ret_r hf rfl rfl ?_
    first
      | (have e1 : claV d g k = (0, 0) := by unfold claV; rw [if_neg (by assumption)]
         exact ⟨by rw [e1]; rfl, hh.ext⟩)
      | exact ⟨by rw [e1, he]; rfl, hh.ext⟩
   ·have hG12 := hg12; try simp only [gS] at hG12
    refine sy_skip ?_
    refine then_n ?_
    refine sy_seq ?_
    have he : claE d g k = 0 := by assumption
    obtain ⟨hok, hask⟩ := openE_zero.1 he
    have hO := royB_iff.1 hok
    rw [Bool.and_eq_true] at hask
    obtain ⟨hg0, hg1⟩ := inI_bd hask.1
    obtain ⟨q, rfl⟩ : ∃ q : Nat, g = q := ⟨g.toNat, by omega⟩
    have e1 : claV d q k = (surN d k q, clm d k q) := by unfold claV; rw [if_pos he]; rfl
    refine sy_ops ?_
    refine o_v hf hh (y_lds Try.ag_37 rfl) ?_; clear hf a; intro a hf
    refine o_v hf hh (yv_move rfl) ?_; clear hf a; intro a hf
    refine o_v hf hh (yv_move rfl) ?_; clear hf a; intro a hf
    refine o_call hf Try.en_68 rfl rfl rfl (p68 d p q k _ (hR.ext hh.ext) hO (by omega)) ?_; clear hf a; intro v a w hR hf
    obtain ⟨rfl, hx⟩ := hR; replace hh := hh.more hx; clear hx
    refine o_v hf hh (yv_move rfl) ?_; clear hf a; intro a hf
    refine o_v hf hh (yv_extract rfl rfl) ?_; clear hf a; intro a hf
    refine o_v hf hh (yv_extract rfl rfl) ?_; clear hf a; intro a hf
    refine o_v hf hh (yv_assign rfl) ?_; clear hf a; intro a hf
    refine o_v hf hh (yv_assign rfl) ?_; clear hf a; intro a hf
    refine o_end ?_
    refine sy_sq ?_
    refine o_v hf hh (yv_move rfl) ?_; clear hf a; intro a hf
    refine o_v hf hh (yv_move rfl) ?_; clear hf a; intro a hf
    refine o_v hf hh (yv_assign rfl) ?_; clear hf a; intro a hf
    refine o_v hf hh (yv_assign rfl) ?_; clear hf a; intro a hf
    refine o_v hf hh (yv_assign rfl) ?_; clear hf a; intro a hf
    refine o_end ?_
    refine sy_ret ?_
    refine ret_r hf rfl rfl ?_
    first
      | (have e1 : claV d g k = (0, 0) := by unfold claV; rw [if_neg (by assumption)]
         exact ⟨by rw [e1]; rfl, hh.ext⟩)
      | exact ⟨by rw [e1, he]; rfl, hh.ext⟩
set_option maxRecDepth 100000 in
theorem p26 (d : RoyD) (p : Pl) (g : Int) (u : World) (hRR : RoyAt u d p) : Calls Try.prog 26 #[.agg (royC d p), .int .i64 g] u (Ret fun v w' => v = .tuple #[.agg #[.int .i64 (oweV d g).1, .int .i64 (oweV d g).2], .int .i64 (oweE d g)] ∧ Ext [] u w') := by
  refine calls_of Try.func26 rfl rfl (fun a hf => ?_)
  have hh := Hp.init u []
  obtain ⟨st, sp, ss, sr, sd, ct, cp, cs, cr, cd⟩ := p
  have hr2 := hRR.n2
  refine sy_sq ?_
  refine o_box hf hh ?_; clear hf hh a; intro B2 a w hf hh
  refine o_alloc hf hh Try.ze_43 ?_; clear hf hh a; intro B4 a w hf hh
  refine o_v hf hh (yv_assign rfl) ?_; clear hf a; intro a hf
  refine o_end ?_
  refine sy_seq ?_
  refine sy_tree1 (.q 0 0 (.q 0 1 (.p 2 (.e1 3 (.e1 4 (.p 5 (.fin))))))) [] Try.follows (by kernel_rfl) hh (fun w hh => ?_)
  refine mc_q rfl rfl hh hf (y_lds Try.ag_37 rfl) (.inl rfl) rfl rfl ?_; clear hf a; intro a hf
  refine mc_q rfl rfl hh hf (y_lds Try.ag_37 rfl) (.inl rfl) rfl rfl ?_; clear hf a; intro a hf
  refine mc_p rfl   hf (yv_move rfl) (.inl rfl) rfl rfl ?_; clear hf a; intro a hf
  refine mc_e rfl fun Q1 => ?_
  refine o_call hf Try.en_67 rfl rfl rfl (p67 d _ g _ hRR.n1) ?_; clear hf a; intro v a w hR hf
  obtain ⟨rfl, hx⟩ := hR; replace hh := hh.more hx; clear hx
  refine ops_end ?_
  refine then_n ⟨⟨fun _ _ => hh, trivial⟩, ?_⟩
  refine mc_e rfl fun Q1 => ?_
  refine o_call hf Try.en_66 rfl rfl rfl (p66 d _ (isAg d g) _ (hRR.ext hh.ext)) ?_; clear hf a; intro v a w hR hf
  obtain ⟨rfl, hx⟩ := hR; replace hh := hh.more hx; clear hx
  refine ops_end ?_
  refine then_n ⟨⟨fun _ _ => hh, trivial⟩, ?_⟩
  refine mc_p rfl   hf (yv_assign rfl) (.inl rfl) rfl rfl ?_; clear hf a; intro a hf
  refine mc_end ?_
  refine then_n ?_
  refine sy_seq ?_
  refine sy_sq ?_
  refine o_v hf hh (yv_move rfl) ?_; clear hf a; intro a hf
  refine o_v hf hh (yv_bin rfl rfl rfl) ?_; clear hf a; intro a hf
  refine o_end ?_
  refine sy_cond hf rfl (fun hg4 => ?_) (fun hg4 => ?_)
  ·have hG4 := hg4; try simp only [gS] at hG4
   refine sy_sq ?_
   refine o_v hf hh (yv_buildS Try.bs_43 rfl rfl) ?_; clear hf a; intro a hf
   refine o_v hf hh (yv_move rfl) ?_; clear hf a; intro a hf
   refine o_store hf hh Try.sz_43 fun w hh => ?_
   refine o_v hf hh (yv_assign rfl) ?_; clear hf a; intro a hf
   refine o_end ?_
   refine sy_ret ?_
   refine then_r ?_
   refine ret_c (vs := [.agg #[.int .i64 0, .int .i64 0], .int .i64 (openE d (isAg d g))]) hf ?_ ?_
   · exact ⟨⟨B4, 0, _, _, _, rfl, hh.at (i := 0) rfl, .inr ⟨2, _, Try.ag_43, rfl, rfl⟩⟩, rfl, True.intro⟩
   · have ev : oweV d g = (0, 0) := by unfold oweV oweE; rw [if_neg (by assumption)]
     exact ⟨by rw [ev]; rfl, hh.ext⟩
  ·have hG4 := hg4; try simp only [gS] at hG4
   refine sy_skip ?_
   refine then_n ?_
   refine sy_seq ?_
   have he : openE d (isAg d g) = 0 := by assumption
   obtain ⟨hok, hask⟩ := openE_zero.1 he
   have hO := royB_iff.1 hok
   obtain ⟨hg0, hg1⟩ := inI_bd hask
   have hnt := hO.nt; have hnp := hO.np; have hpd := hO.npd
   obtain ⟨q, rfl⟩ : ∃ q : Nat, g = q := ⟨g.toNat, by omega⟩
   obtain ⟨tm, htm⟩ := ex_of (l := d.terms) (i := q) (by omega)
   obtain ⟨pd, hpdq⟩ := ex_of (l := d.paid) (i := q) (by omega)
   have hto := hO.t tm (List.mem_of_getElem? htm)
   have hpb := hO.pd pd (List.mem_of_getElem? hpdq)
   obtain ⟨blk, off, cc, T, fr, e, hb, hc⟩ := hRR.pd q pd hpdq; dsimp only at e; subst e
   obtain ⟨blk3, off3, cc3, T3, fr3, e3, hb3, hc3⟩ := hRR.tm q tm htm; dsimp only at e3; subst e3
   have e9 : lowL d q 0 = [-pd] := by unfold lowL; rw [getD_at hpdq]; rfl
   have e8 : higL d q 0 = [-pd] := by unfold higL; rw [getD_at hpdq]; rfl
   have ev : oweV d q = (sumI (lowL d q d.prices.length), sumI (higL d q d.prices.length)) := by unfold oweV; rw [if_pos (show oweE d q = 0 from he)]; rfl
   have hs12 : ∀ k, pc (surN d k q) ≤ 12 := fun k => pc_12 (sur_lt hO k q)
   have hc12 : ∀ k, pc (clm d k q) ≤ 12 := fun k => pc_12 (clm_lt12 hO k q)
   refine sy_tree1 (.p 0 (.q 0 1 (.p 2 (.p 3 (.q 0 4 (.p 5 (.p 6 (.q 0 7 (.p 8 (.p 9 (.q 0 10 (.p 11 (.p 12 (.e1 13 (.e1 14 (.fin)))))))))))))))) [14] Try.follows (by kernel_rfl) hh (fun w hh => ?_)
   refine mc_p rfl   hf (yv_fieldAddr Try.fo_37_4 rfl) (.inl rfl) rfl rfl ?_; clear hf a; intro a hf
   refine mc_q rfl rfl hh hf (y_ld Try.sc_22 rfl) (.inl rfl) rfl rfl ?_; clear hf a; intro a hf
   refine mc_p rfl   hf (yv_move rfl) (.inl rfl) rfl rfl ?_; clear hf a; intro a hf
   refine mc_p rfl   hf (y_ix Try.se_22 rfl rfl) (.inl rfl) rfl rfl ?_; clear hf a; intro a hf
   refine mc_q rfl rfl hh hf (y_ld Try.sc_3 rfl) (.inl rfl) rfl rfl ?_; clear hf a; intro a hf
   refine mc_p rfl   hf (yv_neg rfl (by omega) (by omega)) (.inl rfl) rfl rfl ?_; clear hf a; intro a hf
   refine mc_p rfl   hf (yv_fieldAddr Try.fo_37_4 rfl) (.inl rfl) rfl rfl ?_; clear hf a; intro a hf
   refine mc_q rfl rfl hh hf (y_ld Try.sc_22 rfl) (.inl rfl) rfl rfl ?_; clear hf a; intro a hf
   refine mc_p rfl   hf (yv_move rfl) (.inl rfl) rfl rfl ?_; clear hf a; intro a hf
   refine mc_p rfl   hf (y_ix Try.se_22 rfl rfl) (.inl rfl) rfl rfl ?_; clear hf a; intro a hf
   refine mc_q rfl rfl hh hf (y_ld Try.sc_3 rfl) (.inl rfl) rfl rfl ?_; clear hf a; intro a hf
   refine mc_p rfl   hf (yv_neg rfl (by omega) (by omega)) (.inl rfl) rfl rfl ?_; clear hf a; intro a hf
   refine mc_p rfl   hf (yv_buildS Try.bs_43 rfl rfl) (.inl rfl) rfl rfl ?_; clear hf a; intro a hf
   refine mc_e rfl fun Q1 => ?_
   refine o_alloc hf hh Try.ze_43 ?_; clear hf hh a; intro B7 a w hf hh
   refine ops_end ?_
   refine then_n ⟨⟨fun _ _ => (hh.less (.cons _ (List.Sublist.refl _))), trivial⟩, ?_⟩
   refine mc_e rfl fun Q1 => ?_
   refine o_store hf hh Try.sz_43 fun w hh => ?_
   refine ops_end ?_
   refine then_n ⟨⟨fun h => Bool.noConfusion (show true = false from h), trivial⟩, ?_⟩
   refine mc_end ?_
   refine then_n ?_
   refine sy_seq ?_
   refine sy_sq ?_
   refine o_v hf hh (yv_assign rfl) ?_; clear hf a; intro a hf
   refine o_end ?_
   refine sy_block ?_
   refine sy_loopH (σ := Nat) [8, 9, 10, 33, 34, 35, 36, 37, 38, 39, 40, 41, 42, 43, 44, 45, 46, 47, 48, 49, 50, 51, 52, 53, 54, 55, 56, 57, 58, 59, 60, 61, 62, 63, 64, 65, 66, 67, 68, 69, 70, 71, 72, 73, 74, 75, 76, 77, 78, 79, 80] (fun i => [(8, .int .i64 (i : Nat))]) (fun i => fun w' => i ≤ d.prices.length ∧ Hp u [] [(B7, .cells #[.int .i64 (sumI (lowL d q i)), .int .i64 (sumI (higL d q i))] 43), (B4, .cells #[.int .i64 0, .int .i64 0] 43), (B2, .cells (royC d ⟨some ⟨blk3, off3, none⟩, sp, ss, sr, some ⟨blk, off, none⟩, ct, cp, cs, cr, cd⟩) 37)] w') (fun i => d.prices.length - i) (0) hf ?_ ?_ ?_
   · repeat' (first | exact True.intro | refine And.intro rfl ?_)
   · refine ⟨Nat.zero_le _, ?_⟩
     rw [e9, e8]
     have e7 : sumI [-pd] = -pd := by rw [sumI_cons, sumI_nil]; omega
     rw [e7]; exact hh
   ·rintro i a w ⟨hi, hh⟩ hf
    refine sy_seq ?_
    refine sy_sq ?_
    refine o_v hf hh (yv_move rfl) ?_; clear hf a; intro a hf
    refine o_v hf hh (yv_fieldAddr Try.fo_37_1 rfl) ?_; clear hf a; intro a hf
    refine o_v hf hh (y_ld Try.sc_22 rfl) ?_; clear hf a; intro a hf
    refine o_v hf hh (yv_len Try.se_22 rfl) ?_; clear hf a; intro a hf
    refine o_v hf hh (yv_bin rfl rfl rfl) ?_; clear hf a; intro a hf
    refine o_end ?_
    refine sy_cond hf rfl (fun hg6 => ?_) (fun hg6 => ?_)
    ·have hG6 := hg6; try simp only [gS] at hG6
     refine sy_skip ?_
     refine then_n ?_
     refine sy_seq ?_
     refine sy_block ?_
     refine sy_seq ?_
     obtain ⟨x, hx⟩ := ex_of (l := d.prices) (i := i) (by omega)
     obtain ⟨blk2, off2, cc2, T2, fr2, e2, hb2, hc2⟩ := hRR.pr i x hx; dsimp only at e2; subst e2
     have hxb := hO.p x (List.mem_of_getElem? hx)
     have hl1 := low_sum (g := q) hx
     have hl2 := hig_sum (g := q) hx
     rw [term_at htm] at hl1 hl2
     have hq1 : -5497558138880 ≤ sumI (lowL d q i) ∧ sumI (lowL d q i) ≤ 5497558138880 := owe_bd hO (by omega) (fun k => pc (surN d k q)) (fun k => hs12 k) (by omega)
     have hq2 : -5497558138880 ≤ sumI (higL d q i) ∧ sumI (higL d q i) ≤ 5497558138880 := owe_bd hO (by omega) (fun k => pc (clm d k q)) (fun k => hc12 k) (by omega)
     have hw1 := com_bd hto hxb.1 hxb.2 (hs12 i)
     have hw2 := com_bd hto hxb.1 hxb.2 (hc12 i)
     have hz1 := hs12 i
     have hz2 := hc12 i
     refine sy_ops ?_
     refine o_v hf hh (y_lds Try.ag_37 rfl) ?_; clear hf a; intro a hf
     refine o_v hf hh (yv_move rfl) ?_; clear hf a; intro a hf
     refine o_v hf hh (yv_move rfl) ?_; clear hf a; intro a hf
     refine o_call hf Try.en_68 rfl rfl rfl (p68 d _ q (i : Nat) _ (hRR.ext hh.ext) hO (by omega)) ?_; clear hf a; intro v a w hR hf
     obtain ⟨rfl, hx⟩ := hR; replace hh := hh.more hx; clear hx
     refine o_v hf hh (yv_move rfl) ?_; clear hf a; intro a hf
     refine o_v hf hh (yv_extract rfl rfl) ?_; clear hf a; intro a hf
     refine o_v hf hh (yv_extract rfl rfl) ?_; clear hf a; intro a hf
     refine o_v hf hh (yv_assign rfl) ?_; clear hf a; intro a hf
     refine o_v hf hh (yv_assign rfl) ?_; clear hf a; intro a hf
     refine o_end ?_
     refine sy_seq ?_
     refine sy_tree1 (.p 0 (.q 0 1 (.p 2 (.q 0 3 (.p 4 (.p 5 (.q 0 6 (.p 7 (.q 0 8 (.p 9 (.p 10 (.q 0 11 (.p 12 (.e1 13 (.e1 14 (.p 15 (.p 16 (.e1 17 (.fin))))))))))))))))))) [17] Try.follows (by kernel_rfl) hh (fun w hh => ?_)
     refine mc_p rfl   hf (yv_fieldAddr Try.fo_43_0 rfl) (.inl rfl) rfl rfl ?_; clear hf a; intro a hf
     refine mc_q rfl rfl hh hf (y_ld Try.sc_3 rfl) (.inl rfl) rfl rfl ?_; clear hf a; intro a hf
     refine mc_p rfl   hf (yv_fieldAddr Try.fo_37_0 rfl) (.inl rfl) rfl rfl ?_; clear hf a; intro a hf
     refine mc_q rfl rfl hh hf (y_ld Try.sc_33 rfl) (.inl rfl) rfl rfl ?_; clear hf a; intro a hf
     refine mc_p rfl   hf (yv_move rfl) (.inl rfl) rfl rfl ?_; clear hf a; intro a hf
     refine mc_p rfl   hf (y_ix Try.se_33 rfl rfl) (.inl rfl) rfl rfl ?_; clear hf a; intro a hf
     refine mc_q rfl rfl hh hf (y_lds Try.ag_24 rfl) (.inl rfl) rfl rfl ?_; clear hf a; intro a hf
     refine mc_p rfl   hf (yv_fieldAddr Try.fo_37_1 rfl) (.inl rfl) rfl rfl ?_; clear hf a; intro a hf
     refine mc_q rfl rfl hh hf (y_ld Try.sc_22 rfl) (.inl rfl) rfl rfl ?_; clear hf a; intro a hf
     refine mc_p rfl   hf (yv_move rfl) (.inl rfl) rfl rfl ?_; clear hf a; intro a hf
     refine mc_p rfl   hf (y_ix Try.se_22 rfl rfl) (.inl rfl) rfl rfl ?_; clear hf a; intro a hf
     refine mc_q rfl rfl hh hf (y_ld Try.sc_3 rfl) (.inl rfl) rfl rfl ?_; clear hf a; intro a hf
     refine mc_p rfl   hf (yv_move rfl) (.inl rfl) rfl rfl ?_; clear hf a; intro a hf
     refine mc_e rfl fun Q1 => ?_
     refine o_call hf Try.en_73 rfl rfl rfl (p73 (surN d i q) (by have := sur_lt hO i q; omega) _) ?_; clear hf a; intro v a w hR hf
     obtain ⟨rfl, hx⟩ := hR; replace hh := hh.more hx; clear hx
     refine ops_end ?_
     refine then_n ⟨⟨fun _ _ => hh, trivial⟩, ?_⟩
     refine mc_e rfl fun Q1 => ?_
     refine o_call hf Try.en_54 rfl rfl rfl (p54 tm hto x (pc (surN d i q) : Nat) hxb.1 hxb.2 (by omega) (by omega) _) ?_; clear hf a; intro v a w hR hf
     obtain ⟨rfl, hx⟩ := hR; replace hh := hh.more hx; clear hx
     refine ops_end ?_
     refine then_n ⟨⟨fun _ _ => hh, trivial⟩, ?_⟩
     refine mc_p rfl   hf (yv_cast (yv_add rfl rfl (by omega) (by omega)) (intv (b := sumI (lowL d q (i + 1))) hl1.symm)) (.inl rfl) rfl rfl ?_; clear hf a; intro a hf
     refine mc_p rfl   hf (yv_fieldAddr Try.fo_43_0 rfl) (.inl rfl) rfl rfl ?_; clear hf a; intro a hf
     refine mc_e rfl fun Q1 => ?_
     refine o_store hf hh Try.sz_3 fun w hh => ?_
     refine ops_end ?_
     refine then_n ⟨⟨fun h => Bool.noConfusion (show true = false from h), trivial⟩, ?_⟩
     refine mc_end ?_
     refine then_n ?_
     refine sy_tree1 (.p 0 (.q 0 1 (.p 2 (.q 0 3 (.p 4 (.p 5 (.q 0 6 (.p 7 (.q 0 8 (.p 9 (.p 10 (.q 0 11 (.p 12 (.e1 13 (.e1 14 (.p 15 (.p 16 (.e1 17 (.fin))))))))))))))))))) [17] Try.follows (by kernel_rfl) hh (fun w hh => ?_)
     refine mc_p rfl   hf (yv_fieldAddr Try.fo_43_1 rfl) (.inl rfl) rfl rfl ?_; clear hf a; intro a hf
     refine mc_q rfl rfl hh hf (y_ld Try.sc_3 rfl) (.inl rfl) rfl rfl ?_; clear hf a; intro a hf
     refine mc_p rfl   hf (yv_fieldAddr Try.fo_37_0 rfl) (.inl rfl) rfl rfl ?_; clear hf a; intro a hf
     refine mc_q rfl rfl hh hf (y_ld Try.sc_33 rfl) (.inl rfl) rfl rfl ?_; clear hf a; intro a hf
     refine mc_p rfl   hf (yv_move rfl) (.inl rfl) rfl rfl ?_; clear hf a; intro a hf
     refine mc_p rfl   hf (y_ix Try.se_33 rfl rfl) (.inl rfl) rfl rfl ?_; clear hf a; intro a hf
     refine mc_q rfl rfl hh hf (y_lds Try.ag_24 rfl) (.inl rfl) rfl rfl ?_; clear hf a; intro a hf
     refine mc_p rfl   hf (yv_fieldAddr Try.fo_37_1 rfl) (.inl rfl) rfl rfl ?_; clear hf a; intro a hf
     refine mc_q rfl rfl hh hf (y_ld Try.sc_22 rfl) (.inl rfl) rfl rfl ?_; clear hf a; intro a hf
     refine mc_p rfl   hf (yv_move rfl) (.inl rfl) rfl rfl ?_; clear hf a; intro a hf
     refine mc_p rfl   hf (y_ix Try.se_22 rfl rfl) (.inl rfl) rfl rfl ?_; clear hf a; intro a hf
     refine mc_q rfl rfl hh hf (y_ld Try.sc_3 rfl) (.inl rfl) rfl rfl ?_; clear hf a; intro a hf
     refine mc_p rfl   hf (yv_move rfl) (.inl rfl) rfl rfl ?_; clear hf a; intro a hf
     refine mc_e rfl fun Q1 => ?_
     refine o_call hf Try.en_73 rfl rfl rfl (p73 (clm d i q) (by have := clm_lt12 hO i q; omega) _) ?_; clear hf a; intro v a w hR hf
     obtain ⟨rfl, hx⟩ := hR; replace hh := hh.more hx; clear hx
     refine ops_end ?_
     refine then_n ⟨⟨fun _ _ => hh, trivial⟩, ?_⟩
     refine mc_e rfl fun Q1 => ?_
     refine o_call hf Try.en_54 rfl rfl rfl (p54 tm hto x (pc (clm d i q) : Nat) hxb.1 hxb.2 (by omega) (by omega) _) ?_; clear hf a; intro v a w hR hf
     obtain ⟨rfl, hx⟩ := hR; replace hh := hh.more hx; clear hx
     refine ops_end ?_
     refine then_n ⟨⟨fun _ _ => hh, trivial⟩, ?_⟩
     refine mc_p rfl   hf (yv_cast (yv_add rfl rfl (by omega) (by omega)) (intv (b := sumI (higL d q (i + 1))) hl2.symm)) (.inl rfl) rfl rfl ?_; clear hf a; intro a hf
     refine mc_p rfl   hf (yv_fieldAddr Try.fo_43_1 rfl) (.inl rfl) rfl rfl ?_; clear hf a; intro a hf
     refine mc_e rfl fun Q1 => ?_
     refine o_store hf hh Try.sz_3 fun w hh => ?_
     refine ops_end ?_
     refine then_n ⟨⟨fun h => Bool.noConfusion (show true = false from h), trivial⟩, ?_⟩
     refine mc_end ?_
     refine blk_n ?_
     refine then_n ?_
     refine sy_ops ?_
     refine o_v hf hh (yv_move rfl) ?_; clear hf a; intro a hf
     refine o_v hf hh (y_add rfl rfl) ?_; clear hf a; intro a hf
     refine o_v hf hh (yv_assign rfl) ?_; clear hf a; intro a hf
     refine ops_end ?_
     refine then_n ?_
     exact ⟨i + 1, ⟨⟨by omega, hh⟩, (hf.head (by repeat' (first | exact True.intro | refine And.intro rfl ?_)) (Keep.cons rfl (Keep.cons rfl (Keep.cons rfl (Keep.cons rfl (Keep.cons rfl (Keep.cons rfl (Keep.cons rfl (Keep.cons rfl (Keep.cons rfl (Keep.cons rfl (Keep.cons rfl (Keep.cons rfl (Keep.cons rfl (Keep.cons rfl (Keep.cons rfl (Keep.cons rfl (Keep.cons rfl (Keep.cons rfl (Keep.cons rfl (Keep.cons rfl (Keep.cons rfl (Keep.cons rfl (Keep.cons rfl (Keep.cons rfl (Keep.cons rfl (Keep.cons rfl (Keep.cons rfl (Keep.cons rfl (Keep.cons rfl (Keep.cons rfl (Keep.cons rfl (Keep.cons rfl (Keep.cons rfl (Keep.cons rfl (Keep.cons rfl (Keep.cons rfl (Keep.cons rfl (Keep.cons rfl (Keep.cons rfl (Keep.cons rfl (Keep.cons rfl (Keep.cons rfl (Keep.cons rfl (Keep.cons rfl (Keep.cons rfl (Keep.cons rfl (Keep.cons rfl (Keep.cons rfl (Keep.cons rfl (Keep.cons rfl (Keep.cons rfl (Keep.app rfl (Keep.rm rfl Keep.base))))))))))))))))))))))))))))))))))))))))))))))))))))))⟩, by omega⟩
    ·have hG6 := hg6; try simp only [gS] at hG6
     refine sy_exit ?_
     refine then_e ?_
     refine then_e ?_
     refine blk_e ?_
     refine then_n ?_
     refine sy_seq ?_
     obtain rfl : i = d.prices.length := by omega
     refine sy_ops ?_
     refine o_v hf hh (y_lds Try.ag_43 rfl) ?_; clear hf a; intro a hf
     refine o_store hf hh Try.sz_43 fun w hh => ?_
     refine o_v hf hh (yv_assign rfl) ?_; clear hf a; intro a hf
     refine o_end ?_
     refine sy_ret ?_
     refine ret_c (vs := [.agg #[.int .i64 (sumI (lowL d q d.prices.length)), .int .i64 (sumI (higL d q d.prices.length))], .int .i64 0]) hf ?_ ?_
     · exact ⟨⟨B4, 0, _, _, _, rfl, hh.at (i := 1) rfl, .inr ⟨2, _, Try.ag_43, rfl, rfl⟩⟩, rfl, True.intro⟩
     · exact ⟨by rw [ev, show oweE d q = 0 from he]; rfl, hh.ext⟩
end Go.Proofs.Ytkfkifkdncdhoaa
namespace Go.Proofs.Ytkfkifkdncdhoaa
open Go Go.Sy Go.RoyM
set_option maxRecDepth 100000 in
theorem p22 (d : RoyD) (p : Pl) (u : World) (hR : RoyAt u d p) : Calls Try.prog 22 #[.agg (royC d p)] u (Ret fun v w' => v = .tuple #[.int .i64 ((twA d).1 : Nat), .int .i64 ((twA d).2 : Nat), .int .i64 (twE d)] ∧ Ext [] u w') := by
  refine calls_of Try.func22 rfl rfl (fun a hf => ?_)
  have hh := Hp.init u []
  obtain ⟨st, sp, ss, sr, sd, ct, cp, cs, cr, cd⟩ := p
  have hn4 := hR.n4
  refine sy_sq ?_
  refine o_box hf hh ?_; clear hf hh a; intro B1 a w hf hh
  refine o_v hf hh (yv_assign rfl) ?_; clear hf a; intro a hf
  refine o_v hf hh (yv_assign rfl) ?_; clear hf a; intro a hf
  refine o_v hf hh (yv_assign rfl) ?_; clear hf a; intro a hf
  refine o_end ?_
  refine sy_seq ?_
  refine sy_sq ?_
  refine o_v hf hh (y_lds Try.ag_37 rfl) ?_; clear hf a; intro a hf
  refine o_call hf Try.en_40 rfl rfl rfl (p40 d _ _ (hR.ext hh.ext)) ?_; clear hf a; intro v a w hR hf
  obtain ⟨rfl, hx⟩ := hR; replace hh := hh.more hx; clear hx
  refine o_v hf hh (yv_not rfl) ?_; clear hf a; intro a hf
  refine o_end ?_
  refine sy_cond hf rfl (fun hg2 => ?_) (fun hg2 => ?_)
  ·have hG2 := hg2; try simp only [gS] at hG2
   refine sy_sq ?_
   refine o_v hf hh (yv_assign rfl) ?_; clear hf a; intro a hf
   refine o_v hf hh (yv_assign rfl) ?_; clear hf a; intro a hf
   refine o_v hf hh (yv_assign rfl) ?_; clear hf a; intro a hf
   refine o_end ?_
   refine sy_ret ?_
   refine then_r ?_
   refine ret_r hf rfl rfl ?_
   first
     | (have hno : royB d = false := by assumption
        have ha : twA d = (0, 0) := by unfold twA twV; rw [hno]; rfl
        have hte : twE d = 1 := by unfold twE; rw [hno]; rfl
        exact ⟨by rw [ha, hte]; rfl, hh.ext⟩)
     | (have hmt : meetB x y = true := (meet_iff hxo hyo).2 ⟨c, by omega, by assumption, by assumption⟩
        have htw : twV d = some (i, j) := by unfold twV; rw [hok, if_pos rfl]; exact twF_hit h0 hx (by omega) hy hmt hno
        have ha : twA d = (i, j) := by unfold twA; rw [htw]; rfl
        have hte : twE d = 0 := by unfold twE; rw [hok, htw]; rfl
        exact ⟨by rw [ha, hte]; rfl, hh.ext⟩)
     | (have htw : twV d = none := by unfold twV; rw [hok, if_pos rfl, ← show i = d.reps.length by omega]; exact h0
        have ha : twA d = (0, 0) := by unfold twA; rw [htw]; rfl
        have hte : twE d = 4 := by unfold twE; rw [hok, htw]; rfl
        exact ⟨by rw [ha, hte]; rfl, hh.ext⟩)
  ·have hG2 := hg2; try simp only [gS] at hG2
   refine sy_skip ?_
   refine then_n ?_
   refine sy_seq ?_
   refine sy_seq ?_
   have hok : royB d = true := by assumption
   have hO := royB_iff.1 hok
   refine sy_ops ?_
   refine o_v hf hh (yv_assign rfl) ?_; clear hf a; intro a hf
   refine o_end ?_
   refine sy_block ?_
   refine sy_loopF (σ := Nat) [2, 3, 4, 5, 6, 7, 11, 12, 13, 14, 15, 16, 17, 18, 19, 20, 21, 22, 23, 24, 25, 26, 27, 28, 29, 30, 31, 32, 33, 34, 35, 36, 37, 38, 39, 40, 41, 42, 43, 44, 45, 46, 47, 48, 49, 50, 51, 52, 53, 54, 55, 56] (fun i => [(5, .int .i64 (i : Nat))]) (fun i => i ≤ d.reps.length ∧ twF d.reps i = none) (fun i => d.reps.length - i) (0) hf hh ?_ ?_ ?_
   · repeat' (first | exact True.intro | refine And.intro rfl ?_)
   · exact ⟨Nat.zero_le _, rfl⟩
   ·rintro i a w ⟨hi, h0⟩ hf hh
    refine sy_seq ?_
    refine sy_sq ?_
    refine o_v hf hh (yv_move rfl) ?_; clear hf a; intro a hf
    refine o_v hf hh (yv_fieldAddr Try.fo_37_3 rfl) ?_; clear hf a; intro a hf
    refine o_v hf hh (y_ld Try.sc_35 rfl) ?_; clear hf a; intro a hf
    refine o_v hf hh (yv_len Try.se_35 rfl) ?_; clear hf a; intro a hf
    refine o_v hf hh (yv_bin rfl rfl rfl) ?_; clear hf a; intro a hf
    refine o_end ?_
    refine sy_cond hf rfl (fun hg4 => ?_) (fun hg4 => ?_)
    ·have hG4 := hg4; try simp only [gS] at hG4
     refine sy_skip ?_
     refine then_n ?_
     refine sy_seq ?_
     refine sy_block ?_
     refine sy_seq ?_
     obtain ⟨x, hx⟩ := ex_of (l := d.reps) (i := i) (by omega)
     obtain ⟨blk, off, cc, T, fr, e, hb, hc⟩ := hR.rp i x hx; dsimp only at e; subst e
     have hxo := hO.r x (List.mem_of_getElem? hx)
     have hc1 := (cellsAt_get 4 _ _ hc).2 1 _ rfl
     refine sy_ops ?_
     refine o_v hf hh (yv_assign rfl) ?_; clear hf a; intro a hf
     refine o_end ?_
     refine sy_block ?_
     refine sy_loopF (σ := Nat) [2, 3, 4, 6, 7, 18, 19, 20, 21, 22, 23, 24, 25, 26, 27, 28, 29, 30, 31, 32, 33, 34, 35, 36, 37, 38, 39, 40, 41, 42, 43, 44, 45, 46, 47, 48, 49, 50, 51, 52, 53, 54, 55, 56] (fun j => [(6, .int .i64 (j : Nat))]) (fun j => j ≤ i ∧ ∀ z, z < j → ∀ t, d.reps[z]? = some t → meetB x t = false) (fun j => i - j) (0) hf hh ?_ ?_ ?_
     · repeat' (first | exact True.intro | refine And.intro rfl ?_)
     · exact ⟨Nat.zero_le _, fun z hz => absurd hz (by omega)⟩
     ·rintro j a w ⟨hj, hno⟩ hf hh
      refine sy_seq ?_
      refine sy_sq ?_
      refine o_v hf hh (yv_move rfl) ?_; clear hf a; intro a hf
      refine o_v hf hh (yv_move rfl) ?_; clear hf a; intro a hf
      refine o_v hf hh (yv_bin rfl rfl rfl) ?_; clear hf a; intro a hf
      refine o_end ?_
      refine sy_cond hf rfl (fun hg6 => ?_) (fun hg6 => ?_)
      ·have hG6 := hg6; try simp only [gS] at hG6
       refine sy_skip ?_
       refine then_n ?_
       refine sy_seq ?_
       refine sy_block ?_
       refine sy_seq ?_
       obtain ⟨y, hy⟩ := ex_of (l := d.reps) (i := j) (by omega)
       obtain ⟨blk2, off2, cc2, T2, fr2, e2, hb2, hc2⟩ := hR.rp j y hy; dsimp only at e2; cases e2
       rw [hb] at hb2; cases hb2
       have hyo := hO.r y (List.mem_of_getElem? hy)
       refine sy_ops ?_
       refine o_v hf hh (yv_assign rfl) ?_; clear hf a; intro a hf
       refine o_end ?_
       refine sy_block ?_
       refine sy_loopF (σ := Nat) [2, 3, 4, 7, 23, 24, 25, 26, 27, 28, 29, 30, 31, 32, 33, 34, 35, 36, 37, 38, 39, 40, 41, 42, 43, 44, 45, 46, 47, 48, 49, 50, 51, 52, 53, 54, 55, 56] (fun c => [(7, .int .i64 (c : Nat))]) (fun c => c ≤ 12 ∧ ∀ c' : Nat, c' < c → ¬ (hasB x x.kd c' = true ∧ hasB y x.kd c' = true)) (fun c => 12 - c) (0) hf hh ?_ ?_ ?_
       · repeat' (first | exact True.intro | refine And.intro rfl ?_)
       · exact ⟨by omega, fun z hz => absurd hz (by omega)⟩
       ·rintro c a w ⟨hc12, hnc⟩ hf hh
        refine sy_seq ?_
        refine sy_sq ?_
        refine o_v hf hh (yv_move rfl) ?_; clear hf a; intro a hf
        refine o_v hf hh (yv_bin rfl rfl rfl) ?_; clear hf a; intro a hf
        refine o_end ?_
        refine sy_cond hf rfl (fun hg8 => ?_) (fun hg8 => ?_)
        ·have hG8 := hg8; try simp only [gS] at hG8
         refine sy_skip ?_
         refine then_n ?_
         refine sy_seq ?_
         refine sy_block ?_
         refine sy_seq ?_
         refine sy_tree1 (.p 0 (.q 0 1 (.p 2 (.p 3 (.q 0 4 (.p 5 (.q 0 6 (.p 7 (.p 8 (.p 9 (.q 0 10 (.p 11 (.e1 12 (.p 13 (.p 14 (.q 0 15 (.p 16 (.p 17 (.q 0 18 (.p 19 (.q 0 20 (.p 21 (.p 22 (.p 23 (.q 0 24 (.p 25 (.e1 26 (.p 27 (.fin))))))))))))))))))))))))))))) [] Try.follows (by kernel_rfl) hh (fun w hh => ?_)
         refine mc_p rfl   hf (yv_fieldAddr Try.fo_37_3 rfl) (.inl rfl) rfl rfl ?_; clear hf a; intro a hf
         refine mc_q rfl rfl hh hf (y_ld Try.sc_35 rfl) (.inl rfl) rfl rfl ?_; clear hf a; intro a hf
         refine mc_p rfl   hf (yv_move rfl) (.inl rfl) rfl rfl ?_; clear hf a; intro a hf
         refine mc_p rfl   hf (y_ix Try.se_35 rfl rfl) (.inl rfl) rfl rfl ?_; clear hf a; intro a hf
         refine mc_q rfl rfl hh hf (y_lds Try.ag_66 rfl) (.inl rfl) rfl rfl ?_; clear hf a; intro a hf
         refine mc_p rfl   hf (yv_fieldAddr Try.fo_37_3 rfl) (.inl rfl) rfl rfl ?_; clear hf a; intro a hf
         refine mc_q rfl rfl hh hf (y_ld Try.sc_35 rfl) (.inl rfl) rfl rfl ?_; clear hf a; intro a hf
         refine mc_p rfl   hf (yv_move rfl) (.inl rfl) rfl rfl ?_; clear hf a; intro a hf
         refine mc_p rfl   hf (y_ix Try.se_35 rfl rfl) (.inl rfl) rfl rfl ?_; clear hf a; intro a hf
         refine mc_p rfl   hf (yv_fieldAddr Try.fo_66_1 rfl) (.inl rfl) rfl rfl ?_; clear hf a; intro a hf
         refine mc_q rfl rfl hh hf (y_ld Try.sc_3 rfl) (.inl rfl) rfl rfl ?_; clear hf a; intro a hf
         refine mc_p rfl   hf (yv_move rfl) (.inl rfl) rfl rfl ?_; clear hf a; intro a hf
         refine mc_e rfl fun Q1 => ?_
         refine o_call hf Try.en_60 rfl rfl rfl (p60 x x.kd c _) ?_; clear hf a; intro v a w hR hf
         obtain ⟨rfl, hx⟩ := hR; replace hh := hh.more hx; clear hx
         refine ops_end ?_
         refine then_n ⟨⟨fun _ _ => hh, trivial⟩, ?_⟩
         refine mc_p rfl   hf (yv_move rfl) (.inl rfl) rfl rfl ?_; clear hf a; intro a hf
         refine guard_any hf (t := 40) rfl (fun hg10 => ?_) (fun hg10 => ?_)
         ·have hG10 := hg10; try simp only [gS] at hG10
          refine mc_p rfl   hf (yv_fieldAddr Try.fo_37_3 rfl) (gon rfl rfl rfl (by first | assumption | rfl | (simp; done) | (simp; omega))) rfl rfl ?_; clear hf a; intro a hf
          refine mc_q rfl rfl hh hf (y_ld Try.sc_35 rfl) (gon rfl rfl rfl (by first | assumption | rfl | (simp; done) | (simp; omega))) rfl rfl ?_; clear hf a; intro a hf
          refine mc_p rfl   hf (yv_move rfl) (gon rfl rfl rfl (by first | assumption | rfl | (simp; done) | (simp; omega))) rfl rfl ?_; clear hf a; intro a hf
          refine mc_p rfl   hf (y_ix Try.se_35 rfl rfl) (gon rfl rfl rfl (by first | assumption | rfl | (simp; done) | (simp; omega))) rfl rfl ?_; clear hf a; intro a hf
          refine mc_q rfl rfl hh hf (y_lds Try.ag_66 rfl) (gon rfl rfl rfl (by first | assumption | rfl | (simp; done) | (simp; omega))) rfl rfl ?_; clear hf a; intro a hf
          refine mc_p rfl   hf (yv_fieldAddr Try.fo_37_3 rfl) (gon rfl rfl rfl (by first | assumption | rfl | (simp; done) | (simp; omega))) rfl rfl ?_; clear hf a; intro a hf
          refine mc_q rfl rfl hh hf (y_ld Try.sc_35 rfl) (gon rfl rfl rfl (by first | assumption | rfl | (simp; done) | (simp; omega))) rfl rfl ?_; clear hf a; intro a hf
          refine mc_p rfl   hf (yv_move rfl) (gon rfl rfl rfl (by first | assumption | rfl | (simp; done) | (simp; omega))) rfl rfl ?_; clear hf a; intro a hf
          refine mc_p rfl   hf (y_ix Try.se_35 rfl rfl) (gon rfl rfl rfl (by first | assumption | rfl | (simp; done) | (simp; omega))) rfl rfl ?_; clear hf a; intro a hf
          refine mc_p rfl   hf (yv_fieldAddr Try.fo_66_1 rfl) (gon rfl rfl rfl (by first | assumption | rfl | (simp; done) | (simp; omega))) rfl rfl ?_; clear hf a; intro a hf
          refine mc_q rfl rfl hh hf (y_ld Try.sc_3 rfl) (gon rfl rfl rfl (by first | assumption | rfl | (simp; done) | (simp; omega))) rfl rfl ?_; clear hf a; intro a hf
          refine mc_p rfl   hf (yv_move rfl) (gon rfl rfl rfl (by first | assumption | rfl | (simp; done) | (simp; omega))) rfl rfl ?_; clear hf a; intro a hf
          refine mc_e rfl fun Q1 => ?_
          refine o_call hf Try.en_60 rfl rfl rfl (p60 y x.kd c _) ?_; clear hf a; intro v a w hR hf
          obtain ⟨rfl, hx⟩ := hR; replace hh := hh.more hx; clear hx
          refine ops_end ?_
          refine then_n ⟨⟨fun _ _ => hh, trivial⟩, ?_⟩
          refine mc_p rfl   hf (y_pt rfl rfl) (.inl rfl) rfl rfl ?_; clear hf a; intro a hf
          refine mc_end ?_
          refine then_n ?_
          refine sy_cond hf rfl (fun hg12 => ?_) (fun hg12 => ?_)
          ·have hG12 := hg12; try simp only [gS] at hG12
           refine sy_sq ?_
           refine o_v hf hh (yv_move rfl) ?_; clear hf a; intro a hf
           refine o_v hf hh (yv_move rfl) ?_; clear hf a; intro a hf
           refine o_v hf hh (yv_assign rfl) ?_; clear hf a; intro a hf
           refine o_v hf hh (yv_assign rfl) ?_; clear hf a; intro a hf
           refine o_v hf hh (yv_assign rfl) ?_; clear hf a; intro a hf
           refine o_end ?_
           refine sy_ret ?_
           refine blk_r ?_
           refine then_r ?_
           refine then_r ?_
           refine blk_r ?_
           refine blk_r ?_
           refine then_r ?_
           refine then_r ?_
           refine blk_r ?_
           refine blk_r ?_
           refine then_r ?_
           refine then_r ?_
           refine blk_r ?_
           refine then_r ?_
           refine ret_r hf rfl rfl ?_
           first
             | (have hno : royB d = false := by assumption
                have ha : twA d = (0, 0) := by unfold twA twV; rw [hno]; rfl
                have hte : twE d = 1 := by unfold twE; rw [hno]; rfl
                exact ⟨by rw [ha, hte]; rfl, hh.ext⟩)
             | (have hmt : meetB x y = true := (meet_iff hxo hyo).2 ⟨c, by omega, by assumption, by assumption⟩
                have htw : twV d = some (i, j) := by unfold twV; rw [hok, if_pos rfl]; exact twF_hit h0 hx (by omega) hy hmt hno
                have ha : twA d = (i, j) := by unfold twA; rw [htw]; rfl
                have hte : twE d = 0 := by unfold twE; rw [hok, htw]; rfl
                exact ⟨by rw [ha, hte]; rfl, hh.ext⟩)
             | (have htw : twV d = none := by unfold twV; rw [hok, if_pos rfl, ← show i = d.reps.length by omega]; exact h0
                have ha : twA d = (0, 0) := by unfold twA; rw [htw]; rfl
                have hte : twE d = 4 := by unfold twE; rw [hok, htw]; rfl
                exact ⟨by rw [ha, hte]; rfl, hh.ext⟩)
          ·have hG12 := hg12; try simp only [gS] at hG12
           refine sy_skip ?_
           refine blk_n ?_
           refine then_n ?_
           refine sy_ops ?_
           refine o_v hf hh (yv_move rfl) ?_; clear hf a; intro a hf
           refine o_v hf hh (y_add rfl rfl) ?_; clear hf a; intro a hf
           refine o_v hf hh (yv_assign rfl) ?_; clear hf a; intro a hf
           refine ops_end ?_
           refine then_n ?_
           exact ⟨c + 1, ⟨⟨by omega, fun c' hc' => by
             rcases (show c' < c ∨ c' = c by omega) with h | h
             · exact hnc c' h
             · subst h; rintro ⟨h1, h2⟩; simp_all⟩, (hf.head (by repeat' (first | exact True.intro | refine And.intro rfl ?_)) (Keep.cons rfl (Keep.cons rfl (Keep.cons rfl (Keep.cons rfl (Keep.cons rfl (Keep.cons rfl (Keep.cons rfl (Keep.cons rfl (Keep.cons rfl (Keep.cons rfl (Keep.cons rfl (Keep.cons rfl (Keep.cons rfl (Keep.cons rfl (Keep.cons rfl (Keep.cons rfl (Keep.cons rfl (Keep.cons rfl (Keep.cons rfl (Keep.cons rfl (Keep.cons rfl (Keep.cons rfl (Keep.cons rfl (Keep.cons rfl (Keep.cons rfl (Keep.cons rfl (Keep.cons rfl (Keep.cons rfl (Keep.cons rfl (Keep.cons rfl (Keep.cons rfl (Keep.cons rfl (Keep.cons rfl (Keep.app rfl (Keep.rm rfl Keep.base)))))))))))))))))))))))))))))))))))), hh⟩, by omega⟩
         ·have hG10 := hg10; try simp only [gS] at hG10
          refine mc_off rfl hf (goff rfl rfl rfl (by first | assumption | rfl | (simp; done) | (simp; omega))) rfl rfl ?_; clear hf a; intro a hf
          refine mc_offq rfl rfl hh hf (goff rfl rfl rfl (by first | assumption | rfl | (simp; done) | (simp; omega))) rfl rfl ?_; clear hf a; intro a hf
          refine mc_off rfl hf (goff rfl rfl rfl (by first | assumption | rfl | (simp; done) | (simp; omega))) rfl rfl ?_; clear hf a; intro a hf
          refine mc_off rfl hf (goff rfl rfl rfl (by first | assumption | rfl | (simp; done) | (simp; omega))) rfl rfl ?_; clear hf a; intro a hf
          refine mc_offq rfl rfl hh hf (goff rfl rfl rfl (by first | assumption | rfl | (simp; done) | (simp; omega))) rfl rfl ?_; clear hf a; intro a hf
          refine mc_off rfl hf (goff rfl rfl rfl (by first | assumption | rfl | (simp; done) | (simp; omega))) rfl rfl ?_; clear hf a; intro a hf
          refine mc_offq rfl rfl hh hf (goff rfl rfl rfl (by first | assumption | rfl | (simp; done) | (simp; omega))) rfl rfl ?_; clear hf a; intro a hf
          refine mc_off rfl hf (goff rfl rfl rfl (by first | assumption | rfl | (simp; done) | (simp; omega))) rfl rfl ?_; clear hf a; intro a hf
          refine mc_off rfl hf (goff rfl rfl rfl (by first | assumption | rfl | (simp; done) | (simp; omega))) rfl rfl ?_; clear hf a; intro a hf
          refine mc_off rfl hf (goff rfl rfl rfl (by first | assumption | rfl | (simp; done) | (simp; omega))) rfl rfl ?_; clear hf a; intro a hf
          refine mc_offq rfl rfl hh hf (goff rfl rfl rfl (by first | assumption | rfl | (simp; done) | (simp; omega))) rfl rfl ?_; clear hf a; intro a hf
          refine mc_off rfl hf (goff rfl rfl rfl (by first | assumption | rfl | (simp; done) | (simp; omega))) rfl rfl ?_; clear hf a; intro a hf
          refine mc_e rfl fun Q1 => ?_
          refine o_off hf ?_; clear hf a; intro a hf
          refine ops_end ?_
          refine then_n ⟨⟨fun _ _ => hh, trivial⟩, ?_⟩
          refine mc_p rfl   hf (y_pf rfl rfl) (.inl rfl) rfl rfl ?_; clear hf a; intro a hf
          refine mc_end ?_
          refine then_n ?_
          refine c_f hf ?_
          refine sy_skip ?_
          refine blk_n ?_
          refine then_n ?_
          refine sy_ops ?_
          refine o_v hf hh (yv_move rfl) ?_; clear hf a; intro a hf
          refine o_v hf hh (y_add rfl rfl) ?_; clear hf a; intro a hf
          refine o_v hf hh (yv_assign rfl) ?_; clear hf a; intro a hf
          refine ops_end ?_
          refine then_n ?_
          exact ⟨c + 1, ⟨⟨by omega, fun c' hc' => by
            rcases (show c' < c ∨ c' = c by omega) with h | h
            · exact hnc c' h
            · subst h; rintro ⟨h1, h2⟩; simp_all⟩, (hf.head (by repeat' (first | exact True.intro | refine And.intro rfl ?_)) (Keep.cons rfl (Keep.cons rfl (Keep.cons rfl (Keep.cons rfl (Keep.cons rfl (Keep.cons rfl (Keep.cons rfl (Keep.cons rfl (Keep.cons rfl (Keep.cons rfl (Keep.cons rfl (Keep.cons rfl (Keep.cons rfl (Keep.cons rfl (Keep.cons rfl (Keep.cons rfl (Keep.cons rfl (Keep.cons rfl (Keep.cons rfl (Keep.cons rfl (Keep.cons rfl (Keep.cons rfl (Keep.cons rfl (Keep.cons rfl (Keep.cons rfl (Keep.cons rfl (Keep.cons rfl (Keep.cons rfl (Keep.cons rfl (Keep.cons rfl (Keep.cons rfl (Keep.cons rfl (Keep.cons rfl (Keep.app rfl (Keep.rm rfl Keep.base)))))))))))))))))))))))))))))))))))), hh⟩, by omega⟩
        ·have hG8 := hg8; try simp only [gS] at hG8
         refine sy_exit ?_
         refine then_e ?_
         refine then_e ?_
         refine blk_e ?_
         refine blk_n ?_
         refine then_n ?_
         refine sy_ops ?_
         refine o_v hf hh (yv_move rfl) ?_; clear hf a; intro a hf
         refine o_v hf hh (y_add rfl rfl) ?_; clear hf a; intro a hf
         refine o_v hf hh (yv_assign rfl) ?_; clear hf a; intro a hf
         refine ops_end ?_
         refine then_n ?_
         exact ⟨j + 1, ⟨⟨by omega, fun z hz t ht => by
           rcases (show z < j ∨ z = j by omega) with h | h
           · exact hno z h t ht
           · subst h; rw [hy] at ht; cases ht; exact meet_no hxo hyo fun c' h => hnc c' (by omega)⟩, (hf.head (by repeat' (first | exact True.intro | refine And.intro rfl ?_)) (Keep.cons rfl (Keep.cons rfl (Keep.cons rfl (Keep.cons rfl (Keep.cons rfl (Keep.app rfl (Keep.rm rfl (Keep.cons rfl (Keep.cons rfl (Keep.cons rfl (Keep.cons rfl (Keep.app rfl (Keep.rm rfl Keep.base)))))))))))))), hh⟩, by omega⟩
      ·have hG6 := hg6; try simp only [gS] at hG6
       refine sy_exit ?_
       refine then_e ?_
       refine then_e ?_
       refine blk_e ?_
       refine blk_n ?_
       refine then_n ?_
       refine sy_ops ?_
       refine o_v hf hh (yv_move rfl) ?_; clear hf a; intro a hf
       refine o_v hf hh (y_add rfl rfl) ?_; clear hf a; intro a hf
       refine o_v hf hh (yv_assign rfl) ?_; clear hf a; intro a hf
       refine ops_end ?_
       refine then_n ?_
       exact ⟨i + 1, ⟨⟨by omega, twF_miss h0 hx fun z hz => hno z (by omega)⟩, (hf.head (by repeat' (first | exact True.intro | refine And.intro rfl ?_)) (Keep.cons rfl (Keep.cons rfl (Keep.cons rfl (Keep.cons rfl (Keep.cons rfl (Keep.cons rfl (Keep.app rfl (Keep.rm rfl (Keep.cons rfl (Keep.cons rfl (Keep.cons rfl (Keep.cons rfl (Keep.cons rfl (Keep.cons rfl (Keep.app rfl (Keep.rm rfl Keep.base))))))))))))))))), hh⟩, by omega⟩
    ·have hG4 := hg4; try simp only [gS] at hG4
     refine sy_exit ?_
     refine then_e ?_
     refine then_e ?_
     refine blk_e ?_
     refine then_n ?_
     refine sy_sq ?_
     refine o_v hf hh (yv_assign rfl) ?_; clear hf a; intro a hf
     refine o_v hf hh (yv_assign rfl) ?_; clear hf a; intro a hf
     refine o_v hf hh (yv_assign rfl) ?_; clear hf a; intro a hf
     refine o_end ?_
     refine sy_ret ?_
     refine ret_r hf rfl rfl ?_
     first
       | (have hno : royB d = false := by assumption
          have ha : twA d = (0, 0) := by unfold twA twV; rw [hno]; rfl
          have hte : twE d = 1 := by unfold twE; rw [hno]; rfl
          exact ⟨by rw [ha, hte]; rfl, hh.ext⟩)
       | (have hmt : meetB x y = true := (meet_iff hxo hyo).2 ⟨c, by omega, by assumption, by assumption⟩
          have htw : twV d = some (i, j) := by unfold twV; rw [hok, if_pos rfl]; exact twF_hit h0 hx (by omega) hy hmt hno
          have ha : twA d = (i, j) := by unfold twA; rw [htw]; rfl
          have hte : twE d = 0 := by unfold twE; rw [hok, htw]; rfl
          exact ⟨by rw [ha, hte]; rfl, hh.ext⟩)
       | (have htw : twV d = none := by unfold twV; rw [hok, if_pos rfl, ← show i = d.reps.length by omega]; exact h0
          have ha : twA d = (0, 0) := by unfold twA; rw [htw]; rfl
          have hte : twE d = 4 := by unfold twE; rw [hok, htw]; rfl
          exact ⟨by rw [ha, hte]; rfl, hh.ext⟩)
set_option maxRecDepth 100000 in
theorem p4 (d : RoyD) (p : Pl) (g k : Int) (u : World) (hR : RoyIn u d p) : Calls Try.prog 4 #[.agg (royC d p), .int .i64 g, .int .i64 k] u (Ret fun v w' => v = .bool true ∧ Ext [] u w') := by
  refine calls_of Try.func4 rfl rfl (fun a hf => ?_)
  have hh := Hp.init u []
  refine sy_sq ?_
  refine o_box hf hh ?_; clear hf hh a; intro B3 a w hf hh
  refine o_v hf hh (yv_assign rfl) ?_; clear hf a; intro a hf
  refine o_end ?_
  refine sy_seq ?_
  refine sy_sq ?_
  refine o_v hf hh (y_lds Try.ag_37 rfl) ?_; clear hf a; intro a hf
  refine o_call hf Try.en_20 rfl rfl rfl (p20 d p _ (hR.ext hh.ext)) ?_; clear hf a; intro v a w hR hf
  obtain ⟨rfl, hx⟩ := hR; replace hh := hh.more hx; clear hx
  refine o_end ?_
  refine sy_cond hf rfl (fun hg2 => ?_) (fun hg2 => ?_)
  ·have hG2 := hg2; try simp only [gS] at hG2
   refine sy_sq ?_
   refine o_call hf Try.en_14 rfl rfl rfl (p14 _) ?_; clear hf a; intro v a w hR hf
   obtain ⟨rfl, hx⟩ := hR; replace hh := hh.more hx; clear hx
   refine o_v hf hh (yv_assign rfl) ?_; clear hf a; intro a hf
   refine o_end ?_
   refine sy_ret ?_
   refine then_r ?_
   refine ret_r hf rfl rfl ?_
   exact ⟨rfl, hh.ext⟩
  ·have hG2 := hg2; try simp only [gS] at hG2
   refine sy_skip ?_
   refine then_n ?_
   refine sy_seq ?_
   have hA := hR.at (by assumption)
   refine sy_ops ?_
   refine o_v hf hh (y_lds Try.ag_37 rfl) ?_; clear hf a; intro a hf
   refine o_call hf Try.en_21 rfl rfl rfl (p21 d p _ (hA.ext hh.ext)) ?_; clear hf a; intro v a w hR hf
   obtain ⟨rfl, hx⟩ := hR; replace hh := hh.more hx; clear hx
   refine o_v hf hh (yv_move rfl) ?_; clear hf a; intro a hf
   refine o_v hf hh (yv_extract rfl rfl) ?_; clear hf a; intro a hf
   refine o_v hf hh (yv_extract rfl rfl) ?_; clear hf a; intro a hf
   refine o_v hf hh (yv_extract rfl rfl) ?_; clear hf a; intro a hf
   refine o_v hf hh (yv_assign rfl) ?_; clear hf a; intro a hf
   refine o_v hf hh (yv_assign rfl) ?_; clear hf a; intro a hf
   refine o_v hf hh (yv_assign rfl) ?_; clear hf a; intro a hf
   refine o_end ?_
   refine sy_sq ?_
   refine o_v hf hh (y_lds Try.ag_37 rfl) ?_; clear hf a; intro a hf
   refine o_call hf Try.en_22 rfl rfl rfl (p22 d p _ (hA.ext hh.ext)) ?_; clear hf a; intro v a w hR hf
   obtain ⟨rfl, hx⟩ := hR; replace hh := hh.more hx; clear hx
   refine o_v hf hh (yv_move rfl) ?_; clear hf a; intro a hf
   refine o_v hf hh (yv_extract rfl rfl) ?_; clear hf a; intro a hf
   refine o_v hf hh (yv_extract rfl rfl) ?_; clear hf a; intro a hf
   refine o_v hf hh (yv_extract rfl rfl) ?_; clear hf a; intro a hf
   refine o_v hf hh (yv_assign rfl) ?_; clear hf a; intro a hf
   refine o_v hf hh (yv_assign rfl) ?_; clear hf a; intro a hf
   refine o_v hf hh (yv_assign rfl) ?_; clear hf a; intro a hf
   refine o_end ?_
   refine sy_sq ?_
   refine o_v hf hh (y_lds Try.ag_37 rfl) ?_; clear hf a; intro a hf
   refine o_v hf hh (yv_move rfl) ?_; clear hf a; intro a hf
   refine o_v hf hh (yv_move rfl) ?_; clear hf a; intro a hf
   refine o_call hf Try.en_23 rfl rfl rfl (p23 d p g k _ (hA.ext hh.ext)) ?_; clear hf a; intro v a w hR hf
   obtain ⟨rfl, hx⟩ := hR; replace hh := hh.more hx; clear hx
   refine o_v hf hh (yv_move rfl) ?_; clear hf a; intro a hf
   refine o_v hf hh (yv_extract rfl rfl) ?_; clear hf a; intro a hf
   refine o_v hf hh (yv_extract rfl rfl) ?_; clear hf a; intro a hf
   refine o_v hf hh (yv_extract rfl rfl) ?_; clear hf a; intro a hf
   refine o_v hf hh (yv_assign rfl) ?_; clear hf a; intro a hf
   refine o_v hf hh (yv_assign rfl) ?_; clear hf a; intro a hf
   refine o_v hf hh (yv_assign rfl) ?_; clear hf a; intro a hf
   refine o_end ?_
   refine sy_sq ?_
   refine o_v hf hh (y_lds Try.ag_37 rfl) ?_; clear hf a; intro a hf
   refine o_v hf hh (yv_move rfl) ?_; clear hf a; intro a hf
   refine o_v hf hh (yv_move rfl) ?_; clear hf a; intro a hf
   refine o_call hf Try.en_24 rfl rfl rfl (p24 d p g k _ (hA.ext hh.ext)) ?_; clear hf a; intro v a w hR hf
   obtain ⟨rfl, hx⟩ := hR; replace hh := hh.more hx; clear hx
   refine o_v hf hh (yv_move rfl) ?_; clear hf a; intro a hf
   refine o_v hf hh (yv_extract rfl rfl) ?_; clear hf a; intro a hf
   refine o_v hf hh (yv_extract rfl rfl) ?_; clear hf a; intro a hf
   refine o_v hf hh (yv_extract rfl rfl) ?_; clear hf a; intro a hf
   refine o_v hf hh (yv_assign rfl) ?_; clear hf a; intro a hf
   refine o_v hf hh (yv_assign rfl) ?_; clear hf a; intro a hf
   refine o_v hf hh (yv_assign rfl) ?_; clear hf a; intro a hf
   refine o_end ?_
   refine sy_sq ?_
   refine o_v hf hh (y_lds Try.ag_37 rfl) ?_; clear hf a; intro a hf
   refine o_v hf hh (yv_move rfl) ?_; clear hf a; intro a hf
   refine o_call hf Try.en_25 rfl rfl rfl (p25 d p g _ (hA.ext hh.ext)) ?_; clear hf a; intro v a w hR hf
   obtain ⟨rfl, hx⟩ := hR; replace hh := hh.more hx; clear hx
   refine o_v hf hh (yv_move rfl) ?_; clear hf a; intro a hf
   refine o_v hf hh (yv_extract rfl rfl) ?_; clear hf a; intro a hf
   refine o_v hf hh (yv_extract rfl rfl) ?_; clear hf a; intro a hf
   refine o_alloc hf hh Try.ze_43 ?_; clear hf hh a; intro B19 a w hf hh
   refine o_store hf hh Try.sz_43 fun w hh => ?_
   refine o_v hf hh (yv_assign rfl) ?_; clear hf a; intro a hf
   refine o_end ?_
   refine sy_sq ?_
   refine o_v hf hh (y_lds Try.ag_37 rfl) ?_; clear hf a; intro a hf
   refine o_v hf hh (yv_move rfl) ?_; clear hf a; intro a hf
   refine o_call hf Try.en_26 rfl rfl rfl (p26 d p g _ (hA.ext hh.ext)) ?_; clear hf a; intro v a w hR hf
   obtain ⟨rfl, hx⟩ := hR; replace hh := hh.more hx; clear hx
   refine o_v hf hh (yv_move rfl) ?_; clear hf a; intro a hf
   refine o_v hf hh (yv_extract rfl rfl) ?_; clear hf a; intro a hf
   refine o_v hf hh (yv_extract rfl rfl) ?_; clear hf a; intro a hf
   refine o_alloc hf hh Try.ze_43 ?_; clear hf hh a; intro B21 a w hf hh
   refine o_store hf hh Try.sz_43 fun w hh => ?_
   refine o_v hf hh (yv_assign rfl) ?_; clear hf a; intro a hf
   refine o_end ?_
   refine sy_sq ?_
   refine o_v hf hh (yv_move rfl) ?_; clear hf a; intro a hf
   refine o_v hf hh (yv_move rfl) ?_; clear hf a; intro a hf
   refine o_v hf hh (yv_bin rfl rfl rfl) ?_; clear hf a; intro a hf
   refine o_v hf hh (yv_move rfl) ?_; clear hf a; intro a hf
   refine o_v hf hh (yv_move rfl) ?_; clear hf a; intro a hf
   refine o_v hf hh (yv_move rfl) ?_; clear hf a; intro a hf
   refine o_v hf hh (yv_bin rfl rfl rfl) ?_; clear hf a; intro a hf
   refine o_v hf hh (y_pt rfl rfl) ?_; clear hf a; intro a hf
   refine o_v hf hh (yv_move rfl) ?_; clear hf a; intro a hf
   refine o_v hf hh (yv_move rfl) ?_; clear hf a; intro a hf
   refine o_v hf hh (yv_move rfl) ?_; clear hf a; intro a hf
   refine o_v hf hh (yv_bin rfl rfl rfl) ?_; clear hf a; intro a hf
   refine o_v hf hh (y_pt rfl rfl) ?_; clear hf a; intro a hf
   refine o_v hf hh (yv_move rfl) ?_; clear hf a; intro a hf
   refine o_v hf hh (yv_move rfl) ?_; clear hf a; intro a hf
   refine o_v hf hh (yv_move rfl) ?_; clear hf a; intro a hf
   refine o_v hf hh (yv_bin rfl rfl rfl) ?_; clear hf a; intro a hf
   refine o_v hf hh (y_pt rfl rfl) ?_; clear hf a; intro a hf
   refine o_v hf hh (yv_move rfl) ?_; clear hf a; intro a hf
   refine o_v hf hh (yv_move rfl) ?_; clear hf a; intro a hf
   refine o_v hf hh (yv_move rfl) ?_; clear hf a; intro a hf
   refine o_v hf hh (yv_bin rfl rfl rfl) ?_; clear hf a; intro a hf
   refine o_v hf hh (y_pt rfl rfl) ?_; clear hf a; intro a hf
   refine o_v hf hh (yv_move rfl) ?_; clear hf a; intro a hf
   refine o_v hf hh (yv_move rfl) ?_; clear hf a; intro a hf
   refine o_v hf hh (yv_move rfl) ?_; clear hf a; intro a hf
   refine o_v hf hh (yv_bin rfl rfl rfl) ?_; clear hf a; intro a hf
   refine o_v hf hh (y_pt rfl rfl) ?_; clear hf a; intro a hf
   refine o_v hf hh (yv_move rfl) ?_; clear hf a; intro a hf
   refine o_v hf hh (y_lds Try.ag_43 rfl) ?_; clear hf a; intro a hf
   refine o_v hf hh (y_lds Try.ag_43 rfl) ?_; clear hf a; intro a hf
   refine o_v hf hh (yv_eqF [(oweV d g).1, (oweV d g).2] [(oweV d g).1, (oweV d g).2] fl43 rfl rfl) ?_; clear hf a; intro a hf
   refine o_v hf hh (y_pt rfl rfl) ?_; clear hf a; intro a hf
   refine o_v hf hh (yv_move rfl) ?_; clear hf a; intro a hf
   refine o_v hf hh (yv_move rfl) ?_; clear hf a; intro a hf
   refine o_v hf hh (yv_move rfl) ?_; clear hf a; intro a hf
   refine o_v hf hh (yv_bin rfl rfl rfl) ?_; clear hf a; intro a hf
   refine o_v hf hh (y_pt rfl rfl) ?_; clear hf a; intro a hf
   refine o_v hf hh (yv_move rfl) ?_; clear hf a; intro a hf
   refine o_call hf Try.en_14 rfl rfl rfl (p14 _) ?_; clear hf a; intro v a w hR hf
   obtain ⟨rfl, hx⟩ := hR; replace hh := hh.more hx; clear hx
   refine o_v hf hh (y_pt rfl rfl) ?_; clear hf a; intro a hf
   refine o_v hf hh (yv_assign rfl) ?_; clear hf a; intro a hf
   refine o_end ?_
   refine sy_ret ?_
   refine ret_r hf rfl rfl ?_
   exact ⟨rfl, hh.ext⟩
end Go.Proofs.Ytkfkifkdncdhoaa
