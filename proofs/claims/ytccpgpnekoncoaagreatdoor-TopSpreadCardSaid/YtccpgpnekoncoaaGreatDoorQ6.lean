/- Lemmas, in order: Package pair: a pair that is opened, with its powers.. -/
import Derived.Test.YtccpgpnekoncoaaGreatDoorQ5
namespace Go.Proofs.YtccpgpnekoncoaaGreatDoor
open Go Go.Sy Go.PaiM
/-- Numbers lie in memory. -/
def IxAt (w : World) (sa : Option Addr) (l : List Int) : Prop :=
  ∀ i x, l[i]? = some x → ∃ blk off c T fr, sa = some ⟨blk, off, none⟩ ∧ w.heap[blk]? = some (.cells c T fr) ∧ c[off + ((i : Nat) : Int).toNat * 1]? = some (.int .i64 x)
theorem IxAt.ext {w w' : World} {sa : Option Addr} {l : List Int} (h : IxAt w sa l) (e : Ext [] w w') : IxAt w' sa l := fun i s hi =>
  let ⟨blk, off, c, T, fr, h1, h2, h3⟩ := h i s hi
  ⟨blk, off, c, T, fr, h1, e.get h2, h3⟩
theorem ix_nil (w : World) (sa : Option Addr) : IxAt w sa [] := fun i x h => by simp at h
theorem ix_one {w : World} {B : Nat} {T : TypeId} {fr : Nat × Nat} {n : Int} (h : w.heap[B]? = some (.cells #[.int .i64 n] T fr)) : IxAt w (some ⟨B, 0, none⟩) [n] := fun i s hi2 => by
  match i, hi2 with
  | 0, hi2 => cases hi2; exact ⟨B, 0, _, T, _, rfl, h, rfl⟩
  | i + 1, hi2 => simp at hi2
/-- The error of a pair that is opened, with numbers of things. -/
def opE (p : PrD) (l : List Int) : Int := if prB p then (if l.all (fun n => inP n 0 ((p.th.length : Nat) - 1)) then 0 else 2) else 1
theorem opE_zero {p : PrD} {l : List Int} : opE p l = 0 ↔ prB p = true ∧ ∀ n ∈ l, inP n 0 ((p.th.length : Nat) - 1) = true := by
  unfold opE
  rw [← List.all_eq_true]
  cases prB p <;> cases l.all (fun n => inP n 0 ((p.th.length : Nat) - 1)) <;> simp
theorem opE_bad {p : PrD} {l : List Int} (h : prB p = false) : opE p l = 1 := by unfold opE; rw [h]; rfl
theorem opE_no {p : PrD} {l : List Int} (h : prB p = true) {n : Int} (hn : n ∈ l) (hf : inP n 0 ((p.th.length : Nat) - 1) = false) : opE p l = 2 := by
  have : l.all (fun n => inP n 0 ((p.th.length : Nat) - 1)) = false := by rw [List.all_eq_false]; exact ⟨n, hn, by rw [hf]; decide⟩
  unfold opE; rw [h, this]; rfl
/-- The error of a pair that must have a truth. -/
def trE (p : PrD) (l : List Int) : Int := if opE p l = 0 then (match powO p with | some _ => 0 | none => 4) else opE p l
theorem trE_open {p : PrD} {l : List Int} (h : opE p l ≠ 0) : trE p l = opE p l := if_neg h
theorem trE_none {p : PrD} {l : List Int} (h : opE p l = 0) (hn : powO p = none) : trE p l = 4 := by unfold trE; rw [if_pos h, hn]
theorem trE_some {p : PrD} {l : List Int} {y : Int × Int} (h : opE p l = 0) (hn : powO p = some y) : trE p l = 0 := by unfold trE; rw [if_pos h, hn]
theorem all_takeI {α : Type} {P : α → Prop} {l : List α} {i : Nat} (h : ∀ n ∈ l.take i, P n) (hi : ¬ i < l.length) : ∀ n ∈ l, P n := by
  rw [List.take_of_length_le (by omega)] at h; exact h
set_option maxRecDepth 100000 in
theorem c_open (p : PrD) (sa : Option Addr) (cp : Nat) (l : List Int) (sl : Option Addr) (cl : Nat) (u : World) (hA : ThAt u sa p.th) (hl : p.th.length ≤ 9223372036854775807) (hI : IxAt u sl l) (hll : l.length ≤ 9223372036854775807) : Calls Tryz.prog 29 #[.agg (prA p sa cp), .slice sl l.length cl] u (RetX (fun v w' => opE p l = 0 ∧ ∃ B, v = ptr B 0 ∧ Hp u [] [(B, .cells (viA p sa cp (0, 0)) viT)] w') (fun ch w' => opE p l ≠ 0 ∧ ch = misP (opE p l) ∧ Ext [] u w')) := by
  refine calls_ofX Tryz.func29 rfl rfl (fun a hf => ?_)
  have hh := Hp.init u []
  refine sy_sq ?_
  refine o_box hf hh ?_; clear hf hh a; intro B2 a w hf hh
  refine o_v hf hh (yv_assign rfl) ?_; clear hf a; intro a hf
  refine o_end ?_
  refine sy_sq ?_
  refine o_v hf hh (y_lds Tryz.ag_38 rfl) ?_; clear hf a; intro a hf
  refine o_call hf Tryz.en_64 rfl rfl rfl (c_isPair p sa cp _ (hA.ext hh.ext) hl) ?_; clear hf a; intro v a w hR hf
  obtain ⟨rfl, hx⟩ := hR; replace hh := hh.more hx; clear hx
  refine o_callX hf Tryz.en_30 rfl rfl rfl (c_need (prB p) 1 _) ?_ ?_
  ·clear hf a; intro v a w hR hf
   obtain ⟨hpb, hx⟩ := hR; replace hh := hh.more hx; clear hx
   have hp := prB_iff.1 hpb
   have hpl := hp.nt
   refine o_end ?_
   refine sy_seq ?_
   refine sy_sq ?_
   refine o_v hf hh (yv_move rfl) ?_; clear hf a; intro a hf
   refine o_v hf hh (yv_len Tryz.se_108 rfl) ?_; clear hf a; intro a hf
   refine o_v hf hh (yv_move rfl) ?_; clear hf a; intro a hf
   refine o_end ?_
   refine sy_block ?_
   refine sy_loopH (σ := Nat) [6, 12, 13, 14, 15, 16, 17, 18, 19, 20, 21, 22, 23] (fun i => [(12, .int .i64 (i : Nat))]) (fun i => fun w' => i ≤ l.length ∧ (∀ n ∈ l.take i, inP n 0 ((p.th.length : Nat) - 1) = true) ∧ Hp u [] [(B2, .cells (prA p sa cp) 38)] w') (fun i => l.length - i) (0) hf ?_ ?_ ?_
   · repeat' (first | exact True.intro | refine And.intro rfl ?_)
   · exact ⟨Nat.zero_le _, (fun x hx => by simp at hx), hh⟩
   ·rintro i a w ⟨hi, hq, hh⟩ hf
    refine sy_sq ?_
    refine o_v hf hh (yv_bin rfl rfl rfl) ?_; clear hf a; intro a hf
    refine o_end ?_
    refine sy_seq ?_
    refine sy_cond hf rfl (fun hg4 => ?_) (fun hg4 => ?_)
    ·have hG4 := hg4; try simp only [gS] at hG4
     refine sy_skip ?_
     refine then_n ?_
     refine sy_seq ?_
     refine sy_block ?_
     refine sy_seq ?_
     obtain ⟨n, hn⟩ := ex_ofP (l := l) (i := i) (by omega)
     obtain ⟨blk, off, cc, TT, fr, esl, hb2, hc⟩ := hI i n hn
     refine sy_ops ?_
     refine o_v hf hh (y_ix Tryz.se_108 (congrArg (fun z => some (Value.slice z l.length cl)) esl) rfl) ?_; clear hf a; intro a hf
     refine o_v hf hh (y_ld Tryz.sc_3 rfl) ?_; clear hf a; intro a hf
     refine o_v hf hh (yv_assign rfl) ?_; clear hf a; intro a hf
     refine o_end ?_
     refine sy_ops ?_
     refine o_v hf hh (yv_move rfl) ?_; clear hf a; intro a hf
     refine o_v hf hh (yv_fieldAddr Tryz.fo_38_5 rfl) ?_; clear hf a; intro a hf
     refine o_v hf hh (y_ld Tryz.sc_36 rfl) ?_; clear hf a; intro a hf
     refine o_v hf hh (yv_len Tryz.se_36 rfl) ?_; clear hf a; intro a hf
     refine o_v hf hh (y_sub rfl rfl) ?_; clear hf a; intro a hf
     refine o_call hf Tryz.en_31 rfl rfl rfl (c_wthn n 0 ((p.th.length : Nat) - 1) _) ?_; clear hf a; intro v a w hR hf
     obtain ⟨rfl, hx⟩ := hR; replace hh := hh.more hx; clear hx
     refine o_callX hf Tryz.en_30 rfl rfl rfl (c_need (inP n 0 ((p.th.length : Nat) - 1)) 2 _) ?_ ?_
     ·clear hf a; intro v a w hR hf
      obtain ⟨hnb, hx⟩ := hR; replace hh := hh.more hx; clear hx
      refine ops_end ?_
      refine blk_n ?_
      refine then_n ?_
      refine sy_ops ?_
      refine o_v hf hh (y_add rfl rfl) ?_; clear hf a; intro a hf
      refine o_v hf hh (yv_move rfl) ?_; clear hf a; intro a hf
      refine ops_end ?_
      refine then_n ?_
      exact ⟨i + 1, ⟨⟨by omega, take_allP hq hn hnb, hh⟩, (hf.head (by repeat' (first | exact True.intro | refine And.intro rfl ?_)) (Keep.cons rfl (Keep.cons rfl (Keep.cons rfl (Keep.cons rfl (Keep.cons rfl (Keep.cons rfl (Keep.cons rfl (Keep.cons rfl (Keep.cons rfl (Keep.cons rfl (Keep.cons rfl (Keep.cons rfl (Keep.cons rfl (Keep.app rfl (Keep.rm rfl Keep.base))))))))))))))))⟩, by omega⟩
     ·intro ch w hX hf
      obtain ⟨hnb, rfl, hx⟩ := hX; replace hh := hh.more hx; clear hx
      refine blk_p ?_
      refine then_p ?_
      refine then_p ?_
      refine blk_p ?_
      refine then_p ?_
      refine pan_x hf ?_
      rw [opE_no hpb (List.mem_of_getElem? hn) hnb]
      exact ⟨by decide, rfl, hh.ext⟩
    ·have hG4 := hg4; try simp only [gS] at hG4
     refine sy_exit ?_
     refine then_e ?_
     refine then_e ?_
     refine blk_e ?_
     refine then_n ?_
     refine sy_seq ?_
     replace hh : Hp u [] [(B2, .cells (prA p sa cp) 38)] w := hh
     refine sy_ops ?_
     refine o_v hf hh (y_lds Tryz.ag_38 rfl) ?_; clear hf a; intro a hf
     refine o_v hf hh (yv_buildS Tryz.bs_85 rfl rfl) ?_; clear hf a; intro a hf
     refine o_box hf hh ?_; clear hf hh a; intro B26 a w hf hh
     refine o_v hf hh (yv_assign rfl) ?_; clear hf a; intro a hf
     refine o_end ?_
     refine sy_ret ?_
     refine ret_x ?_
     refine ret_r hf rfl rfl ?_
     replace hh : Hp u [] [(B26, .cells (viA p sa cp (0, 0)) viT), (B2, .cells (prA p sa cp) 38)] w := hh
     exact ⟨opE_zero.2 ⟨hpb, all_takeI hq (by omega)⟩, B26, rfl, hh.less (.cons_cons _ (.cons _ (.refl _)))⟩
  ·intro ch w hX hf
   obtain ⟨hpb, rfl, hx⟩ := hX; replace hh := hh.more hx; clear hx
   refine then_p ?_
   refine pan_x hf ?_
   rw [opE_bad hpb]
   exact ⟨by decide, rfl, hh.ext⟩
theorem c_truths (p : PrD) (sa : Option Addr) (cp : Nat) (l : List Int) (sl : Option Addr) (cl : Nat) (u : World) (hA : ThAt u sa p.th) (hl : p.th.length ≤ 9223372036854775807) (hI : IxAt u sl l) (hll : l.length ≤ 9223372036854775807) : Calls Tryz.prog 33 #[.agg (prA p sa cp), .slice sl l.length cl] u (RetX (fun v w' => trE p l = 0 ∧ ∃ y B, powO p = some y ∧ v = ptr B 0 ∧ Hp u [] [(B, .cells (viA p sa cp y) viT)] w') (fun ch w' => trE p l ≠ 0 ∧ ch = misP (trE p l) ∧ Ext [] u w')) := by
  refine calls_ofX Tryz.func33 rfl rfl (fun a hf => ?_)
  have hh := Hp.init u []
  refine sy_sq ?_
  refine o_box hf hh ?_; clear hf hh a; intro B2 a w hf hh
  refine o_v hf hh (yv_assign rfl) ?_; clear hf a; intro a hf
  refine o_end ?_
  refine sy_sq ?_
  refine o_v hf hh (y_lds Tryz.ag_38 rfl) ?_; clear hf a; intro a hf
  refine o_v hf hh (yv_move rfl) ?_; clear hf a; intro a hf
  refine o_callX hf Tryz.en_29 rfl rfl rfl (c_open p sa cp l sl cl _ (hA.ext hh.ext) hl (hI.ext hh.ext) hll) ?_ ?_
  ·clear hf a; intro v a w hR hf
   obtain ⟨hop, Bv, rfl, hx⟩ := hR; replace hh := hh.join hx; clear hx
   have hp := prB_iff.1 (opE_zero.1 hop).1
   refine o_v hf hh (yv_assign rfl) ?_; clear hf a; intro a hf
   refine o_end ?_
   refine sy_seq ?_
   replace hh : Hp u [] [(Bv, .cells (viA p sa cp (0, 0)) viT), (B2, .cells (prA p sa cp) 38)] w := hh
   refine sy_ops ?_
   refine o_v hf hh (yv_move rfl) ?_; clear hf a; intro a hf
   refine o_callX hf Tryz.en_32 rfl rfl rfl (c_look p sa cp (0, 0) hp Bv u w hA hh.ext (hh.fresh Bv (by simp)) (hh.at (i := 0) rfl)) ?_ ?_
   ·clear hf a; intro v a w hR hf
    obtain ⟨y, hy, hx⟩ := hR; replace hh := hh.joinM (i := 0) rfl hx; clear hx
    refine o_end ?_
    refine sy_sq ?_
    refine o_v hf hh (yv_move rfl) ?_; clear hf a; intro a hf
    refine o_v hf hh (yv_assign rfl) ?_; clear hf a; intro a hf
    refine o_end ?_
    refine sy_ret ?_
    refine ret_x ?_
    refine ret_r hf rfl rfl ?_
    replace hh : Hp u [] [(Bv, .cells (viA p sa cp y) viT), (B2, .cells (prA p sa cp) 38)] w := hh
    exact ⟨trE_some hop hy, y, Bv, hy, rfl, hh.less (.cons_cons _ (.cons _ (.refl _)))⟩
   ·intro ch w hX hf
    obtain ⟨hno, rfl, hx⟩ := hX
    refine then_p ?_
    refine pan_x hf ?_
    rw [trE_none hop hno]
    exact ⟨by decide, rfl, hh.ext.chain hx (fun x h => .inr (by rw [List.mem_singleton.1 h]; exact hh.fresh Bv (by simp)))⟩
  ·intro ch w hX hf
   obtain ⟨hop, rfl, hx⟩ := hX; replace hh := hh.more hx; clear hx
   refine then_p ?_
   refine pan_x hf ?_
   rw [trE_open hop]
   exact ⟨hop, rfl, hh.ext⟩
end Go.Proofs.YtccpgpnekoncoaaGreatDoor

