/- Lemmas, in order: What the exported functions tell, put together. Between, Place.. -/
import Derived.Test.YtccpgpnekoncoaaGreatQ11
namespace Go.ChaM
open Go Go.Sy
theorem bnd_axis {c : ChD} (hO : ChOk c) (hw : wrL c = []) {x y : Nat} (hx : x < c.n.toNat) (a b : Bool) (h : bndV c a noneS x y = none) : bndV c b noneS x y = none := by
  rw [bnd_none hO (wr_noneg hO hw b) hx]
  rw [bnd_none hO (wr_noneg hO hw a) hx] at h
  intro l hl
  obtain ⟨l', h'⟩ := link_wk (E' := edE c a fun i => !noneS i) (fun e he => by
    obtain ⟨i, s, hs, hS, h1⟩ := edE_mem.1 he
    rcases h1 with rfl | rfl
    · exact ⟨edF a i s, edE_mem.2 ⟨i, s, hs, hS, .inl rfl⟩, rfl, rfl⟩
    · exact ⟨edT a i s, edE_mem.2 ⟨i, s, hs, hS, .inr rfl⟩, rfl, rfl⟩) hl
  exact h l' h'
theorem betE4 {c : ChD} {x y : Int} (h : chB c = true) (h2 : (stB c x && stB c y) = true) (hw : wrL c ≠ []) : betE c x y = 4 := by unfold betE; rw [if_neg (by rw [h]; decide), if_neg (by rw [h2]; decide), if_pos hw]
theorem betE12 {c : ChD} {x y : Int} (h : chB c = true) (h2 : (stB c x && stB c y) = true) (hw : wrL c = []) (hb : bndV c false noneS x.toNat y.toNat = none) : betE c x y = 12 := by unfold betE; rw [if_neg (by rw [h]; decide), if_neg (by rw [h2]; decide), if_neg (by rw [hw]; simp), if_pos hb]
theorem betE0 {c : ChD} {x y : Int} (h : chB c = true) (h2 : (stB c x && stB c y) = true) (hw : wrL c = []) (hb : bndV c false noneS x.toNat y.toNat ≠ none) : betE c x y = 0 := by unfold betE; rw [if_neg (by rw [h]; decide), if_neg (by rw [h2]; decide), if_neg (by rw [hw]; simp), if_neg hb]
theorem betV_ok {c : ChD} {x y : Int} (h : betE c x y = 0) (a : Bool) : betV c a x y = (-(bndV c a noneS y.toNat x.toNat).getD 0, (bndV c a noneS x.toNat y.toNat).getD 0) := by unfold betV; rw [if_pos h]
theorem zero_out (i : Nat) : Nat.testBit 0 i = noneS i := Nat.zero_testBit i
abbrev spC (p : Int × Int) : List Value := [.int .i64 p.1, .int .i64 p.2]
theorem spC_len (p : Int × Int) : (spC p).length = 2 := rfl
theorem drwE1 {c : ChD} (h : chB c = false) : drwE c = 1 := by unfold drwE; rw [if_pos h]
theorem drwE_at {c : ChD} (h : chB c = true) {i : Nat} (hi : i < c.n.toNat) (h0 : drwG c i = 0) {e : Int} (he : betE c 0 (i : Int) = e) (hne : e ≠ 0) : drwE c = e := by
  unfold drwE
  rw [if_neg (by rw [h]; decide)]
  have h1 : drwG c (i + 1) = e := by rw [drwG, if_pos h0]; exact he
  have h2 := drwG_stop h1 hne (c.n.toNat - (i + 1))
  rwa [show i + 1 + (c.n.toNat - (i + 1)) = c.n.toNat by omega] at h2
theorem drwE0 {c : ChD} (h : chB c = true) (h0 : drwG c c.n.toNat = 0) : drwE c = 0 := by
  unfold drwE
  rw [if_neg (by rw [h]; decide)]
  exact h0
theorem drwL_no {c : ChD} {e : Int} (h : drwE c = e) (he : e ≠ 0) : drwL c = [] := by unfold drwL; rw [if_neg (by rw [h]; exact he)]
theorem drwL_ok {c : ChD} (h : drwE c = 0) : drwL c = (List.range c.n.toNat).map (drwP c) := by unfold drwL; rw [if_pos h]
theorem drwP_of {c : ChD} {i : Nat} (h : betE c 0 (i : Int) = 0) : drwP c i = (-(bndV c false noneS i 0).getD 0, -(bndV c true noneS i 0).getD 0) := by
  unfold drwP
  rw [betV_ok h, betV_ok h]
  rfl
def dk (i : Nat) : Nat → Bool := fun j => decide (j = i)
end Go.ChaM

namespace Go.Proofs.YtccpgpnekoncoaaGreat
open Go Go.Sy Go.ChaM
theorem p43 (Bv : Nat) (c : ChD) (sa : Option Addr) (cp : Nat) (u : World) (hV : VAt u Bv c sa cp) (hO : ChOk c) : Calls Tryz.prog 62 #[ptr Bv 0] u (RetX (fun v w' => wrL c = [] ∧ Ext [] u w') (fun ch w' => wrL c ≠ [] ∧ ch = misfit 4 ∧ Ext [] u w')) := by
  refine calls_ofX Tryz.func62 rfl rfl (fun a hf => ?_)
  have hh := Hp.init u []
  refine sy_ops ?_
  refine o_v hf hh (yv_move rfl) ?_; clear hf a; intro a hf
  refine o_call hf Tryz.en_93 rfl rfl rfl (p53 Bv c sa cp _ (hV.ext hh.ext) hO) ?_; clear hf a; intro v a w hR hf
  obtain ⟨l2, sb, cb, X9, rfl, hU, hSr, hx⟩ := hR; replace hh := hh.more hx.ext; clear hx
  refine o_v hf hh (yv_len Tryz.se_174 rfl) ?_; clear hf a; intro a hf
  refine o_v hf hh (yv_bin rfl rfl rfl) ?_; clear hf a; intro a hf
  refine o_callX hf Tryz.en_90 rfl rfl rfl (p60 (decide (((l2.length : Nat) : Int) = 0)) 4 _) ?_ ?_
  ·clear hf a; intro v a w hR hf
   obtain ⟨hz, hx⟩ := hR; replace hh := hh.more hx; clear hx
   refine ops_end ?_
   refine ret_xn ?_
   refine ret_n hf rfl rfl ?_
   exact ⟨hSr.nil_iff.1 (List.eq_nil_of_length_eq_zero (by simpa using hz)), hh.ext⟩
  ·intro ch w hX hf
   obtain ⟨hz, rfl, hx⟩ := hX; replace hh := hh.more hx; clear hx
   refine pan_x hf ?_
   exact ⟨fun e => by rw [hSr.nil_iff.2 e] at hz; simp at hz, rfl, hh.ext⟩
end Go.Proofs.YtccpgpnekoncoaaGreat

