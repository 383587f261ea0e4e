/- Lemmas, in order: A region as a theorem of its own: the slots that it reads are laid ahead of the frame once more.. -/
import Derived.Test.YtccpgpnekoncoaaGreatQ22
namespace Go.Sy
open Go Go.Proofs Go.RowKit
abbrev cSa : Code → Code | .seq a _ => a | c => c
abbrev cSb : Code → Code | .seq _ b => b | c => c
abbrev cBl : Code → Code | .block _ b => b | c => c
abbrev cLo : Code → Code | .loop b => b | c => c
abbrev ops9 : Code → Array Oper | .region _ ops _ => ops | _ => #[]
theorem Fr.dup {n : Nat} {ds : List Deferred} {L : List (Nat × Value)} {a : Act} {t : Nat} {v : Value} (h : Fr n ds L a) (hk : lk L t = some v) : Fr n ds ((t, v) :: L) a := by
  refine ⟨h.size, h.defers, fun s u hs => ?_⟩
  by_cases e : t = s
  · subst e
    refine h.get t u ?_
    simp only [lk, show Nat.beq t t = true from Nat.beq_refl t, cond_true] at hs
    rw [hk]; exact hs
  · simp only [lk, beq_ne e, cond_false] at hs
    exact h.get s u hs
theorem Keep.dup {ms : List Nat} {T L : List (Nat × Value)} {t : Nat} {v : Value} (hk : lk T t = some v) (h : Keep ms T L) : Keep ms T ((t, v) :: L) := fun s hs => by
  by_cases e : t = s
  · subst e
    simp only [lk, show Nat.beq t t = true from Nat.beq_refl t, cond_true]
    exact hk.symm
  · simp only [lk, beq_ne e, cond_false]; exact h s hs
section
variable {md : Region.Mode} {ops : Array Oper} {lates : List (List Nat)} {f k k2 k3 c : Nat} {t t2 t3 : OC} {L L' L2 L3 : Array Bool}
theorem tc_fin (h : (Region.ready md ops L).isEmpty = true) : treeC md ops lates .fin 0 L = true := by simp only [treeC, h]; decide
theorem tc_p (h1 : ((Region.ready md ops L).contains k && Region.free md ops L k) = true) (h2 : L.setIfInBounds k true = L') (h : treeC md ops lates t f L' = true) : treeC md ops lates (.p k t) (f + 1) L = true := by
  rw [Bool.and_eq_true] at h1
  simp only [treeC, h1.1, h1.2, h2, Nat.add_sub_cancel, h, Nat.succ_pos, decide_true, Bool.and_self]
theorem tc_q (h1 : ((Region.ready md ops L).contains k && Region.free md ops L k && ((lates.getD c []).all fun j => reach md ops 40 k j)) = true) (h2 : L.setIfInBounds k true = L') (h : treeC md ops lates t f L' = true) : treeC md ops lates (.q c k t) (f + 1) L = true := by
  rw [Bool.and_eq_true, Bool.and_eq_true] at h1
  simp only [treeC, h1.1.1, h1.1.2, h1.2, h2, Nat.add_sub_cancel, h, Nat.succ_pos, decide_true, Bool.and_self]
theorem tc_e1 (h1 : decide (Region.ready md ops L = [k]) = true) (h2 : L.setIfInBounds k true = L') (h : treeC md ops lates t f L' = true) : treeC md ops lates (.e1 k t) (f + 1) L = true := by
  simp only [treeC, h1, h2, Nat.add_sub_cancel, h, Nat.succ_pos, decide_true, Bool.and_self]
theorem tc_e2 (h1 : decide (Region.ready md ops L = [k, k2]) = true) (h2 : L.setIfInBounds k true = L') (h : treeC md ops lates t f L' = true) (h3 : L.setIfInBounds k2 true = L2) (h4 : treeC md ops lates t2 f L2 = true) : treeC md ops lates (.e2 k t k2 t2) (f + 1) L = true := by
  simp only [treeC, h1, h2, h3, h4, Nat.add_sub_cancel, h, Nat.succ_pos, decide_true, Bool.and_self]
theorem tc_e3 (h1 : decide (Region.ready md ops L = [k, k2, k3]) = true) (h2 : L.setIfInBounds k true = L') (h : treeC md ops lates t f L' = true) (h3 : L.setIfInBounds k2 true = L2) (h4 : treeC md ops lates t2 f L2 = true) (h5 : L.setIfInBounds k3 true = L3) (h6 : treeC md ops lates t3 f L3 = true) : treeC md ops lates (.e3 k t k2 t2 k3 t3) (f + 1) L = true := by
  simp only [treeC, h1, h2, h3, h4, h5, h6, Nat.add_sub_cancel, h, Nat.succ_pos, decide_true, Bool.and_self]
end
theorem and3 {a b c : Bool} (h1 : a = true) (h2 : b = true) (h3 : c = true) : (a && b && c) = true := by rw [h1, h2, h3]; rfl
end Go.Sy

