/- Lemmas, in order: The tour of a map. The document's examples. The document's chart. Sights in memory; a chart's part, sight by sight. Charts as they are handed in; what Draw tells. TopStraight: what is left out. TopStraight: charts that draw. TopStraight: the whole. What a law is handed, opened: charts, sights, numbers.. -/
import Derived.Test.YtccpgpnekoncoaaGreatQ23
import Derived.Test.YtccpgpnekoncoaaGreatRows
import Derived.Test.YtccpgpnekoncoaaGreatChecked
import Derived.JoinedOf
import Derived.LaidLaws
import Derived.RowKit
import Derived.RowKitTokens
import Derived.LaidHandle
import Derived.Stop.Joined
import Derived.Lay
import Derived.OpenShut
import Derived.SizedLaws
import Derived.SevenTiedAt
namespace Go.Proofs.YtccpgpnekoncoaaGreat
open Go Go.Sy Go.WalM Go.ChaM
theorem k65 (p q : Int × Int) (u : World) (hp : SpotB p) (hq : SpotB q) : Calls Tryz.prog 65 #[swV p, swV q] u (Ret fun v w' => v = swV (dup (farD p q)) ∧ Ext [] u w') := by
  refine calls_of Tryz.func65 rfl rfl (fun a hf => ?_)
  have hh := Hp.init u []
  obtain ⟨⟨p1, p2⟩, p3, p4⟩ := hp
  obtain ⟨⟨q1, q2⟩, q3, q4⟩ := hq
  refine sy_sq ?_
  refine o_box hf hh ?_; clear hf hh a; intro B2 a w hf hh
  refine o_box hf hh ?_; clear hf hh a; intro B3 a w hf hh
  refine o_alloc hf hh Tryz.ze_49 ?_; clear hf hh a; intro B4 a w hf hh
  refine o_end ?_
  refine sy_seq ?_
  refine sy_tree1 (.p 0 (.q 0 1 (.p 2 (.q 0 3 (.p 4 (.p 5 (.q 0 6 (.p 7 (.q 0 8 (.p 9 (.p 10 (.p 11 (.fin))))))))))))) [] Tryz.follows (by kernel_rfl) hh (fun w hh => ?_)
  refine mc_p rfl   hf (yv_fieldAddr Tryz.fo_110_0 rfl) (.inl rfl) rfl rfl ?_; clear hf a; intro a hf
  refine mc_q rfl rfl hh hf (y_ld Tryz.sc_3 rfl) (.inl rfl) rfl rfl ?_; clear hf a; intro a hf
  refine mc_p rfl   hf (yv_fieldAddr Tryz.fo_110_0 rfl) (.inl rfl) rfl rfl ?_; clear hf a; intro a hf
  refine mc_q rfl rfl hh hf (y_ld Tryz.sc_3 rfl) (.inl rfl) rfl rfl ?_; clear hf a; intro a hf
  refine mc_p rfl   hf (y_sub rfl rfl) (.inl rfl) rfl rfl ?_; clear hf a; intro a hf
  refine mc_p rfl   hf (yv_fieldAddr Tryz.fo_110_1 rfl) (.inl rfl) rfl rfl ?_; clear hf a; intro a hf
  refine mc_q rfl rfl hh hf (y_ld Tryz.sc_3 rfl) (.inl rfl) rfl rfl ?_; clear hf a; intro a hf
  refine mc_p rfl   hf (yv_fieldAddr Tryz.fo_110_1 rfl) (.inl rfl) rfl rfl ?_; clear hf a; intro a hf
  refine mc_q rfl rfl hh hf (y_ld Tryz.sc_3 rfl) (.inl rfl) rfl rfl ?_; clear hf a; intro a hf
  refine mc_p rfl   hf (y_sub rfl rfl) (.inl rfl) rfl rfl ?_; clear hf a; intro a hf
  refine mc_p rfl   hf (yv_assign rfl) (.inl rfl) rfl rfl ?_; clear hf a; intro a hf
  refine mc_p rfl   hf (yv_assign rfl) (.inl rfl) rfl rfl ?_; clear hf a; intro a hf
  refine mc_end ?_
  refine then_n ?_
  refine sy_sq ?_
  refine o_v hf hh (yv_move rfl) ?_; clear hf a; intro a hf
  refine o_v hf hh (yv_move rfl) ?_; clear hf a; intro a hf
  refine o_v hf hh (yv_neg rfl (by omega) (by omega)) ?_; clear hf a; intro a hf
  refine o_v hf hh (yv_max rfl rfl) ?_; clear hf a; intro a hf
  refine o_v hf hh (yv_move rfl) ?_; clear hf a; intro a hf
  refine o_v hf hh (yv_move rfl) ?_; clear hf a; intro a hf
  refine o_v hf hh (yv_neg rfl (by omega) (by omega)) ?_; clear hf a; intro a hf
  refine o_v hf hh (yv_max rfl rfl) ?_; clear hf a; intro a hf
  refine o_v hf hh (y_add rfl rfl) ?_; clear hf a; intro a hf
  refine o_v hf hh (yv_cast (yv_min rfl rfl) (show _ = Value.int .i64 (farD p q) from rfl)) ?_; clear hf a; intro a hf
  refine o_v hf hh (yv_assign rfl) ?_; clear hf a; intro a hf
  refine o_end ?_
  refine sy_sq ?_
  refine o_v hf hh (yv_move rfl) ?_; clear hf a; intro a hf
  refine o_v hf hh (yv_move rfl) ?_; clear hf a; intro a hf
  refine o_call hf Tryz.en_15 rfl rfl rfl (k15 (farD p q) (farD p q) _) ?_; clear hf a; intro v a w hR hf
  obtain ⟨rfl, hx⟩ := hR; replace hh := hh.more hx; clear hx
  refine o_store hf hh Tryz.sz_49 fun w hh => ?_
  refine o_end ?_
  refine sy_ret ?_
  refine ret_c (vs := [swV (dup (farD p q))]) hf ?_ ?_
  · exact ⟨⟨B4, 0, _, _, _, rfl, hh.at (i := 0) rfl, .inr ⟨2, _, Tryz.ag_49, rfl, rfl⟩⟩, True.intro⟩
  · exact ⟨rfl, hh.ext⟩
abbrev tq4 (B : Nat) : Nat × Obj := (B, .cells #[.int .i64 0, .slice none 0 0, .slice none 0 0, .slice none 0 0, .slice none 0 0] 25)
abbrev tq6 (B : Nat) (dawn : Int) (a b c d : Value) : Nat × Obj := (B, .cells #[.int .i64 dawn, a, b, c, d] 25)
abbrev tq8 (B : Nat) (x : Int × Int) : Nat × Obj := (B, .cells #[.int .i64 x.1, .int .i64 x.2] 110)
abbrev tq2 (B : Nat) (x y : Int) : Nat × Obj := (B, .cells #[.int .i64 x, .int .i64 y] 49)
theorem sum_cons9 {f : Nat × Obj → Nat} (a : Nat × Obj) (l : List (Nat × Obj)) : ((a :: l).map f).sum = f a + (l.map f).sum := by rw [List.map_cons, List.sum_cons]
theorem sum_app9 {f : Nat × Obj → Nat} (l m : List (Nat × Obj)) : ((l ++ m).map f).sum = (l.map f).sum + (m.map f).sum := by rw [List.map_append, List.sum_append]
theorem sum_nil9 {f : Nat × Obj → Nat} : (([] : List (Nat × Obj)).map f).sum = 0 := rfl
/-- What the making of a tour holds. -/
structure TrQ where
  (v1 v2 v3 v4 : Value)
  (X1 X2 X3 X4 Y : List (Nat × Obj))
  rows : List RowD
abbrev sl9 (blk off n co : Nat) : Value := .slice (some ⟨blk, off, none⟩) n co
set_option maxRecDepth 100000
def b12_0t : OC := .fin
theorem b12_0c : treeC .any (ops9 (cSb (cSb (cSb (cBl (cSa (cSb (cSb (cLo (cBl (cSb (cSa (cSb (cSb (cSb (Tryz.f20.body.getD .skip)))))))))))))))) [[26, 28, 30, 32]] b12_0t 0 #[true, true, true, true, true, true, true, true, true, true, true, true, true, true, true, true, true, true, true, true, true, true, true, true, true, true, true, true, true, true, true, true, true] = true := tc_fin (by kernel_rfl)
def b12_1t : OC := .e1 32 b12_0t
theorem b12_1c : treeC .any (ops9 (cSb (cSb (cSb (cBl (cSa (cSb (cSb (cLo (cBl (cSb (cSa (cSb (cSb (cSb (Tryz.f20.body.getD .skip)))))))))))))))) [[26, 28, 30, 32]] b12_1t 1 #[true, true, true, true, true, true, true, true, true, true, true, true, true, true, true, true, true, true, true, true, true, true, true, true, true, true, true, true, true, true, true, true, false] = true := tc_e1 (by kernel_rfl) rfl b12_0c
def b12_2t : OC := .p 31 b12_1t
theorem b12_2c : treeC .any (ops9 (cSb (cSb (cSb (cBl (cSa (cSb (cSb (cLo (cBl (cSb (cSa (cSb (cSb (cSb (Tryz.f20.body.getD .skip)))))))))))))))) [[26, 28, 30, 32]] b12_2t 2 #[true, true, true, true, true, true, true, true, true, true, true, true, true, true, true, true, true, true, true, true, true, true, true, true, true, true, true, true, true, true, true, false, false] = true := tc_p (by kernel_rfl) rfl b12_1c
def b12_3t : OC := .e1 30 b12_2t
theorem b12_3c : treeC .any (ops9 (cSb (cSb (cSb (cBl (cSa (cSb (cSb (cLo (cBl (cSb (cSa (cSb (cSb (cSb (Tryz.f20.body.getD .skip)))))))))))))))) [[26, 28, 30, 32]] b12_3t 3 #[true, true, true, true, true, true, true, true, true, true, true, true, true, true, true, true, true, true, true, true, true, true, true, true, true, true, true, true, true, true, false, false, false] = true := tc_e1 (by kernel_rfl) rfl b12_2c
def b12_4t : OC := .p 29 b12_3t
theorem b12_4c : treeC .any (ops9 (cSb (cSb (cSb (cBl (cSa (cSb (cSb (cLo (cBl (cSb (cSa (cSb (cSb (cSb (Tryz.f20.body.getD .skip)))))))))))))))) [[26, 28, 30, 32]] b12_4t 4 #[true, true, true, true, true, true, true, true, true, true, true, true, true, true, true, true, true, true, true, true, true, true, true, true, true, true, true, true, true, false, false, false, false] = true := tc_p (by kernel_rfl) rfl b12_3c
def b12_5t : OC := .e1 28 b12_4t
theorem b12_5c : treeC .any (ops9 (cSb (cSb (cSb (cBl (cSa (cSb (cSb (cLo (cBl (cSb (cSa (cSb (cSb (cSb (Tryz.f20.body.getD .skip)))))))))))))))) [[26, 28, 30, 32]] b12_5t 5 #[true, true, true, true, true, true, true, true, true, true, true, true, true, true, true, true, true, true, true, true, true, true, true, true, true, true, true, true, false, false, false, false, false] = true := tc_e1 (by kernel_rfl) rfl b12_4c
def b12_6t : OC := .p 27 b12_5t
theorem b12_6c : treeC .any (ops9 (cSb (cSb (cSb (cBl (cSa (cSb (cSb (cLo (cBl (cSb (cSa (cSb (cSb (cSb (Tryz.f20.body.getD .skip)))))))))))))))) [[26, 28, 30, 32]] b12_6t 6 #[true, true, true, true, true, true, true, true, true, true, true, true, true, true, true, true, true, true, true, true, true, true, true, true, true, true, true, false, false, false, false, false, false] = true := tc_p (by kernel_rfl) rfl b12_5c
def b12_7t : OC := .e1 26 b12_6t
theorem b12_7c : treeC .any (ops9 (cSb (cSb (cSb (cBl (cSa (cSb (cSb (cLo (cBl (cSb (cSa (cSb (cSb (cSb (Tryz.f20.body.getD .skip)))))))))))))))) [[26, 28, 30, 32]] b12_7t 7 #[true, true, true, true, true, true, true, true, true, true, true, true, true, true, true, true, true, true, true, true, true, true, true, true, true, true, false, false, false, false, false, false, false] = true := tc_e1 (by kernel_rfl) rfl b12_6c
def b12_8t : OC := .e1 24 b12_7t
theorem b12_8c : treeC .any (ops9 (cSb (cSb (cSb (cBl (cSa (cSb (cSb (cLo (cBl (cSb (cSa (cSb (cSb (cSb (Tryz.f20.body.getD .skip)))))))))))))))) [[26, 28, 30, 32]] b12_8t 8 #[true, true, true, true, true, true, true, true, true, true, true, true, true, true, true, true, true, true, true, true, true, true, true, true, false, true, false, false, false, false, false, false, false] = true := tc_e1 (by kernel_rfl) rfl b12_7c
def b12_9t : OC := .e1 23 b12_8t
theorem b12_9c : treeC .any (ops9 (cSb (cSb (cSb (cBl (cSa (cSb (cSb (cLo (cBl (cSb (cSa (cSb (cSb (cSb (Tryz.f20.body.getD .skip)))))))))))))))) [[26, 28, 30, 32]] b12_9t 9 #[true, true, true, true, true, true, true, true, true, true, true, true, true, true, true, true, true, true, true, true, true, true, true, false, false, true, false, false, false, false, false, false, false] = true := tc_e1 (by kernel_rfl) rfl b12_8c
def b12_10t : OC := .e1 22 b12_9t
theorem b12_10c : treeC .any (ops9 (cSb (cSb (cSb (cBl (cSa (cSb (cSb (cLo (cBl (cSb (cSa (cSb (cSb (cSb (Tryz.f20.body.getD .skip)))))))))))))))) [[26, 28, 30, 32]] b12_10t 10 #[true, true, true, true, true, true, true, true, true, true, true, true, true, true, true, true, true, true, true, true, true, true, false, false, false, true, false, false, false, false, false, false, false] = true := tc_e1 (by kernel_rfl) rfl b12_9c
def b12_11t : OC := .e1 19 b12_10t
theorem b12_11c : treeC .any (ops9 (cSb (cSb (cSb (cBl (cSa (cSb (cSb (cLo (cBl (cSb (cSa (cSb (cSb (cSb (Tryz.f20.body.getD .skip)))))))))))))))) [[26, 28, 30, 32]] b12_11t 11 #[true, true, true, true, true, true, true, true, true, true, true, true, true, true, true, true, true, true, true, false, true, true, false, false, false, true, false, false, false, false, false, false, false] = true := tc_e1 (by kernel_rfl) rfl b12_10c
def b12_12t : OC := .e1 18 b12_11t
theorem b12_12c : treeC .any (ops9 (cSb (cSb (cSb (cBl (cSa (cSb (cSb (cLo (cBl (cSb (cSa (cSb (cSb (cSb (Tryz.f20.body.getD .skip)))))))))))))))) [[26, 28, 30, 32]] b12_12t 12 #[true, true, true, true, true, true, true, true, true, true, true, true, true, true, true, true, true, true, false, false, true, true, false, false, false, true, false, false, false, false, false, false, false] = true := tc_e1 (by kernel_rfl) rfl b12_11c
def b12_13t : OC := .e1 14 b12_11t
theorem b12_13c : treeC .any (ops9 (cSb (cSb (cSb (cBl (cSa (cSb (cSb (cLo (cBl (cSb (cSa (cSb (cSb (cSb (Tryz.f20.body.getD .skip)))))))))))))))) [[26, 28, 30, 32]] b12_13t 12 #[true, true, true, true, true, true, true, true, true, true, true, true, true, true, false, true, true, true, true, false, true, true, false, false, false, true, false, false, false, false, false, false, false] = true := tc_e1 (by kernel_rfl) rfl b12_11c
def b12_14t : OC := .e2 14 b12_12t 18 b12_13t
theorem b12_14c : treeC .any (ops9 (cSb (cSb (cSb (cBl (cSa (cSb (cSb (cLo (cBl (cSb (cSa (cSb (cSb (cSb (Tryz.f20.body.getD .skip)))))))))))))))) [[26, 28, 30, 32]] b12_14t 13 #[true, true, true, true, true, true, true, true, true, true, true, true, true, true, false, true, true, true, false, false, true, true, false, false, false, true, false, false, false, false, false, false, false] = true := tc_e2 (by kernel_rfl) rfl b12_12c rfl b12_13c
def b12_15t : OC := .e1 13 b12_13t
theorem b12_15c : treeC .any (ops9 (cSb (cSb (cSb (cBl (cSa (cSb (cSb (cLo (cBl (cSb (cSa (cSb (cSb (cSb (Tryz.f20.body.getD .skip)))))))))))))))) [[26, 28, 30, 32]] b12_15t 13 #[true, true, true, true, true, true, true, true, true, true, true, true, true, false, false, true, true, true, true, false, true, true, false, false, false, true, false, false, false, false, false, false, false] = true := tc_e1 (by kernel_rfl) rfl b12_13c
def b12_16t : OC := .e2 13 b12_14t 18 b12_15t
theorem b12_16c : treeC .any (ops9 (cSb (cSb (cSb (cBl (cSa (cSb (cSb (cLo (cBl (cSb (cSa (cSb (cSb (cSb (Tryz.f20.body.getD .skip)))))))))))))))) [[26, 28, 30, 32]] b12_16t 14 #[true, true, true, true, true, true, true, true, true, true, true, true, true, false, false, true, true, true, false, false, true, true, false, false, false, true, false, false, false, false, false, false, false] = true := tc_e2 (by kernel_rfl) rfl b12_14c rfl b12_15c
def b12_17t : OC := .p 25 b12_16t
theorem b12_17c : treeC .any (ops9 (cSb (cSb (cSb (cBl (cSa (cSb (cSb (cLo (cBl (cSb (cSa (cSb (cSb (cSb (Tryz.f20.body.getD .skip)))))))))))))))) [[26, 28, 30, 32]] b12_17t 15 #[true, true, true, true, true, true, true, true, true, true, true, true, true, false, false, true, true, true, false, false, true, true, false, false, false, false, false, false, false, false, false, false, false] = true := tc_p (by kernel_rfl) rfl b12_16c
def b12_18t : OC := .p 25 b12_14t
theorem b12_18c : treeC .any (ops9 (cSb (cSb (cSb (cBl (cSa (cSb (cSb (cLo (cBl (cSb (cSa (cSb (cSb (cSb (Tryz.f20.body.getD .skip)))))))))))))))) [[26, 28, 30, 32]] b12_18t 14 #[true, true, true, true, true, true, true, true, true, true, true, true, true, true, false, true, true, true, false, false, true, true, false, false, false, false, false, false, false, false, false, false, false] = true := tc_p (by kernel_rfl) rfl b12_14c
def b12_19t : OC := .p 25 b12_13t
theorem b12_19c : treeC .any (ops9 (cSb (cSb (cSb (cBl (cSa (cSb (cSb (cLo (cBl (cSb (cSa (cSb (cSb (cSb (Tryz.f20.body.getD .skip)))))))))))))))) [[26, 28, 30, 32]] b12_19t 13 #[true, true, true, true, true, true, true, true, true, true, true, true, true, true, false, true, true, true, true, false, true, true, false, false, false, false, false, false, false, false, false, false, false] = true := tc_p (by kernel_rfl) rfl b12_13c
def b12_20t : OC := .e1 9 b12_19t
theorem b12_20c : treeC .any (ops9 (cSb (cSb (cSb (cBl (cSa (cSb (cSb (cLo (cBl (cSb (cSa (cSb (cSb (cSb (Tryz.f20.body.getD .skip)))))))))))))))) [[26, 28, 30, 32]] b12_20t 14 #[true, true, true, true, true, true, true, true, true, false, true, true, true, true, false, true, true, true, true, false, true, true, false, false, false, false, false, false, false, false, false, false, false] = true := tc_e1 (by kernel_rfl) rfl b12_19c
def b12_21t : OC := .e2 9 b12_18t 18 b12_20t
theorem b12_21c : treeC .any (ops9 (cSb (cSb (cSb (cBl (cSa (cSb (cSb (cLo (cBl (cSb (cSa (cSb (cSb (cSb (Tryz.f20.body.getD .skip)))))))))))))))) [[26, 28, 30, 32]] b12_21t 15 #[true, true, true, true, true, true, true, true, true, false, true, true, true, true, false, true, true, true, false, false, true, true, false, false, false, false, false, false, false, false, false, false, false] = true := tc_e2 (by kernel_rfl) rfl b12_18c rfl b12_20c
def b12_22t : OC := .p 25 b12_15t
theorem b12_22c : treeC .any (ops9 (cSb (cSb (cSb (cBl (cSa (cSb (cSb (cLo (cBl (cSb (cSa (cSb (cSb (cSb (Tryz.f20.body.getD .skip)))))))))))))))) [[26, 28, 30, 32]] b12_22t 14 #[true, true, true, true, true, true, true, true, true, true, true, true, true, false, false, true, true, true, true, false, true, true, false, false, false, false, false, false, false, false, false, false, false] = true := tc_p (by kernel_rfl) rfl b12_15c
def b12_23t : OC := .e2 9 b12_22t 13 b12_20t
theorem b12_23c : treeC .any (ops9 (cSb (cSb (cSb (cBl (cSa (cSb (cSb (cLo (cBl (cSb (cSa (cSb (cSb (cSb (Tryz.f20.body.getD .skip)))))))))))))))) [[26, 28, 30, 32]] b12_23t 15 #[true, true, true, true, true, true, true, true, true, false, true, true, true, false, false, true, true, true, true, false, true, true, false, false, false, false, false, false, false, false, false, false, false] = true := tc_e2 (by kernel_rfl) rfl b12_22c rfl b12_20c
def b12_24t : OC := .e3 9 b12_17t 13 b12_21t 18 b12_23t
theorem b12_24c : treeC .any (ops9 (cSb (cSb (cSb (cBl (cSa (cSb (cSb (cLo (cBl (cSb (cSa (cSb (cSb (cSb (Tryz.f20.body.getD .skip)))))))))))))))) [[26, 28, 30, 32]] b12_24t 16 #[true, true, true, true, true, true, true, true, true, false, true, true, true, false, false, true, true, true, false, false, true, true, false, false, false, false, false, false, false, false, false, false, false] = true := tc_e3 (by kernel_rfl) rfl b12_17c rfl b12_21c rfl b12_23c
def b12_25t : OC := .e1 8 b12_20t
theorem b12_25c : treeC .any (ops9 (cSb (cSb (cSb (cBl (cSa (cSb (cSb (cLo (cBl (cSb (cSa (cSb (cSb (cSb (Tryz.f20.body.getD .skip)))))))))))))))) [[26, 28, 30, 32]] b12_25t 15 #[true, true, true, true, true, true, true, true, false, false, true, true, true, true, false, true, true, true, true, false, true, true, false, false, false, false, false, false, false, false, false, false, false] = true := tc_e1 (by kernel_rfl) rfl b12_20c
def b12_26t : OC := .e2 8 b12_21t 18 b12_25t
theorem b12_26c : treeC .any (ops9 (cSb (cSb (cSb (cBl (cSa (cSb (cSb (cLo (cBl (cSb (cSa (cSb (cSb (cSb (Tryz.f20.body.getD .skip)))))))))))))))) [[26, 28, 30, 32]] b12_26t 16 #[true, true, true, true, true, true, true, true, false, false, true, true, true, true, false, true, true, true, false, false, true, true, false, false, false, false, false, false, false, false, false, false, false] = true := tc_e2 (by kernel_rfl) rfl b12_21c rfl b12_25c
def b12_27t : OC := .e2 8 b12_23t 13 b12_25t
theorem b12_27c : treeC .any (ops9 (cSb (cSb (cSb (cBl (cSa (cSb (cSb (cLo (cBl (cSb (cSa (cSb (cSb (cSb (Tryz.f20.body.getD .skip)))))))))))))))) [[26, 28, 30, 32]] b12_27t 16 #[true, true, true, true, true, true, true, true, false, false, true, true, true, false, false, true, true, true, true, false, true, true, false, false, false, false, false, false, false, false, false, false, false] = true := tc_e2 (by kernel_rfl) rfl b12_23c rfl b12_25c
def b12_28t : OC := .e3 8 b12_24t 13 b12_26t 18 b12_27t
theorem b12_28c : treeC .any (ops9 (cSb (cSb (cSb (cBl (cSa (cSb (cSb (cLo (cBl (cSb (cSa (cSb (cSb (cSb (Tryz.f20.body.getD .skip)))))))))))))))) [[26, 28, 30, 32]] b12_28t 17 #[true, true, true, true, true, true, true, true, false, false, true, true, true, false, false, true, true, true, false, false, true, true, false, false, false, false, false, false, false, false, false, false, false] = true := tc_e3 (by kernel_rfl) rfl b12_24c rfl b12_26c rfl b12_27c
def b12_29t : OC := .e1 7 b12_25t
theorem b12_29c : treeC .any (ops9 (cSb (cSb (cSb (cBl (cSa (cSb (cSb (cLo (cBl (cSb (cSa (cSb (cSb (cSb (Tryz.f20.body.getD .skip)))))))))))))))) [[26, 28, 30, 32]] b12_29t 16 #[true, true, true, true, true, true, true, false, false, false, true, true, true, true, false, true, true, true, true, false, true, true, false, false, false, false, false, false, false, false, false, false, false] = true := tc_e1 (by kernel_rfl) rfl b12_25c
def b12_30t : OC := .e2 7 b12_26t 18 b12_29t
theorem b12_30c : treeC .any (ops9 (cSb (cSb (cSb (cBl (cSa (cSb (cSb (cLo (cBl (cSb (cSa (cSb (cSb (cSb (Tryz.f20.body.getD .skip)))))))))))))))) [[26, 28, 30, 32]] b12_30t 17 #[true, true, true, true, true, true, true, false, false, false, true, true, true, true, false, true, true, true, false, false, true, true, false, false, false, false, false, false, false, false, false, false, false] = true := tc_e2 (by kernel_rfl) rfl b12_26c rfl b12_29c
def b12_31t : OC := .e2 7 b12_27t 13 b12_29t
theorem b12_31c : treeC .any (ops9 (cSb (cSb (cSb (cBl (cSa (cSb (cSb (cLo (cBl (cSb (cSa (cSb (cSb (cSb (Tryz.f20.body.getD .skip)))))))))))))))) [[26, 28, 30, 32]] b12_31t 17 #[true, true, true, true, true, true, true, false, false, false, true, true, true, false, false, true, true, true, true, false, true, true, false, false, false, false, false, false, false, false, false, false, false] = true := tc_e2 (by kernel_rfl) rfl b12_27c rfl b12_29c
def b12_32t : OC := .e3 7 b12_28t 13 b12_30t 18 b12_31t
theorem b12_32c : treeC .any (ops9 (cSb (cSb (cSb (cBl (cSa (cSb (cSb (cLo (cBl (cSb (cSa (cSb (cSb (cSb (Tryz.f20.body.getD .skip)))))))))))))))) [[26, 28, 30, 32]] b12_32t 18 #[true, true, true, true, true, true, true, false, false, false, true, true, true, false, false, true, true, true, false, false, true, true, false, false, false, false, false, false, false, false, false, false, false] = true := tc_e3 (by kernel_rfl) rfl b12_28c rfl b12_30c rfl b12_31c
def b12_33t : OC := .q 0 21 b12_32t
theorem b12_33c : treeC .any (ops9 (cSb (cSb (cSb (cBl (cSa (cSb (cSb (cLo (cBl (cSb (cSa (cSb (cSb (cSb (Tryz.f20.body.getD .skip)))))))))))))))) [[26, 28, 30, 32]] b12_33t 19 #[true, true, true, true, true, true, true, false, false, false, true, true, true, false, false, true, true, true, false, false, true, false, false, false, false, false, false, false, false, false, false, false, false] = true := tc_q (by kernel_rfl) rfl b12_32c
def b12_34t : OC := .p 20 b12_33t
theorem b12_34c : treeC .any (ops9 (cSb (cSb (cSb (cBl (cSa (cSb (cSb (cLo (cBl (cSb (cSa (cSb (cSb (cSb (Tryz.f20.body.getD .skip)))))))))))))))) [[26, 28, 30, 32]] b12_34t 20 #[true, true, true, true, true, true, true, false, false, false, true, true, true, false, false, true, true, true, false, false, false, false, false, false, false, false, false, false, false, false, false, false, false] = true := tc_p (by kernel_rfl) rfl b12_33c
def b12_35t : OC := .p 17 b12_34t
theorem b12_35c : treeC .any (ops9 (cSb (cSb (cSb (cBl (cSa (cSb (cSb (cLo (cBl (cSb (cSa (cSb (cSb (cSb (Tryz.f20.body.getD .skip)))))))))))))))) [[26, 28, 30, 32]] b12_35t 21 #[true, true, true, true, true, true, true, false, false, false, true, true, true, false, false, true, true, false, false, false, false, false, false, false, false, false, false, false, false, false, false, false, false] = true := tc_p (by kernel_rfl) rfl b12_34c
def b12_36t : OC := .q 0 16 b12_35t
theorem b12_36c : treeC .any (ops9 (cSb (cSb (cSb (cBl (cSa (cSb (cSb (cLo (cBl (cSb (cSa (cSb (cSb (cSb (Tryz.f20.body.getD .skip)))))))))))))))) [[26, 28, 30, 32]] b12_36t 22 #[true, true, true, true, true, true, true, false, false, false, true, true, true, false, false, true, false, false, false, false, false, false, false, false, false, false, false, false, false, false, false, false, false] = true := tc_q (by kernel_rfl) rfl b12_35c
def b12_37t : OC := .p 15 b12_36t
theorem b12_37c : treeC .any (ops9 (cSb (cSb (cSb (cBl (cSa (cSb (cSb (cLo (cBl (cSb (cSa (cSb (cSb (cSb (Tryz.f20.body.getD .skip)))))))))))))))) [[26, 28, 30, 32]] b12_37t 23 #[true, true, true, true, true, true, true, false, false, false, true, true, true, false, false, false, false, false, false, false, false, false, false, false, false, false, false, false, false, false, false, false, false] = true := tc_p (by kernel_rfl) rfl b12_36c
def b12_38t : OC := .p 12 b12_37t
theorem b12_38c : treeC .any (ops9 (cSb (cSb (cSb (cBl (cSa (cSb (cSb (cLo (cBl (cSb (cSa (cSb (cSb (cSb (Tryz.f20.body.getD .skip)))))))))))))))) [[26, 28, 30, 32]] b12_38t 24 #[true, true, true, true, true, true, true, false, false, false, true, true, false, false, false, false, false, false, false, false, false, false, false, false, false, false, false, false, false, false, false, false, false] = true := tc_p (by kernel_rfl) rfl b12_37c
def b12_39t : OC := .q 0 11 b12_38t
theorem b12_39c : treeC .any (ops9 (cSb (cSb (cSb (cBl (cSa (cSb (cSb (cLo (cBl (cSb (cSa (cSb (cSb (cSb (Tryz.f20.body.getD .skip)))))))))))))))) [[26, 28, 30, 32]] b12_39t 25 #[true, true, true, true, true, true, true, false, false, false, true, false, false, false, false, false, false, false, false, false, false, false, false, false, false, false, false, false, false, false, false, false, false] = true := tc_q (by kernel_rfl) rfl b12_38c
def b12_40t : OC := .p 10 b12_39t
theorem b12_40c : treeC .any (ops9 (cSb (cSb (cSb (cBl (cSa (cSb (cSb (cLo (cBl (cSb (cSa (cSb (cSb (cSb (Tryz.f20.body.getD .skip)))))))))))))))) [[26, 28, 30, 32]] b12_40t 26 #[true, true, true, true, true, true, true, false, false, false, false, false, false, false, false, false, false, false, false, false, false, false, false, false, false, false, false, false, false, false, false, false, false] = true := tc_p (by kernel_rfl) rfl b12_39c
def b12_41t : OC := .q 0 6 b12_40t
theorem b12_41c : treeC .any (ops9 (cSb (cSb (cSb (cBl (cSa (cSb (cSb (cLo (cBl (cSb (cSa (cSb (cSb (cSb (Tryz.f20.body.getD .skip)))))))))))))))) [[26, 28, 30, 32]] b12_41t 27 #[true, true, true, true, true, true, false, false, false, false, false, false, false, false, false, false, false, false, false, false, false, false, false, false, false, false, false, false, false, false, false, false, false] = true := tc_q (by kernel_rfl) rfl b12_40c
def b12_42t : OC := .q 0 5 b12_41t
theorem b12_42c : treeC .any (ops9 (cSb (cSb (cSb (cBl (cSa (cSb (cSb (cLo (cBl (cSb (cSa (cSb (cSb (cSb (Tryz.f20.body.getD .skip)))))))))))))))) [[26, 28, 30, 32]] b12_42t 28 #[true, true, true, true, true, false, false, false, false, false, false, false, false, false, false, false, false, false, false, false, false, false, false, false, false, false, false, false, false, false, false, false, false] = true := tc_q (by kernel_rfl) rfl b12_41c
def b12_43t : OC := .p 4 b12_42t
theorem b12_43c : treeC .any (ops9 (cSb (cSb (cSb (cBl (cSa (cSb (cSb (cLo (cBl (cSb (cSa (cSb (cSb (cSb (Tryz.f20.body.getD .skip)))))))))))))))) [[26, 28, 30, 32]] b12_43t 29 #[true, true, true, true, false, false, false, false, false, false, false, false, false, false, false, false, false, false, false, false, false, false, false, false, false, false, false, false, false, false, false, false, false] = true := tc_p (by kernel_rfl) rfl b12_42c
def b12_44t : OC := .p 3 b12_43t
theorem b12_44c : treeC .any (ops9 (cSb (cSb (cSb (cBl (cSa (cSb (cSb (cLo (cBl (cSb (cSa (cSb (cSb (cSb (Tryz.f20.body.getD .skip)))))))))))))))) [[26, 28, 30, 32]] b12_44t 30 #[true, true, true, false, false, false, false, false, false, false, false, false, false, false, false, false, false, false, false, false, false, false, false, false, false, false, false, false, false, false, false, false, false] = true := tc_p (by kernel_rfl) rfl b12_43c
def b12_45t : OC := .p 2 b12_44t
theorem b12_45c : treeC .any (ops9 (cSb (cSb (cSb (cBl (cSa (cSb (cSb (cLo (cBl (cSb (cSa (cSb (cSb (cSb (Tryz.f20.body.getD .skip)))))))))))))))) [[26, 28, 30, 32]] b12_45t 31 #[true, true, false, false, false, false, false, false, false, false, false, false, false, false, false, false, false, false, false, false, false, false, false, false, false, false, false, false, false, false, false, false, false] = true := tc_p (by kernel_rfl) rfl b12_44c
def b12_46t : OC := .q 0 1 b12_45t
theorem b12_46c : treeC .any (ops9 (cSb (cSb (cSb (cBl (cSa (cSb (cSb (cLo (cBl (cSb (cSa (cSb (cSb (cSb (Tryz.f20.body.getD .skip)))))))))))))))) [[26, 28, 30, 32]] b12_46t 32 #[true, false, false, false, false, false, false, false, false, false, false, false, false, false, false, false, false, false, false, false, false, false, false, false, false, false, false, false, false, false, false, false, false] = true := tc_q (by kernel_rfl) rfl b12_45c
def b12_47t : OC := .p 0 b12_46t
theorem b12_47c : treeC .any (ops9 (cSb (cSb (cSb (cBl (cSa (cSb (cSb (cLo (cBl (cSb (cSa (cSb (cSb (cSb (Tryz.f20.body.getD .skip)))))))))))))))) [[26, 28, 30, 32]] b12_47t 33 #[false, false, false, false, false, false, false, false, false, false, false, false, false, false, false, false, false, false, false, false, false, false, false, false, false, false, false, false, false, false, false, false, false] = true := tc_p (by kernel_rfl) rfl b12_46c
set_option maxRecDepth 100000 in
theorem r12t (s x : Int × Int) (ps : List (Int × Int)) (dawn : Int) (u : World) (B4 B6 B8 i : Nat) (q : TrQ) (X9 X1n X2n X3n : List (Nat × Obj)) {a : Act} {w : World} {L L0 : List (Nat × Value)} {Q : Act → World → Prop} (oa1 oa2 oa3 : Option Addr) (cp1 cp2 cp3 : Nat)
    (hx : ps[i]? = some x) (hi : i < ps.length) (hn : ps.length ≤ 6) (q4 : OwnSl 49 2 q.v4 i ((ps.take i).flatMap fun _ => swC ((0 : Int), (1440 : Int))) q.X4)
    (hf : Fr 67 [] L a) (hk : Keep [36, 37, 38, 39, 40, 41, 42, 43, 44, 45, 46, 47, 48, 49, 50, 51, 52, 53, 54, 55, 56, 57, 58, 59, 60, 61, 62, 63, 64] L0 L) (hh : Hp u [] (tq8 B8 x :: tq6 B6 dawn q.v1 q.v2 q.v3 q.v4 :: tq4 B4 :: (X1n ++ (X2n ++ (X3n ++ (q.X4 ++ (X9 ++ q.Y)))))) w)
    (l6 : lk L 6 = some (.pointer (some ⟨B6, 0, none⟩))) (l45 : lk L 45 = some (.slice oa1 (i + 1) cp1)) (l50 : lk L 50 = some (.slice oa2 (i + 1) cp2)) (l55 : lk L 55 = some (.slice oa3 (i + 1) cp3)) (l57 : lk L 57 = some q.v4) (l61 : lk L 61 = some (.pointer (some ⟨B6, 1, none⟩)))
    (hQ : ∀ a w oa4 cp4 X4n, OwnSl 49 2 (.slice oa4 (i + 1) cp4) (i + 1) ((ps.take (i + 1)).flatMap fun _ => swC ((0 : Int), (1440 : Int))) X4n → Hp u [] (tq8 B8 x :: tq6 B6 dawn (.slice oa1 (i + 1) cp1) (.slice oa2 (i + 1) cp2) (.slice oa3 (i + 1) cp3) (.slice oa4 (i + 1) cp4) :: tq4 B4 :: (X1n ++ (X2n ++ (X3n ++ (X4n ++ (X9 ++ q.Y)))))) w → Fr 67 [] ([] ++ rmL [36, 37, 38, 39, 40, 41, 42, 43, 44, 45, 46, 47, 48, 49, 50, 51, 52, 53, 54, 55, 56, 57, 58, 59, 60, 61, 62, 63, 64] L0) a → Q a w) :
    MixC Tryz.prog none (ops9 (cSb (cSb (cSb (cBl (cSa (cSb (cSb (cLo (cBl (cSb (cSa (cSb (cSb (cSb (Tryz.f20.body.getD .skip)))))))))))))))) [(AtE u [] [tq8 B8 x, tq6 B6 dawn q.v1 q.v2 q.v3 q.v4], [26, 28, 30, 32])] Q b12_10t a w := by
  replace hf := (((((hf.dup (t := 6) (v := .pointer (some ⟨B6, 0, none⟩)) l6).dup (t := 45) (v := .slice oa1 (i + 1) cp1) l45).dup (t := 50) (v := .slice oa2 (i + 1) cp2) l50).dup (t := 55) (v := .slice oa3 (i + 1) cp3) l55).dup (t := 57) (v := q.v4) l57).dup (t := 61) (v := .pointer (some ⟨B6, 1, none⟩)) l61
  refine mc_e rfl fun Q1 => ?_
  refine o_call hf Tryz.en_15 rfl rfl rfl (k15 0 1440 w) ?_; clear hf a; intro v a w hR hf
  obtain ⟨rfl, hx7⟩ := hR; replace hh := hh.more hx7; clear hx7
  refine ops_end ?_
  refine then_n ⟨⟨fun _ _ => (AtE.of hh (by intro z hz; simp only [List.mem_cons, List.mem_append, List.not_mem_nil, or_false] at hz ⊢; rcases hz with h | h <;> simp [h])), trivial⟩, ?_⟩
  refine mc_e rfl fun Q1 => ?_
  refine ops_buildSl hf hh Tryz.bl_22_1 rfl rfl (.inl rfl) rfl ?_; clear hf hh a; intro B59 a w hf hh
  replace hh : Hp u [] (tq2 B59 0 1440 :: _) w := hh
  refine ops_end ?_
  refine then_n ⟨⟨fun _ _ => (AtE.of hh (by intro z hz; simp only [List.mem_cons, List.mem_append, List.not_mem_nil, or_false] at hz ⊢; rcases hz with h | h <;> simp [h])), trivial⟩, ?_⟩
  refine mc_e rfl fun Q1 => ?_
  have hh2 : Hp u [] (tq2 B59 0 1440 :: (q.X4 ++ ([tq8 B8 x, tq6 B6 dawn q.v1 q.v2 q.v3 q.v4, tq4 B4] ++ (X1n ++ X2n ++ X3n ++ (X9 ++ q.Y))))) w := hh.perm (perm_sum fun f => by simp only [sum_cons9, sum_app9, sum_nil9]; omega)
  clear hh
  refine ops_append (v := q.v4) (e := 49) (size := 2) (xs := ((ps.take i).flatMap fun _ => swC ((0 : Int), (1440 : Int)))) (news := swC ((0 : Int), (1440 : Int))) (X := q.X4) (m := i) (q := 1) hf hh2 Tryz.eb_22 rfl rfl q4 rfl rfl rfl (by simp only [maxLen]; omega) (by omega) (.inl rfl) rfl ?_; clear hf hh2 a; intro v60 X4n a w hO4n hf hh
  replace hO4n : OwnSl 49 2 v60 (i + 1) ((ps.take (i + 1)).flatMap fun _ => swC ((0 : Int), (1440 : Int))) X4n := by
    rw [take_snoc hx, List.flatMap_append]
    simpa using hO4n
  obtain ⟨oa4, cp4, rfl⟩ := own_valW hO4n
  replace hh : Hp u [] (tq8 B8 x :: tq6 B6 dawn q.v1 q.v2 q.v3 q.v4 :: tq4 B4 :: (X1n ++ (X2n ++ (X3n ++ (X4n ++ (X9 ++ q.Y)))))) w := hh.perm (perm_sum fun f => by simp only [sum_cons9, sum_app9, sum_nil9]; omega)
  refine ops_end ?_
  refine then_n ⟨⟨fun _ _ => (AtE.of hh (by intro z hz; simp only [List.mem_cons, List.mem_append, List.not_mem_nil, or_false] at hz ⊢; rcases hz with h | h <;> simp [h])), trivial⟩, ?_⟩
  refine mc_e rfl fun Q1 => ?_
  refine o_store (i := 1) hf hh Tryz.sz_22 fun w hh => ?_
  refine ops_end ?_
  refine then_n ⟨⟨fun h => Bool.noConfusion (show true = false from h), trivial⟩, ?_⟩
  refine mc_p rfl   hf (yv_fieldAddr Tryz.fo_25_2 rfl) (.inl rfl) rfl rfl ?_; clear hf a; intro a hf
  refine mc_e rfl fun Q1 => ?_
  refine o_store (i := 1) hf hh Tryz.sz_23 fun w hh => ?_
  refine ops_end ?_
  refine then_n ⟨⟨fun h => Bool.noConfusion (show true = false from h), trivial⟩, ?_⟩
  refine mc_p rfl   hf (yv_fieldAddr Tryz.fo_25_3 rfl) (.inl rfl) rfl rfl ?_; clear hf a; intro a hf
  refine mc_e rfl fun Q1 => ?_
  refine o_store (i := 1) hf hh Tryz.sz_22 fun w hh => ?_
  refine ops_end ?_
  refine then_n ⟨⟨fun h => Bool.noConfusion (show true = false from h), trivial⟩, ?_⟩
  refine mc_p rfl   hf (yv_fieldAddr Tryz.fo_25_4 rfl) (.inl rfl) rfl rfl ?_; clear hf a; intro a hf
  refine mc_e rfl fun Q1 => ?_
  refine o_store (i := 1) hf hh Tryz.sz_22 fun w hh => ?_
  replace hh : Hp u [] (tq8 B8 x :: tq6 B6 dawn (.slice oa1 (i + 1) cp1) (.slice oa2 (i + 1) cp2) (.slice oa3 (i + 1) cp3) (.slice oa4 (i + 1) cp4) :: tq4 B4 :: (X1n ++ (X2n ++ (X3n ++ (X4n ++ (X9 ++ q.Y)))))) w := hh
  refine ops_end ?_
  refine then_n ⟨⟨fun h => Bool.noConfusion (show true = false from h), trivial⟩, ?_⟩
  refine mc_end ?_
  exact hQ _ _ oa4 cp4 X4n hO4n hh (hf.head True.intro (Keep.cons rfl (Keep.cons rfl (Keep.cons rfl (Keep.cons rfl (Keep.cons rfl (Keep.cons rfl (Keep.cons rfl (Keep.cons rfl (Keep.cons rfl (Keep.cons rfl (Keep.cons rfl (Keep.dup ((hk 6 rfl).symm.trans l6) hk)))))))))))))
set_option maxRecDepth 100000 in
set_option maxHeartbeats 4000000 in
theorem r12 (s x : Int × Int) (ps : List (Int × Int)) (dawn : Int) (u : World) (B4 B6 B8 i : Nat) (q : TrQ) (oa9 : Option Addr) (cp9 : Nat) (X9 : List (Nat × Obj)) {blk1 off1 co : Nat} {cc1 : Array Value} {T1 : TypeId} {fr1 : Nat × Nat} {a : Act} {w : World} {L : List (Nat × Value)} {Q : Exit → Act → World → Prop}
    (hxB : SpotB x) (hsB : SpotB s) (hx : ps[i]? = some x) (hi : i < ps.length) (hn : ps.length ≤ 6) (q1 : OwnSl 49 2 q.v1 i ((ps.take i).flatMap fun p => swC (dup (farD s p))) q.X1) (q2 : OwnSl 22 1 q.v2 i (rvs q.rows) q.X2) (q3 : OwnSl 49 2 q.v3 i ((ps.take i).flatMap fun _ => swC ((0 : Int), (0 : Int))) q.X3) (q4 : OwnSl 49 2 q.v4 i ((ps.take i).flatMap fun _ => swC ((0 : Int), (1440 : Int))) q.X4)
    (hb1 : u.heap[blk1]? = some (.cells cc1 T1 fr1)) (hc1 : cellsAt cc1 (off1 + (((0 : Nat) : Nat) : Int).toNat * 2) 2 = some (swC s)) (hf : Fr 67 [] L a) (hh : Hp u [] (tq8 B8 x :: tq6 B6 dawn q.v1 q.v2 q.v3 q.v4 :: tq4 B4 :: (X9 ++ (q.X1 ++ (q.X2 ++ (q.X3 ++ (q.X4 ++ q.Y)))))) w)
    (l0 : lk L 0 = some (sl9 blk1 off1 (ps.length + 1) co)) (l5 : lk L 5 = some (.func (.func 65) #[] #[])) (l6 : lk L 6 = some (.pointer (some ⟨B6, 0, none⟩))) (l8 : lk L 8 = some (.pointer (some ⟨B8, 0, none⟩))) (l9 : lk L 9 = some (.slice oa9 ps.length cp9))
    (hQ : ∀ a w oa1 oa2 oa3 oa4 cp1 cp2 cp3 cp4 X1n X2n X3n X4n, OwnSl 49 2 (.slice oa1 (i + 1) cp1) (i + 1) ((ps.take (i + 1)).flatMap fun p => swC (dup (farD s p))) X1n → OwnSl 22 1 (.slice oa2 (i + 1) cp2) (i + 1) (rvs (q.rows ++ [(wayR x ps, oa9, cp9)])) X2n → OwnSl 49 2 (.slice oa3 (i + 1) cp3) (i + 1) ((ps.take (i + 1)).flatMap fun _ => swC ((0 : Int), (0 : Int))) X3n → OwnSl 49 2 (.slice oa4 (i + 1) cp4) (i + 1) ((ps.take (i + 1)).flatMap fun _ => swC ((0 : Int), (1440 : Int))) X4n →
      Hp u [] (tq8 B8 x :: tq6 B6 dawn (.slice oa1 (i + 1) cp1) (.slice oa2 (i + 1) cp2) (.slice oa3 (i + 1) cp3) (.slice oa4 (i + 1) cp4) :: tq4 B4 :: (X1n ++ (X2n ++ (X3n ++ (X4n ++ (X9 ++ q.Y)))))) w → Fr 67 [] ([] ++ rmL [36, 37, 38, 39, 40, 41, 42, 43, 44, 45, 46, 47, 48, 49, 50, 51, 52, 53, 54, 55, 56, 57, 58, 59, 60, 61, 62, 63, 64] L) a → Q .normal a w) :
    WP Tryz.prog none (cSb (cSb (cSb (cBl (cSa (cSb (cSb (cLo (cBl (cSb (cSa (cSb (cSb (cSb (Tryz.f20.body.getD .skip))))))))))))))) Q a w := by
  replace hf := ((((hf.dup l9).dup (t := 8) (v := .pointer (some ⟨B8, 0, none⟩)) l8).dup (t := 6) (v := .pointer (some ⟨B6, 0, none⟩)) l6).dup (t := 5) (v := .func (.func 65) #[] #[]) l5).dup (t := 0) (v := sl9 blk1 off1 (ps.length + 1) co) l0
  refine sy_treeC (b12_47t) [[26, 28, 30, 32]] [(AtE u [] [tq8 B8 x, tq6 B6 dawn q.v1 q.v2 q.v3 q.v4], [26, 28, 30, 32])] Tryz.follows (and3 (by kernel_rfl) (by kernel_rfl) b12_47c) rfl hh (fun w hh => ?_)
  refine mc_p rfl   hf (yv_fieldAddr Tryz.fo_25_1 rfl) (.inl rfl) rfl rfl ?_; clear hf a; intro a hf
  refine mc_q rfl rfl (AtE.of hh (by intro z hz; simp only [List.mem_cons, List.mem_append, List.not_mem_nil, or_false] at hz ⊢; rcases hz with h | h <;> simp [h])) hf (y_ld Tryz.sc_22 rfl) (.inl rfl) rfl rfl ?_; clear hf a; intro a hf
  refine mc_p rfl   hf (yv_move rfl) (.inl rfl) rfl rfl ?_; clear hf a; intro a hf
  refine mc_p rfl   hf (yv_move rfl) (.inl rfl) rfl rfl ?_; clear hf a; intro a hf
  refine mc_p rfl   hf (y_ix Tryz.se_60 rfl rfl) (.inl rfl) rfl rfl ?_; clear hf a; intro a hf
  refine mc_q rfl rfl (AtE.of hh (by intro z hz; simp only [List.mem_cons, List.mem_append, List.not_mem_nil, or_false] at hz ⊢; rcases hz with h | h <;> simp [h])) hf (y_lds Tryz.ag_110 rfl) (.inl rfl) rfl rfl ?_; clear hf a; intro a hf
  refine mc_q rfl rfl (AtE.of hh (by intro z hz; simp only [List.mem_cons, List.mem_append, List.not_mem_nil, or_false] at hz ⊢; rcases hz with h | h <;> simp [h])) hf (y_lds Tryz.ag_110 rfl) (.inl rfl) rfl rfl ?_; clear hf a; intro a hf
  refine mc_p rfl   hf (yv_fieldAddr Tryz.fo_25_2 rfl) (.inl rfl) rfl rfl ?_; clear hf a; intro a hf
  refine mc_q rfl rfl (AtE.of hh (by intro z hz; simp only [List.mem_cons, List.mem_append, List.not_mem_nil, or_false] at hz ⊢; rcases hz with h | h <;> simp [h])) hf (y_ld Tryz.sc_23 rfl) (.inl rfl) rfl rfl ?_; clear hf a; intro a hf
  refine mc_p rfl   hf (yv_move rfl) (.inl rfl) rfl rfl ?_; clear hf a; intro a hf
  refine mc_p rfl   hf (yv_fieldAddr Tryz.fo_25_3 rfl) (.inl rfl) rfl rfl ?_; clear hf a; intro a hf
  refine mc_q rfl rfl (AtE.of hh (by intro z hz; simp only [List.mem_cons, List.mem_append, List.not_mem_nil, or_false] at hz ⊢; rcases hz with h | h <;> simp [h])) hf (y_ld Tryz.sc_22 rfl) (.inl rfl) rfl rfl ?_; clear hf a; intro a hf
  refine mc_p rfl   hf (yv_buildS Tryz.bs_49 rfl rfl) (.inl rfl) rfl rfl ?_; clear hf a; intro a hf
  refine mc_p rfl   hf (yv_fieldAddr Tryz.fo_25_4 rfl) (.inl rfl) rfl rfl ?_; clear hf a; intro a hf
  refine mc_q rfl rfl (AtE.of hh (by intro z hz; simp only [List.mem_cons, List.mem_append, List.not_mem_nil, or_false] at hz ⊢; rcases hz with h | h <;> simp [h])) hf (y_ld Tryz.sc_22 rfl) (.inl rfl) rfl rfl ?_; clear hf a; intro a hf
  refine ⟨?_, ?_, ?_⟩
  ·refine mc_e rfl fun Q1 => ?_
   refine o_call hf Tryz.en_65 rfl rfl rfl (k65 s x w hsB hxB) ?_; clear hf a; intro v a w hR hf
   obtain ⟨rfl, hx7⟩ := hR; replace hh := hh.more hx7; clear hx7
   refine ops_end ?_
   refine then_n ⟨⟨fun _ _ => (AtE.of hh (by intro z hz; simp only [List.mem_cons, List.mem_append, List.not_mem_nil, or_false] at hz ⊢; rcases hz with h | h <;> simp [h])), trivial⟩, ?_⟩
   refine ⟨?_, ?_, ?_⟩
   ·refine mc_e rfl fun Q1 => ?_
    refine ops_buildSl hf hh Tryz.bl_22_1 rfl rfl (.inl rfl) rfl ?_; clear hf hh a; intro B44 a w hf hh
    replace hh : Hp u [] (tq2 B44 (farD s x) (farD s x) :: _) w := hh
    refine ops_end ?_
    refine then_n ⟨⟨fun _ _ => (AtE.of hh (by intro z hz; simp only [List.mem_cons, List.mem_append, List.not_mem_nil, or_false] at hz ⊢; rcases hz with h | h <;> simp [h])), trivial⟩, ?_⟩
    refine ⟨?_, ?_, ?_⟩
    ·refine mc_e rfl fun Q1 => ?_
     have hh2 : Hp u [] (tq2 B44 (farD s x) (farD s x) :: (q.X1 ++ ([tq8 B8 x, tq6 B6 dawn q.v1 q.v2 q.v3 q.v4, tq4 B4] ++ (q.X2 ++ q.X3 ++ q.X4 ++ (X9 ++ q.Y))))) w := hh.perm (perm_sum fun f => by simp only [sum_cons9, sum_app9, sum_nil9]; omega)
     clear hh
     refine ops_append (v := q.v1) (e := 49) (size := 2) (xs := ((ps.take i).flatMap fun p => swC (dup (farD s p)))) (news := swC (dup (farD s x))) (X := q.X1) (m := i) (q := 1) hf hh2 Tryz.eb_22 rfl rfl q1 rfl rfl rfl (by simp only [maxLen]; omega) (by omega) (.inl rfl) rfl ?_; clear hf hh2 a; intro v45 X1n a w hO1n hf hh
     replace hO1n : OwnSl 49 2 v45 (i + 1) ((ps.take (i + 1)).flatMap fun p => swC (dup (farD s p))) X1n := by
       rw [take_snoc hx, List.flatMap_append]
       simpa using hO1n
     obtain ⟨oa1, cp1, rfl⟩ := own_valW hO1n
     refine ops_end ?_
     refine then_n ⟨⟨fun _ _ => (AtE.of hh (by intro z hz; simp only [List.mem_cons, List.mem_append, List.not_mem_nil, or_false] at hz ⊢; rcases hz with h | h <;> simp [h])), trivial⟩, ?_⟩
     refine mc_p rfl   hf (yv_fieldAddr Tryz.fo_25_1 rfl) (.inl rfl) rfl rfl ?_; clear hf a; intro a hf
     refine ⟨?_, ?_⟩
     ·refine mc_e rfl fun Q1 => ?_
      refine ops_buildSl hf hh Tryz.bl_23_1 rfl rfl (.inl rfl) rfl ?_; clear hf hh a; intro B49 a w hf hh
      replace hh : Hp u [] ((B49, .cells #[.slice oa9 ps.length cp9] 22) :: _) w := hh
      refine ops_end ?_
      refine then_n ⟨⟨fun _ _ => (AtE.of hh (by intro z hz; simp only [List.mem_cons, List.mem_append, List.not_mem_nil, or_false] at hz ⊢; rcases hz with h | h <;> simp [h])), trivial⟩, ?_⟩
      refine ⟨?_, ?_⟩
      ·refine mc_e rfl fun Q1 => ?_
       have hh2 : Hp u [] ((B49, .cells #[.slice oa9 ps.length cp9] 22) :: (q.X2 ++ ([tq8 B8 x, tq6 B6 dawn q.v1 q.v2 q.v3 q.v4, tq4 B4] ++ (X1n ++ q.X3 ++ q.X4 ++ (X9 ++ q.Y))))) w := hh.perm (perm_sum fun f => by simp only [sum_cons9, sum_app9, sum_nil9]; omega)
       clear hh
       refine ops_append (v := q.v2) (e := 22) (size := 1) (xs := rvs q.rows) (news := [.slice oa9 ps.length cp9]) (X := q.X2) (m := i) (q := 1) hf hh2 Tryz.eb_23 rfl rfl q2 rfl rfl rfl (by simp only [maxLen]; omega) (by omega) (.inl rfl) rfl ?_; clear hf hh2 a; intro v50 X2n a w hO2n hf hh
       replace hO2n : OwnSl 22 1 v50 (i + 1) (rvs (q.rows ++ [(wayR x ps, oa9, cp9)])) X2n := by
         have e : rvs (q.rows ++ [(wayR x ps, oa9, cp9)]) = rvs q.rows ++ [.slice oa9 ps.length cp9] := by
           unfold rvs
           rw [List.map_append]
           show _ ++ [Value.slice oa9 (wayR x ps).length cp9] = _
           rw [List.length_map]
         rw [e]; exact hO2n
       obtain ⟨oa2, cp2, rfl⟩ := own_valW hO2n
       refine ops_end ?_
       refine then_n ⟨⟨fun _ _ => (AtE.of hh (by intro z hz; simp only [List.mem_cons, List.mem_append, List.not_mem_nil, or_false] at hz ⊢; rcases hz with h | h <;> simp [h])), trivial⟩, ?_⟩
       refine mc_e rfl fun Q1 => ?_
       refine ops_buildSl hf hh Tryz.bl_22_1 rfl rfl (.inl rfl) rfl ?_; clear hf hh a; intro B54 a w hf hh
       replace hh : Hp u [] (tq2 B54 0 0 :: _) w := hh
       refine ops_end ?_
       refine then_n ⟨⟨fun _ _ => (AtE.of hh (by intro z hz; simp only [List.mem_cons, List.mem_append, List.not_mem_nil, or_false] at hz ⊢; rcases hz with h | h <;> simp [h])), trivial⟩, ?_⟩
       refine mc_e rfl fun Q1 => ?_
       have hh2 : Hp u [] (tq2 B54 0 0 :: (q.X3 ++ ([tq8 B8 x, tq6 B6 dawn q.v1 q.v2 q.v3 q.v4, tq4 B4] ++ (X1n ++ X2n ++ q.X4 ++ (X9 ++ q.Y))))) w := hh.perm (perm_sum fun f => by simp only [sum_cons9, sum_app9, sum_nil9]; omega)
       clear hh
       refine ops_append (v := q.v3) (e := 49) (size := 2) (xs := ((ps.take i).flatMap fun _ => swC ((0 : Int), (0 : Int)))) (news := swC ((0 : Int), (0 : Int))) (X := q.X3) (m := i) (q := 1) hf hh2 Tryz.eb_22 rfl rfl q3 rfl rfl rfl (by simp only [maxLen]; omega) (by omega) (.inl rfl) rfl ?_; clear hf hh2 a; intro v55 X3n a w hO3n hf hh
       replace hO3n : OwnSl 49 2 v55 (i + 1) ((ps.take (i + 1)).flatMap fun _ => swC ((0 : Int), (0 : Int))) X3n := by
         rw [take_snoc hx, List.flatMap_append]
         simpa using hO3n
       obtain ⟨oa3, cp3, rfl⟩ := own_valW hO3n
       refine ops_end ?_
       refine then_n ⟨⟨fun _ _ => (AtE.of hh (by intro z hz; simp only [List.mem_cons, List.mem_append, List.not_mem_nil, or_false] at hz ⊢; rcases hz with h | h <;> simp [h])), trivial⟩, ?_⟩
       exact r12t s x ps dawn u B4 B6 B8 i q X9 X1n X2n X3n oa1 oa2 oa3 cp1 cp2 cp3 hx hi hn q4 hf (Keep.cons rfl (Keep.cons rfl (Keep.cons rfl (Keep.cons rfl (Keep.cons rfl (Keep.cons rfl (Keep.cons rfl (Keep.cons rfl (Keep.cons rfl (Keep.cons rfl (Keep.cons rfl (Keep.cons rfl (Keep.cons rfl (Keep.cons rfl (Keep.cons rfl (Keep.cons rfl (Keep.cons rfl (Keep.cons rfl (Keep.cons rfl (Keep.cons rfl (Keep.cons rfl (Keep.cons rfl (Keep.cons rfl (Keep.dup l0 (Keep.dup l5 (Keep.dup l6 (Keep.dup l8 (Keep.dup l9 Keep.base)))))))))))))))))))))))))))) (hh.perm (perm_sum fun f => by simp only [sum_cons9, sum_app9, sum_nil9]; omega)) rfl rfl rfl rfl rfl rfl fun a w oa4 cp4 X4n hO4n hh hf => hQ a w oa1 oa2 oa3 oa4 cp1 cp2 cp3 cp4 X1n X2n X3n X4n hO1n hO2n hO3n hO4n hh hf
      ·refine mc_e rfl fun Q1 => ?_
       refine ops_buildSl hf hh Tryz.bl_22_1 rfl rfl (.inl rfl) rfl ?_; clear hf hh a; intro B54 a w hf hh
       replace hh : Hp u [] (tq2 B54 0 0 :: _) w := hh
       refine ops_end ?_
       refine then_n ⟨⟨fun _ _ => (AtE.of hh (by intro z hz; simp only [List.mem_cons, List.mem_append, List.not_mem_nil, or_false] at hz ⊢; rcases hz with h | h <;> simp [h])), trivial⟩, ?_⟩
       refine mc_e rfl fun Q1 => ?_
       have hh2 : Hp u [] ((B49, .cells #[.slice oa9 ps.length cp9] 22) :: (q.X2 ++ ([tq2 B54 0 0, tq8 B8 x, tq6 B6 dawn q.v1 q.v2 q.v3 q.v4, tq4 B4] ++ (X1n ++ q.X3 ++ q.X4 ++ (X9 ++ q.Y))))) w := hh.perm (perm_sum fun f => by simp only [sum_cons9, sum_app9, sum_nil9]; omega)
       clear hh
       refine ops_append (v := q.v2) (e := 22) (size := 1) (xs := rvs q.rows) (news := [.slice oa9 ps.length cp9]) (X := q.X2) (m := i) (q := 1) hf hh2 Tryz.eb_23 rfl rfl q2 rfl rfl rfl (by simp only [maxLen]; omega) (by omega) (.inl rfl) rfl ?_; clear hf hh2 a; intro v50 X2n a w hO2n hf hh
       replace hO2n : OwnSl 22 1 v50 (i + 1) (rvs (q.rows ++ [(wayR x ps, oa9, cp9)])) X2n := by
         have e : rvs (q.rows ++ [(wayR x ps, oa9, cp9)]) = rvs q.rows ++ [.slice oa9 ps.length cp9] := by
           unfold rvs
           rw [List.map_append]
           show _ ++ [Value.slice oa9 (wayR x ps).length cp9] = _
           rw [List.length_map]
         rw [e]; exact hO2n
       obtain ⟨oa2, cp2, rfl⟩ := own_valW hO2n
       refine ops_end ?_
       refine then_n ⟨⟨fun _ _ => (AtE.of hh (by intro z hz; simp only [List.mem_cons, List.mem_append, List.not_mem_nil, or_false] at hz ⊢; rcases hz with h | h <;> simp [h])), trivial⟩, ?_⟩
       refine mc_e rfl fun Q1 => ?_
       have hh2 : Hp u [] (tq2 B54 0 0 :: (q.X3 ++ ([tq8 B8 x, tq6 B6 dawn q.v1 q.v2 q.v3 q.v4, tq4 B4] ++ (X1n ++ X2n ++ q.X4 ++ (X9 ++ q.Y))))) w := hh.perm (perm_sum fun f => by simp only [sum_cons9, sum_app9, sum_nil9]; omega)
       clear hh
       refine ops_append (v := q.v3) (e := 49) (size := 2) (xs := ((ps.take i).flatMap fun _ => swC ((0 : Int), (0 : Int)))) (news := swC ((0 : Int), (0 : Int))) (X := q.X3) (m := i) (q := 1) hf hh2 Tryz.eb_22 rfl rfl q3 rfl rfl rfl (by simp only [maxLen]; omega) (by omega) (.inl rfl) rfl ?_; clear hf hh2 a; intro v55 X3n a w hO3n hf hh
       replace hO3n : OwnSl 49 2 v55 (i + 1) ((ps.take (i + 1)).flatMap fun _ => swC ((0 : Int), (0 : Int))) X3n := by
         rw [take_snoc hx, List.flatMap_append]
         simpa using hO3n
       obtain ⟨oa3, cp3, rfl⟩ := own_valW hO3n
       refine ops_end ?_
       refine then_n ⟨⟨fun _ _ => (AtE.of hh (by intro z hz; simp only [List.mem_cons, List.mem_append, List.not_mem_nil, or_false] at hz ⊢; rcases hz with h | h <;> simp [h])), trivial⟩, ?_⟩
       exact r12t s x ps dawn u B4 B6 B8 i q X9 X1n X2n X3n oa1 oa2 oa3 cp1 cp2 cp3 hx hi hn q4 hf (Keep.cons rfl (Keep.cons rfl (Keep.cons rfl (Keep.cons rfl (Keep.cons rfl (Keep.cons rfl (Keep.cons rfl (Keep.cons rfl (Keep.cons rfl (Keep.cons rfl (Keep.cons rfl (Keep.cons rfl (Keep.cons rfl (Keep.cons rfl (Keep.cons rfl (Keep.cons rfl (Keep.cons rfl (Keep.cons rfl (Keep.cons rfl (Keep.cons rfl (Keep.cons rfl (Keep.cons rfl (Keep.cons rfl (Keep.dup l0 (Keep.dup l5 (Keep.dup l6 (Keep.dup l8 (Keep.dup l9 Keep.base)))))))))))))))))))))))))))) (hh.perm (perm_sum fun f => by simp only [sum_cons9, sum_app9, sum_nil9]; omega)) rfl rfl rfl rfl rfl rfl fun a w oa4 cp4 X4n hO4n hh hf => hQ a w oa1 oa2 oa3 oa4 cp1 cp2 cp3 cp4 X1n X2n X3n X4n hO1n hO2n hO3n hO4n hh hf
     ·refine mc_e rfl fun Q1 => ?_
      refine ops_buildSl hf hh Tryz.bl_22_1 rfl rfl (.inl rfl) rfl ?_; clear hf hh a; intro B54 a w hf hh
      replace hh : Hp u [] (tq2 B54 0 0 :: _) w := hh
      refine ops_end ?_
      refine then_n ⟨⟨fun _ _ => (AtE.of hh (by intro z hz; simp only [List.mem_cons, List.mem_append, List.not_mem_nil, or_false] at hz ⊢; rcases hz with h | h <;> simp [h])), trivial⟩, ?_⟩
      refine mc_e rfl fun Q1 => ?_
      refine ops_buildSl hf hh Tryz.bl_23_1 rfl rfl (.inl rfl) rfl ?_; clear hf hh a; intro B49 a w hf hh
      replace hh : Hp u [] ((B49, .cells #[.slice oa9 ps.length cp9] 22) :: _) w := hh
      refine ops_end ?_
      refine then_n ⟨⟨fun _ _ => (AtE.of hh (by intro z hz; simp only [List.mem_cons, List.mem_append, List.not_mem_nil, or_false] at hz ⊢; rcases hz with h | h <;> simp [h])), trivial⟩, ?_⟩
      refine mc_e rfl fun Q1 => ?_
      have hh2 : Hp u [] ((B49, .cells #[.slice oa9 ps.length cp9] 22) :: (q.X2 ++ ([tq2 B54 0 0, tq8 B8 x, tq6 B6 dawn q.v1 q.v2 q.v3 q.v4, tq4 B4] ++ (X1n ++ q.X3 ++ q.X4 ++ (X9 ++ q.Y))))) w := hh.perm (perm_sum fun f => by simp only [sum_cons9, sum_app9, sum_nil9]; omega)
      clear hh
      refine ops_append (v := q.v2) (e := 22) (size := 1) (xs := rvs q.rows) (news := [.slice oa9 ps.length cp9]) (X := q.X2) (m := i) (q := 1) hf hh2 Tryz.eb_23 rfl rfl q2 rfl rfl rfl (by simp only [maxLen]; omega) (by omega) (.inl rfl) rfl ?_; clear hf hh2 a; intro v50 X2n a w hO2n hf hh
      replace hO2n : OwnSl 22 1 v50 (i + 1) (rvs (q.rows ++ [(wayR x ps, oa9, cp9)])) X2n := by
        have e : rvs (q.rows ++ [(wayR x ps, oa9, cp9)]) = rvs q.rows ++ [.slice oa9 ps.length cp9] := by
          unfold rvs
          rw [List.map_append]
          show _ ++ [Value.slice oa9 (wayR x ps).length cp9] = _
          rw [List.length_map]
        rw [e]; exact hO2n
      obtain ⟨oa2, cp2, rfl⟩ := own_valW hO2n
      refine ops_end ?_
      refine then_n ⟨⟨fun _ _ => (AtE.of hh (by intro z hz; simp only [List.mem_cons, List.mem_append, List.not_mem_nil, or_false] at hz ⊢; rcases hz with h | h <;> simp [h])), trivial⟩, ?_⟩
      refine mc_e rfl fun Q1 => ?_
      have hh2 : Hp u [] (tq2 B54 0 0 :: (q.X3 ++ ([tq8 B8 x, tq6 B6 dawn q.v1 q.v2 q.v3 q.v4, tq4 B4] ++ (X1n ++ X2n ++ q.X4 ++ (X9 ++ q.Y))))) w := hh.perm (perm_sum fun f => by simp only [sum_cons9, sum_app9, sum_nil9]; omega)
      clear hh
      refine ops_append (v := q.v3) (e := 49) (size := 2) (xs := ((ps.take i).flatMap fun _ => swC ((0 : Int), (0 : Int)))) (news := swC ((0 : Int), (0 : Int))) (X := q.X3) (m := i) (q := 1) hf hh2 Tryz.eb_22 rfl rfl q3 rfl rfl rfl (by simp only [maxLen]; omega) (by omega) (.inl rfl) rfl ?_; clear hf hh2 a; intro v55 X3n a w hO3n hf hh
      replace hO3n : OwnSl 49 2 v55 (i + 1) ((ps.take (i + 1)).flatMap fun _ => swC ((0 : Int), (0 : Int))) X3n := by
        rw [take_snoc hx, List.flatMap_append]
        simpa using hO3n
      obtain ⟨oa3, cp3, rfl⟩ := own_valW hO3n
      refine ops_end ?_
      refine then_n ⟨⟨fun _ _ => (AtE.of hh (by intro z hz; simp only [List.mem_cons, List.mem_append, List.not_mem_nil, or_false] at hz ⊢; rcases hz with h | h <;> simp [h])), trivial⟩, ?_⟩
      exact r12t s x ps dawn u B4 B6 B8 i q X9 X1n X2n X3n oa1 oa2 oa3 cp1 cp2 cp3 hx hi hn q4 hf (Keep.cons rfl (Keep.cons rfl (Keep.cons rfl (Keep.cons rfl (Keep.cons rfl (Keep.cons rfl (Keep.cons rfl (Keep.cons rfl (Keep.cons rfl (Keep.cons rfl (Keep.cons rfl (Keep.cons rfl (Keep.cons rfl (Keep.cons rfl (Keep.cons rfl (Keep.cons rfl (Keep.cons rfl (Keep.cons rfl (Keep.cons rfl (Keep.cons rfl (Keep.cons rfl (Keep.cons rfl (Keep.cons rfl (Keep.dup l0 (Keep.dup l5 (Keep.dup l6 (Keep.dup l8 (Keep.dup l9 Keep.base)))))))))))))))))))))))))))) (hh.perm (perm_sum fun f => by simp only [sum_cons9, sum_app9, sum_nil9]; omega)) rfl rfl rfl rfl rfl rfl fun a w oa4 cp4 X4n hO4n hh hf => hQ a w oa1 oa2 oa3 oa4 cp1 cp2 cp3 cp4 X1n X2n X3n X4n hO1n hO2n hO3n hO4n hh hf
    ·refine mc_e rfl fun Q1 => ?_
     refine ops_buildSl hf hh Tryz.bl_23_1 rfl rfl (.inl rfl) rfl ?_; clear hf hh a; intro B49 a w hf hh
     replace hh : Hp u [] ((B49, .cells #[.slice oa9 ps.length cp9] 22) :: _) w := hh
     refine ops_end ?_
     refine then_n ⟨⟨fun _ _ => (AtE.of hh (by intro z hz; simp only [List.mem_cons, List.mem_append, List.not_mem_nil, or_false] at hz ⊢; rcases hz with h | h <;> simp [h])), trivial⟩, ?_⟩
     refine ⟨?_, ?_⟩
     ·refine mc_e rfl fun Q1 => ?_
      have hh2 : Hp u [] (tq2 B44 (farD s x) (farD s x) :: (q.X1 ++ ([(B49, .cells #[.slice oa9 ps.length cp9] 22), tq8 B8 x, tq6 B6 dawn q.v1 q.v2 q.v3 q.v4, tq4 B4] ++ (q.X2 ++ q.X3 ++ q.X4 ++ (X9 ++ q.Y))))) w := hh.perm (perm_sum fun f => by simp only [sum_cons9, sum_app9, sum_nil9]; omega)
      clear hh
      refine ops_append (v := q.v1) (e := 49) (size := 2) (xs := ((ps.take i).flatMap fun p => swC (dup (farD s p)))) (news := swC (dup (farD s x))) (X := q.X1) (m := i) (q := 1) hf hh2 Tryz.eb_22 rfl rfl q1 rfl rfl rfl (by simp only [maxLen]; omega) (by omega) (.inl rfl) rfl ?_; clear hf hh2 a; intro v45 X1n a w hO1n hf hh
      replace hO1n : OwnSl 49 2 v45 (i + 1) ((ps.take (i + 1)).flatMap fun p => swC (dup (farD s p))) X1n := by
        rw [take_snoc hx, List.flatMap_append]
        simpa using hO1n
      obtain ⟨oa1, cp1, rfl⟩ := own_valW hO1n
      refine ops_end ?_
      refine then_n ⟨⟨fun _ _ => (AtE.of hh (by intro z hz; simp only [List.mem_cons, List.mem_append, List.not_mem_nil, or_false] at hz ⊢; rcases hz with h | h <;> simp [h])), trivial⟩, ?_⟩
      refine mc_p rfl   hf (yv_fieldAddr Tryz.fo_25_1 rfl) (.inl rfl) rfl rfl ?_; clear hf a; intro a hf
      refine ⟨?_, ?_⟩
      ·refine mc_e rfl fun Q1 => ?_
       have hh2 : Hp u [] ((B49, .cells #[.slice oa9 ps.length cp9] 22) :: (q.X2 ++ ([tq8 B8 x, tq6 B6 dawn q.v1 q.v2 q.v3 q.v4, tq4 B4] ++ (X1n ++ q.X3 ++ q.X4 ++ (X9 ++ q.Y))))) w := hh.perm (perm_sum fun f => by simp only [sum_cons9, sum_app9, sum_nil9]; omega)
       clear hh
       refine ops_append (v := q.v2) (e := 22) (size := 1) (xs := rvs q.rows) (news := [.slice oa9 ps.length cp9]) (X := q.X2) (m := i) (q := 1) hf hh2 Tryz.eb_23 rfl rfl q2 rfl rfl rfl (by simp only [maxLen]; omega) (by omega) (.inl rfl) rfl ?_; clear hf hh2 a; intro v50 X2n a w hO2n hf hh
       replace hO2n : OwnSl 22 1 v50 (i + 1) (rvs (q.rows ++ [(wayR x ps, oa9, cp9)])) X2n := by
         have e : rvs (q.rows ++ [(wayR x ps, oa9, cp9)]) = rvs q.rows ++ [.slice oa9 ps.length cp9] := by
           unfold rvs
           rw [List.map_append]
           show _ ++ [Value.slice oa9 (wayR x ps).length cp9] = _
           rw [List.length_map]
         rw [e]; exact hO2n
       obtain ⟨oa2, cp2, rfl⟩ := own_valW hO2n
       refine ops_end ?_
       refine then_n ⟨⟨fun _ _ => (AtE.of hh (by intro z hz; simp only [List.mem_cons, List.mem_append, List.not_mem_nil, or_false] at hz ⊢; rcases hz with h | h <;> simp [h])), trivial⟩, ?_⟩
       refine mc_e rfl fun Q1 => ?_
       refine ops_buildSl hf hh Tryz.bl_22_1 rfl rfl (.inl rfl) rfl ?_; clear hf hh a; intro B54 a w hf hh
       replace hh : Hp u [] (tq2 B54 0 0 :: _) w := hh
       refine ops_end ?_
       refine then_n ⟨⟨fun _ _ => (AtE.of hh (by intro z hz; simp only [List.mem_cons, List.mem_append, List.not_mem_nil, or_false] at hz ⊢; rcases hz with h | h <;> simp [h])), trivial⟩, ?_⟩
       refine mc_e rfl fun Q1 => ?_
       have hh2 : Hp u [] (tq2 B54 0 0 :: (q.X3 ++ ([tq8 B8 x, tq6 B6 dawn q.v1 q.v2 q.v3 q.v4, tq4 B4] ++ (X1n ++ X2n ++ q.X4 ++ (X9 ++ q.Y))))) w := hh.perm (perm_sum fun f => by simp only [sum_cons9, sum_app9, sum_nil9]; omega)
       clear hh
       refine ops_append (v := q.v3) (e := 49) (size := 2) (xs := ((ps.take i).flatMap fun _ => swC ((0 : Int), (0 : Int)))) (news := swC ((0 : Int), (0 : Int))) (X := q.X3) (m := i) (q := 1) hf hh2 Tryz.eb_22 rfl rfl q3 rfl rfl rfl (by simp only [maxLen]; omega) (by omega) (.inl rfl) rfl ?_; clear hf hh2 a; intro v55 X3n a w hO3n hf hh
       replace hO3n : OwnSl 49 2 v55 (i + 1) ((ps.take (i + 1)).flatMap fun _ => swC ((0 : Int), (0 : Int))) X3n := by
         rw [take_snoc hx, List.flatMap_append]
         simpa using hO3n
       obtain ⟨oa3, cp3, rfl⟩ := own_valW hO3n
       refine ops_end ?_
       refine then_n ⟨⟨fun _ _ => (AtE.of hh (by intro z hz; simp only [List.mem_cons, List.mem_append, List.not_mem_nil, or_false] at hz ⊢; rcases hz with h | h <;> simp [h])), trivial⟩, ?_⟩
       exact r12t s x ps dawn u B4 B6 B8 i q X9 X1n X2n X3n oa1 oa2 oa3 cp1 cp2 cp3 hx hi hn q4 hf (Keep.cons rfl (Keep.cons rfl (Keep.cons rfl (Keep.cons rfl (Keep.cons rfl (Keep.cons rfl (Keep.cons rfl (Keep.cons rfl (Keep.cons rfl (Keep.cons rfl (Keep.cons rfl (Keep.cons rfl (Keep.cons rfl (Keep.cons rfl (Keep.cons rfl (Keep.cons rfl (Keep.cons rfl (Keep.cons rfl (Keep.cons rfl (Keep.cons rfl (Keep.cons rfl (Keep.cons rfl (Keep.cons rfl (Keep.dup l0 (Keep.dup l5 (Keep.dup l6 (Keep.dup l8 (Keep.dup l9 Keep.base)))))))))))))))))))))))))))) (hh.perm (perm_sum fun f => by simp only [sum_cons9, sum_app9, sum_nil9]; omega)) rfl rfl rfl rfl rfl rfl fun a w oa4 cp4 X4n hO4n hh hf => hQ a w oa1 oa2 oa3 oa4 cp1 cp2 cp3 cp4 X1n X2n X3n X4n hO1n hO2n hO3n hO4n hh hf
      ·refine mc_e rfl fun Q1 => ?_
       refine ops_buildSl hf hh Tryz.bl_22_1 rfl rfl (.inl rfl) rfl ?_; clear hf hh a; intro B54 a w hf hh
       replace hh : Hp u [] (tq2 B54 0 0 :: _) w := hh
       refine ops_end ?_
       refine then_n ⟨⟨fun _ _ => (AtE.of hh (by intro z hz; simp only [List.mem_cons, List.mem_append, List.not_mem_nil, or_false] at hz ⊢; rcases hz with h | h <;> simp [h])), trivial⟩, ?_⟩
       refine mc_e rfl fun Q1 => ?_
       have hh2 : Hp u [] ((B49, .cells #[.slice oa9 ps.length cp9] 22) :: (q.X2 ++ ([tq2 B54 0 0, tq8 B8 x, tq6 B6 dawn q.v1 q.v2 q.v3 q.v4, tq4 B4] ++ (X1n ++ q.X3 ++ q.X4 ++ (X9 ++ q.Y))))) w := hh.perm (perm_sum fun f => by simp only [sum_cons9, sum_app9, sum_nil9]; omega)
       clear hh
       refine ops_append (v := q.v2) (e := 22) (size := 1) (xs := rvs q.rows) (news := [.slice oa9 ps.length cp9]) (X := q.X2) (m := i) (q := 1) hf hh2 Tryz.eb_23 rfl rfl q2 rfl rfl rfl (by simp only [maxLen]; omega) (by omega) (.inl rfl) rfl ?_; clear hf hh2 a; intro v50 X2n a w hO2n hf hh
       replace hO2n : OwnSl 22 1 v50 (i + 1) (rvs (q.rows ++ [(wayR x ps, oa9, cp9)])) X2n := by
         have e : rvs (q.rows ++ [(wayR x ps, oa9, cp9)]) = rvs q.rows ++ [.slice oa9 ps.length cp9] := by
           unfold rvs
           rw [List.map_append]
           show _ ++ [Value.slice oa9 (wayR x ps).length cp9] = _
           rw [List.length_map]
         rw [e]; exact hO2n
       obtain ⟨oa2, cp2, rfl⟩ := own_valW hO2n
       refine ops_end ?_
       refine then_n ⟨⟨fun _ _ => (AtE.of hh (by intro z hz; simp only [List.mem_cons, List.mem_append, List.not_mem_nil, or_false] at hz ⊢; rcases hz with h | h <;> simp [h])), trivial⟩, ?_⟩
       refine mc_e rfl fun Q1 => ?_
       have hh2 : Hp u [] (tq2 B54 0 0 :: (q.X3 ++ ([tq8 B8 x, tq6 B6 dawn q.v1 q.v2 q.v3 q.v4, tq4 B4] ++ (X1n ++ X2n ++ q.X4 ++ (X9 ++ q.Y))))) w := hh.perm (perm_sum fun f => by simp only [sum_cons9, sum_app9, sum_nil9]; omega)
       clear hh
       refine ops_append (v := q.v3) (e := 49) (size := 2) (xs := ((ps.take i).flatMap fun _ => swC ((0 : Int), (0 : Int)))) (news := swC ((0 : Int), (0 : Int))) (X := q.X3) (m := i) (q := 1) hf hh2 Tryz.eb_22 rfl rfl q3 rfl rfl rfl (by simp only [maxLen]; omega) (by omega) (.inl rfl) rfl ?_; clear hf hh2 a; intro v55 X3n a w hO3n hf hh
       replace hO3n : OwnSl 49 2 v55 (i + 1) ((ps.take (i + 1)).flatMap fun _ => swC ((0 : Int), (0 : Int))) X3n := by
         rw [take_snoc hx, List.flatMap_append]
         simpa using hO3n
       obtain ⟨oa3, cp3, rfl⟩ := own_valW hO3n
       refine ops_end ?_
       refine then_n ⟨⟨fun _ _ => (AtE.of hh (by intro z hz; simp only [List.mem_cons, List.mem_append, List.not_mem_nil, or_false] at hz ⊢; rcases hz with h | h <;> simp [h])), trivial⟩, ?_⟩
       exact r12t s x ps dawn u B4 B6 B8 i q X9 X1n X2n X3n oa1 oa2 oa3 cp1 cp2 cp3 hx hi hn q4 hf (Keep.cons rfl (Keep.cons rfl (Keep.cons rfl (Keep.cons rfl (Keep.cons rfl (Keep.cons rfl (Keep.cons rfl (Keep.cons rfl (Keep.cons rfl (Keep.cons rfl (Keep.cons rfl (Keep.cons rfl (Keep.cons rfl (Keep.cons rfl (Keep.cons rfl (Keep.cons rfl (Keep.cons rfl (Keep.cons rfl (Keep.cons rfl (Keep.cons rfl (Keep.cons rfl (Keep.cons rfl (Keep.cons rfl (Keep.dup l0 (Keep.dup l5 (Keep.dup l6 (Keep.dup l8 (Keep.dup l9 Keep.base)))))))))))))))))))))))))))) (hh.perm (perm_sum fun f => by simp only [sum_cons9, sum_app9, sum_nil9]; omega)) rfl rfl rfl rfl rfl rfl fun a w oa4 cp4 X4n hO4n hh hf => hQ a w oa1 oa2 oa3 oa4 cp1 cp2 cp3 cp4 X1n X2n X3n X4n hO1n hO2n hO3n hO4n hh hf
     ·refine mc_e rfl fun Q1 => ?_
      refine ops_buildSl hf hh Tryz.bl_22_1 rfl rfl (.inl rfl) rfl ?_; clear hf hh a; intro B54 a w hf hh
      replace hh : Hp u [] (tq2 B54 0 0 :: _) w := hh
      refine ops_end ?_
      refine then_n ⟨⟨fun _ _ => (AtE.of hh (by intro z hz; simp only [List.mem_cons, List.mem_append, List.not_mem_nil, or_false] at hz ⊢; rcases hz with h | h <;> simp [h])), trivial⟩, ?_⟩
      refine mc_e rfl fun Q1 => ?_
      have hh2 : Hp u [] (tq2 B44 (farD s x) (farD s x) :: (q.X1 ++ ([(B49, .cells #[.slice oa9 ps.length cp9] 22), tq2 B54 0 0, tq8 B8 x, tq6 B6 dawn q.v1 q.v2 q.v3 q.v4, tq4 B4] ++ (q.X2 ++ q.X3 ++ q.X4 ++ (X9 ++ q.Y))))) w := hh.perm (perm_sum fun f => by simp only [sum_cons9, sum_app9, sum_nil9]; omega)
      clear hh
      refine ops_append (v := q.v1) (e := 49) (size := 2) (xs := ((ps.take i).flatMap fun p => swC (dup (farD s p)))) (news := swC (dup (farD s x))) (X := q.X1) (m := i) (q := 1) hf hh2 Tryz.eb_22 rfl rfl q1 rfl rfl rfl (by simp only [maxLen]; omega) (by omega) (.inl rfl) rfl ?_; clear hf hh2 a; intro v45 X1n a w hO1n hf hh
      replace hO1n : OwnSl 49 2 v45 (i + 1) ((ps.take (i + 1)).flatMap fun p => swC (dup (farD s p))) X1n := by
        rw [take_snoc hx, List.flatMap_append]
        simpa using hO1n
      obtain ⟨oa1, cp1, rfl⟩ := own_valW hO1n
      refine ops_end ?_
      refine then_n ⟨⟨fun _ _ => (AtE.of hh (by intro z hz; simp only [List.mem_cons, List.mem_append, List.not_mem_nil, or_false] at hz ⊢; rcases hz with h | h <;> simp [h])), trivial⟩, ?_⟩
      refine mc_p rfl   hf (yv_fieldAddr Tryz.fo_25_1 rfl) (.inl rfl) rfl rfl ?_; clear hf a; intro a hf
      refine mc_e rfl fun Q1 => ?_
      have hh2 : Hp u [] ((B49, .cells #[.slice oa9 ps.length cp9] 22) :: (q.X2 ++ ([tq2 B54 0 0, tq8 B8 x, tq6 B6 dawn q.v1 q.v2 q.v3 q.v4, tq4 B4] ++ (X1n ++ q.X3 ++ q.X4 ++ (X9 ++ q.Y))))) w := hh.perm (perm_sum fun f => by simp only [sum_cons9, sum_app9, sum_nil9]; omega)
      clear hh
      refine ops_append (v := q.v2) (e := 22) (size := 1) (xs := rvs q.rows) (news := [.slice oa9 ps.length cp9]) (X := q.X2) (m := i) (q := 1) hf hh2 Tryz.eb_23 rfl rfl q2 rfl rfl rfl (by simp only [maxLen]; omega) (by omega) (.inl rfl) rfl ?_; clear hf hh2 a; intro v50 X2n a w hO2n hf hh
      replace hO2n : OwnSl 22 1 v50 (i + 1) (rvs (q.rows ++ [(wayR x ps, oa9, cp9)])) X2n := by
        have e : rvs (q.rows ++ [(wayR x ps, oa9, cp9)]) = rvs q.rows ++ [.slice oa9 ps.length cp9] := by
          unfold rvs
          rw [List.map_append]
          show _ ++ [Value.slice oa9 (wayR x ps).length cp9] = _
          rw [List.length_map]
        rw [e]; exact hO2n
      obtain ⟨oa2, cp2, rfl⟩ := own_valW hO2n
      refine ops_end ?_
      refine then_n ⟨⟨fun _ _ => (AtE.of hh (by intro z hz; simp only [List.mem_cons, List.mem_append, List.not_mem_nil, or_false] at hz ⊢; rcases hz with h | h <;> simp [h])), trivial⟩, ?_⟩
      refine mc_e rfl fun Q1 => ?_
      have hh2 : Hp u [] (tq2 B54 0 0 :: (q.X3 ++ ([tq8 B8 x, tq6 B6 dawn q.v1 q.v2 q.v3 q.v4, tq4 B4] ++ (X1n ++ X2n ++ q.X4 ++ (X9 ++ q.Y))))) w := hh.perm (perm_sum fun f => by simp only [sum_cons9, sum_app9, sum_nil9]; omega)
      clear hh
      refine ops_append (v := q.v3) (e := 49) (size := 2) (xs := ((ps.take i).flatMap fun _ => swC ((0 : Int), (0 : Int)))) (news := swC ((0 : Int), (0 : Int))) (X := q.X3) (m := i) (q := 1) hf hh2 Tryz.eb_22 rfl rfl q3 rfl rfl rfl (by simp only [maxLen]; omega) (by omega) (.inl rfl) rfl ?_; clear hf hh2 a; intro v55 X3n a w hO3n hf hh
      replace hO3n : OwnSl 49 2 v55 (i + 1) ((ps.take (i + 1)).flatMap fun _ => swC ((0 : Int), (0 : Int))) X3n := by
        rw [take_snoc hx, List.flatMap_append]
        simpa using hO3n
      obtain ⟨oa3, cp3, rfl⟩ := own_valW hO3n
      refine ops_end ?_
      refine then_n ⟨⟨fun _ _ => (AtE.of hh (by intro z hz; simp only [List.mem_cons, List.mem_append, List.not_mem_nil, or_false] at hz ⊢; rcases hz with h | h <;> simp [h])), trivial⟩, ?_⟩
      exact r12t s x ps dawn u B4 B6 B8 i q X9 X1n X2n X3n oa1 oa2 oa3 cp1 cp2 cp3 hx hi hn q4 hf (Keep.cons rfl (Keep.cons rfl (Keep.cons rfl (Keep.cons rfl (Keep.cons rfl (Keep.cons rfl (Keep.cons rfl (Keep.cons rfl (Keep.cons rfl (Keep.cons rfl (Keep.cons rfl (Keep.cons rfl (Keep.cons rfl (Keep.cons rfl (Keep.cons rfl (Keep.cons rfl (Keep.cons rfl (Keep.cons rfl (Keep.cons rfl (Keep.cons rfl (Keep.cons rfl (Keep.cons rfl (Keep.cons rfl (Keep.dup l0 (Keep.dup l5 (Keep.dup l6 (Keep.dup l8 (Keep.dup l9 Keep.base)))))))))))))))))))))))))))) (hh.perm (perm_sum fun f => by simp only [sum_cons9, sum_app9, sum_nil9]; omega)) rfl rfl rfl rfl rfl rfl fun a w oa4 cp4 X4n hO4n hh hf => hQ a w oa1 oa2 oa3 oa4 cp1 cp2 cp3 cp4 X1n X2n X3n X4n hO1n hO2n hO3n hO4n hh hf
    ·refine mc_e rfl fun Q1 => ?_
     refine ops_buildSl hf hh Tryz.bl_22_1 rfl rfl (.inl rfl) rfl ?_; clear hf hh a; intro B54 a w hf hh
     replace hh : Hp u [] (tq2 B54 0 0 :: _) w := hh
     refine ops_end ?_
     refine then_n ⟨⟨fun _ _ => (AtE.of hh (by intro z hz; simp only [List.mem_cons, List.mem_append, List.not_mem_nil, or_false] at hz ⊢; rcases hz with h | h <;> simp [h])), trivial⟩, ?_⟩
     refine ⟨?_, ?_⟩
     ·refine mc_e rfl fun Q1 => ?_
      have hh2 : Hp u [] (tq2 B44 (farD s x) (farD s x) :: (q.X1 ++ ([tq2 B54 0 0, tq8 B8 x, tq6 B6 dawn q.v1 q.v2 q.v3 q.v4, tq4 B4] ++ (q.X2 ++ q.X3 ++ q.X4 ++ (X9 ++ q.Y))))) w := hh.perm (perm_sum fun f => by simp only [sum_cons9, sum_app9, sum_nil9]; omega)
      clear hh
      refine ops_append (v := q.v1) (e := 49) (size := 2) (xs := ((ps.take i).flatMap fun p => swC (dup (farD s p)))) (news := swC (dup (farD s x))) (X := q.X1) (m := i) (q := 1) hf hh2 Tryz.eb_22 rfl rfl q1 rfl rfl rfl (by simp only [maxLen]; omega) (by omega) (.inl rfl) rfl ?_; clear hf hh2 a; intro v45 X1n a w hO1n hf hh
      replace hO1n : OwnSl 49 2 v45 (i + 1) ((ps.take (i + 1)).flatMap fun p => swC (dup (farD s p))) X1n := by
        rw [take_snoc hx, List.flatMap_append]
        simpa using hO1n
      obtain ⟨oa1, cp1, rfl⟩ := own_valW hO1n
      refine ops_end ?_
      refine then_n ⟨⟨fun _ _ => (AtE.of hh (by intro z hz; simp only [List.mem_cons, List.mem_append, List.not_mem_nil, or_false] at hz ⊢; rcases hz with h | h <;> simp [h])), trivial⟩, ?_⟩
      refine mc_p rfl   hf (yv_fieldAddr Tryz.fo_25_1 rfl) (.inl rfl) rfl rfl ?_; clear hf a; intro a hf
      refine mc_e rfl fun Q1 => ?_
      refine ops_buildSl hf hh Tryz.bl_23_1 rfl rfl (.inl rfl) rfl ?_; clear hf hh a; intro B49 a w hf hh
      replace hh : Hp u [] ((B49, .cells #[.slice oa9 ps.length cp9] 22) :: _) w := hh
      refine ops_end ?_
      refine then_n ⟨⟨fun _ _ => (AtE.of hh (by intro z hz; simp only [List.mem_cons, List.mem_append, List.not_mem_nil, or_false] at hz ⊢; rcases hz with h | h <;> simp [h])), trivial⟩, ?_⟩
      refine mc_e rfl fun Q1 => ?_
      have hh2 : Hp u [] ((B49, .cells #[.slice oa9 ps.length cp9] 22) :: (q.X2 ++ ([tq2 B54 0 0, tq8 B8 x, tq6 B6 dawn q.v1 q.v2 q.v3 q.v4, tq4 B4] ++ (X1n ++ q.X3 ++ q.X4 ++ (X9 ++ q.Y))))) w := hh.perm (perm_sum fun f => by simp only [sum_cons9, sum_app9, sum_nil9]; omega)
      clear hh
      refine ops_append (v := q.v2) (e := 22) (size := 1) (xs := rvs q.rows) (news := [.slice oa9 ps.length cp9]) (X := q.X2) (m := i) (q := 1) hf hh2 Tryz.eb_23 rfl rfl q2 rfl rfl rfl (by simp only [maxLen]; omega) (by omega) (.inl rfl) rfl ?_; clear hf hh2 a; intro v50 X2n a w hO2n hf hh
      replace hO2n : OwnSl 22 1 v50 (i + 1) (rvs (q.rows ++ [(wayR x ps, oa9, cp9)])) X2n := by
        have e : rvs (q.rows ++ [(wayR x ps, oa9, cp9)]) = rvs q.rows ++ [.slice oa9 ps.length cp9] := by
          unfold rvs
          rw [List.map_append]
          show _ ++ [Value.slice oa9 (wayR x ps).length cp9] = _
          rw [List.length_map]
        rw [e]; exact hO2n
      obtain ⟨oa2, cp2, rfl⟩ := own_valW hO2n
      refine ops_end ?_
      refine then_n ⟨⟨fun _ _ => (AtE.of hh (by intro z hz; simp only [List.mem_cons, List.mem_append, List.not_mem_nil, or_false] at hz ⊢; rcases hz with h | h <;> simp [h])), trivial⟩, ?_⟩
      refine mc_e rfl fun Q1 => ?_
      have hh2 : Hp u [] (tq2 B54 0 0 :: (q.X3 ++ ([tq8 B8 x, tq6 B6 dawn q.v1 q.v2 q.v3 q.v4, tq4 B4] ++ (X1n ++ X2n ++ q.X4 ++ (X9 ++ q.Y))))) w := hh.perm (perm_sum fun f => by simp only [sum_cons9, sum_app9, sum_nil9]; omega)
      clear hh
      refine ops_append (v := q.v3) (e := 49) (size := 2) (xs := ((ps.take i).flatMap fun _ => swC ((0 : Int), (0 : Int)))) (news := swC ((0 : Int), (0 : Int))) (X := q.X3) (m := i) (q := 1) hf hh2 Tryz.eb_22 rfl rfl q3 rfl rfl rfl (by simp only [maxLen]; omega) (by omega) (.inl rfl) rfl ?_; clear hf hh2 a; intro v55 X3n a w hO3n hf hh
      replace hO3n : OwnSl 49 2 v55 (i + 1) ((ps.take (i + 1)).flatMap fun _ => swC ((0 : Int), (0 : Int))) X3n := by
        rw [take_snoc hx, List.flatMap_append]
        simpa using hO3n
      obtain ⟨oa3, cp3, rfl⟩ := own_valW hO3n
      refine ops_end ?_
      refine then_n ⟨⟨fun _ _ => (AtE.of hh (by intro z hz; simp only [List.mem_cons, List.mem_append, List.not_mem_nil, or_false] at hz ⊢; rcases hz with h | h <;> simp [h])), trivial⟩, ?_⟩
      exact r12t s x ps dawn u B4 B6 B8 i q X9 X1n X2n X3n oa1 oa2 oa3 cp1 cp2 cp3 hx hi hn q4 hf (Keep.cons rfl (Keep.cons rfl (Keep.cons rfl (Keep.cons rfl (Keep.cons rfl (Keep.cons rfl (Keep.cons rfl (Keep.cons rfl (Keep.cons rfl (Keep.cons rfl (Keep.cons rfl (Keep.cons rfl (Keep.cons rfl (Keep.cons rfl (Keep.cons rfl (Keep.cons rfl (Keep.cons rfl (Keep.cons rfl (Keep.cons rfl (Keep.cons rfl (Keep.cons rfl (Keep.cons rfl (Keep.cons rfl (Keep.dup l0 (Keep.dup l5 (Keep.dup l6 (Keep.dup l8 (Keep.dup l9 Keep.base)))))))))))))))))))))))))))) (hh.perm (perm_sum fun f => by simp only [sum_cons9, sum_app9, sum_nil9]; omega)) rfl rfl rfl rfl rfl rfl fun a w oa4 cp4 X4n hO4n hh hf => hQ a w oa1 oa2 oa3 oa4 cp1 cp2 cp3 cp4 X1n X2n X3n X4n hO1n hO2n hO3n hO4n hh hf
     ·refine mc_e rfl fun Q1 => ?_
      refine ops_buildSl hf hh Tryz.bl_23_1 rfl rfl (.inl rfl) rfl ?_; clear hf hh a; intro B49 a w hf hh
      replace hh : Hp u [] ((B49, .cells #[.slice oa9 ps.length cp9] 22) :: _) w := hh
      refine ops_end ?_
      refine then_n ⟨⟨fun _ _ => (AtE.of hh (by intro z hz; simp only [List.mem_cons, List.mem_append, List.not_mem_nil, or_false] at hz ⊢; rcases hz with h | h <;> simp [h])), trivial⟩, ?_⟩
      refine mc_e rfl fun Q1 => ?_
      have hh2 : Hp u [] (tq2 B44 (farD s x) (farD s x) :: (q.X1 ++ ([(B49, .cells #[.slice oa9 ps.length cp9] 22), tq2 B54 0 0, tq8 B8 x, tq6 B6 dawn q.v1 q.v2 q.v3 q.v4, tq4 B4] ++ (q.X2 ++ q.X3 ++ q.X4 ++ (X9 ++ q.Y))))) w := hh.perm (perm_sum fun f => by simp only [sum_cons9, sum_app9, sum_nil9]; omega)
      clear hh
      refine ops_append (v := q.v1) (e := 49) (size := 2) (xs := ((ps.take i).flatMap fun p => swC (dup (farD s p)))) (news := swC (dup (farD s x))) (X := q.X1) (m := i) (q := 1) hf hh2 Tryz.eb_22 rfl rfl q1 rfl rfl rfl (by simp only [maxLen]; omega) (by omega) (.inl rfl) rfl ?_; clear hf hh2 a; intro v45 X1n a w hO1n hf hh
      replace hO1n : OwnSl 49 2 v45 (i + 1) ((ps.take (i + 1)).flatMap fun p => swC (dup (farD s p))) X1n := by
        rw [take_snoc hx, List.flatMap_append]
        simpa using hO1n
      obtain ⟨oa1, cp1, rfl⟩ := own_valW hO1n
      refine ops_end ?_
      refine then_n ⟨⟨fun _ _ => (AtE.of hh (by intro z hz; simp only [List.mem_cons, List.mem_append, List.not_mem_nil, or_false] at hz ⊢; rcases hz with h | h <;> simp [h])), trivial⟩, ?_⟩
      refine mc_p rfl   hf (yv_fieldAddr Tryz.fo_25_1 rfl) (.inl rfl) rfl rfl ?_; clear hf a; intro a hf
      refine mc_e rfl fun Q1 => ?_
      have hh2 : Hp u [] ((B49, .cells #[.slice oa9 ps.length cp9] 22) :: (q.X2 ++ ([tq2 B54 0 0, tq8 B8 x, tq6 B6 dawn q.v1 q.v2 q.v3 q.v4, tq4 B4] ++ (X1n ++ q.X3 ++ q.X4 ++ (X9 ++ q.Y))))) w := hh.perm (perm_sum fun f => by simp only [sum_cons9, sum_app9, sum_nil9]; omega)
      clear hh
      refine ops_append (v := q.v2) (e := 22) (size := 1) (xs := rvs q.rows) (news := [.slice oa9 ps.length cp9]) (X := q.X2) (m := i) (q := 1) hf hh2 Tryz.eb_23 rfl rfl q2 rfl rfl rfl (by simp only [maxLen]; omega) (by omega) (.inl rfl) rfl ?_; clear hf hh2 a; intro v50 X2n a w hO2n hf hh
      replace hO2n : OwnSl 22 1 v50 (i + 1) (rvs (q.rows ++ [(wayR x ps, oa9, cp9)])) X2n := by
        have e : rvs (q.rows ++ [(wayR x ps, oa9, cp9)]) = rvs q.rows ++ [.slice oa9 ps.length cp9] := by
          unfold rvs
          rw [List.map_append]
          show _ ++ [Value.slice oa9 (wayR x ps).length cp9] = _
          rw [List.length_map]
        rw [e]; exact hO2n
      obtain ⟨oa2, cp2, rfl⟩ := own_valW hO2n
      refine ops_end ?_
      refine then_n ⟨⟨fun _ _ => (AtE.of hh (by intro z hz; simp only [List.mem_cons, List.mem_append, List.not_mem_nil, or_false] at hz ⊢; rcases hz with h | h <;> simp [h])), trivial⟩, ?_⟩
      refine mc_e rfl fun Q1 => ?_
      have hh2 : Hp u [] (tq2 B54 0 0 :: (q.X3 ++ ([tq8 B8 x, tq6 B6 dawn q.v1 q.v2 q.v3 q.v4, tq4 B4] ++ (X1n ++ X2n ++ q.X4 ++ (X9 ++ q.Y))))) w := hh.perm (perm_sum fun f => by simp only [sum_cons9, sum_app9, sum_nil9]; omega)
      clear hh
      refine ops_append (v := q.v3) (e := 49) (size := 2) (xs := ((ps.take i).flatMap fun _ => swC ((0 : Int), (0 : Int)))) (news := swC ((0 : Int), (0 : Int))) (X := q.X3) (m := i) (q := 1) hf hh2 Tryz.eb_22 rfl rfl q3 rfl rfl rfl (by simp only [maxLen]; omega) (by omega) (.inl rfl) rfl ?_; clear hf hh2 a; intro v55 X3n a w hO3n hf hh
      replace hO3n : OwnSl 49 2 v55 (i + 1) ((ps.take (i + 1)).flatMap fun _ => swC ((0 : Int), (0 : Int))) X3n := by
        rw [take_snoc hx, List.flatMap_append]
        simpa using hO3n
      obtain ⟨oa3, cp3, rfl⟩ := own_valW hO3n
      refine ops_end ?_
      refine then_n ⟨⟨fun _ _ => (AtE.of hh (by intro z hz; simp only [List.mem_cons, List.mem_append, List.not_mem_nil, or_false] at hz ⊢; rcases hz with h | h <;> simp [h])), trivial⟩, ?_⟩
      exact r12t s x ps dawn u B4 B6 B8 i q X9 X1n X2n X3n oa1 oa2 oa3 cp1 cp2 cp3 hx hi hn q4 hf (Keep.cons rfl (Keep.cons rfl (Keep.cons rfl (Keep.cons rfl (Keep.cons rfl (Keep.cons rfl (Keep.cons rfl (Keep.cons rfl (Keep.cons rfl (Keep.cons rfl (Keep.cons rfl (Keep.cons rfl (Keep.cons rfl (Keep.cons rfl (Keep.cons rfl (Keep.cons rfl (Keep.cons rfl (Keep.cons rfl (Keep.cons rfl (Keep.cons rfl (Keep.cons rfl (Keep.cons rfl (Keep.cons rfl (Keep.dup l0 (Keep.dup l5 (Keep.dup l6 (Keep.dup l8 (Keep.dup l9 Keep.base)))))))))))))))))))))))))))) (hh.perm (perm_sum fun f => by simp only [sum_cons9, sum_app9, sum_nil9]; omega)) rfl rfl rfl rfl rfl rfl fun a w oa4 cp4 X4n hO4n hh hf => hQ a w oa1 oa2 oa3 oa4 cp1 cp2 cp3 cp4 X1n X2n X3n X4n hO1n hO2n hO3n hO4n hh hf
   ·refine mc_e rfl fun Q1 => ?_
    refine ops_buildSl hf hh Tryz.bl_23_1 rfl rfl (.inl rfl) rfl ?_; clear hf hh a; intro B49 a w hf hh
    replace hh : Hp u [] ((B49, .cells #[.slice oa9 ps.length cp9] 22) :: _) w := hh
    refine ops_end ?_
    refine then_n ⟨⟨fun _ _ => (AtE.of hh (by intro z hz; simp only [List.mem_cons, List.mem_append, List.not_mem_nil, or_false] at hz ⊢; rcases hz with h | h <;> simp [h])), trivial⟩, ?_⟩
    refine ⟨?_, ?_⟩
    ·refine mc_e rfl fun Q1 => ?_
     refine ops_buildSl hf hh Tryz.bl_22_1 rfl rfl (.inl rfl) rfl ?_; clear hf hh a; intro B44 a w hf hh
     replace hh : Hp u [] (tq2 B44 (farD s x) (farD s x) :: _) w := hh
     refine ops_end ?_
     refine then_n ⟨⟨fun _ _ => (AtE.of hh (by intro z hz; simp only [List.mem_cons, List.mem_append, List.not_mem_nil, or_false] at hz ⊢; rcases hz with h | h <;> simp [h])), trivial⟩, ?_⟩
     refine ⟨?_, ?_⟩
     ·refine mc_e rfl fun Q1 => ?_
      have hh2 : Hp u [] (tq2 B44 (farD s x) (farD s x) :: (q.X1 ++ ([(B49, .cells #[.slice oa9 ps.length cp9] 22), tq8 B8 x, tq6 B6 dawn q.v1 q.v2 q.v3 q.v4, tq4 B4] ++ (q.X2 ++ q.X3 ++ q.X4 ++ (X9 ++ q.Y))))) w := hh.perm (perm_sum fun f => by simp only [sum_cons9, sum_app9, sum_nil9]; omega)
      clear hh
      refine ops_append (v := q.v1) (e := 49) (size := 2) (xs := ((ps.take i).flatMap fun p => swC (dup (farD s p)))) (news := swC (dup (farD s x))) (X := q.X1) (m := i) (q := 1) hf hh2 Tryz.eb_22 rfl rfl q1 rfl rfl rfl (by simp only [maxLen]; omega) (by omega) (.inl rfl) rfl ?_; clear hf hh2 a; intro v45 X1n a w hO1n hf hh
      replace hO1n : OwnSl 49 2 v45 (i + 1) ((ps.take (i + 1)).flatMap fun p => swC (dup (farD s p))) X1n := by
        rw [take_snoc hx, List.flatMap_append]
        simpa using hO1n
      obtain ⟨oa1, cp1, rfl⟩ := own_valW hO1n
      refine ops_end ?_
      refine then_n ⟨⟨fun _ _ => (AtE.of hh (by intro z hz; simp only [List.mem_cons, List.mem_append, List.not_mem_nil, or_false] at hz ⊢; rcases hz with h | h <;> simp [h])), trivial⟩, ?_⟩
      refine mc_p rfl   hf (yv_fieldAddr Tryz.fo_25_1 rfl) (.inl rfl) rfl rfl ?_; clear hf a; intro a hf
      refine ⟨?_, ?_⟩
      ·refine mc_e rfl fun Q1 => ?_
       have hh2 : Hp u [] ((B49, .cells #[.slice oa9 ps.length cp9] 22) :: (q.X2 ++ ([tq8 B8 x, tq6 B6 dawn q.v1 q.v2 q.v3 q.v4, tq4 B4] ++ (X1n ++ q.X3 ++ q.X4 ++ (X9 ++ q.Y))))) w := hh.perm (perm_sum fun f => by simp only [sum_cons9, sum_app9, sum_nil9]; omega)
       clear hh
       refine ops_append (v := q.v2) (e := 22) (size := 1) (xs := rvs q.rows) (news := [.slice oa9 ps.length cp9]) (X := q.X2) (m := i) (q := 1) hf hh2 Tryz.eb_23 rfl rfl q2 rfl rfl rfl (by simp only [maxLen]; omega) (by omega) (.inl rfl) rfl ?_; clear hf hh2 a; intro v50 X2n a w hO2n hf hh
       replace hO2n : OwnSl 22 1 v50 (i + 1) (rvs (q.rows ++ [(wayR x ps, oa9, cp9)])) X2n := by
         have e : rvs (q.rows ++ [(wayR x ps, oa9, cp9)]) = rvs q.rows ++ [.slice oa9 ps.length cp9] := by
           unfold rvs
           rw [List.map_append]
           show _ ++ [Value.slice oa9 (wayR x ps).length cp9] = _
           rw [List.length_map]
         rw [e]; exact hO2n
       obtain ⟨oa2, cp2, rfl⟩ := own_valW hO2n
       refine ops_end ?_
       refine then_n ⟨⟨fun _ _ => (AtE.of hh (by intro z hz; simp only [List.mem_cons, List.mem_append, List.not_mem_nil, or_false] at hz ⊢; rcases hz with h | h <;> simp [h])), trivial⟩, ?_⟩
       refine mc_e rfl fun Q1 => ?_
       refine ops_buildSl hf hh Tryz.bl_22_1 rfl rfl (.inl rfl) rfl ?_; clear hf hh a; intro B54 a w hf hh
       replace hh : Hp u [] (tq2 B54 0 0 :: _) w := hh
       refine ops_end ?_
       refine then_n ⟨⟨fun _ _ => (AtE.of hh (by intro z hz; simp only [List.mem_cons, List.mem_append, List.not_mem_nil, or_false] at hz ⊢; rcases hz with h | h <;> simp [h])), trivial⟩, ?_⟩
       refine mc_e rfl fun Q1 => ?_
       have hh2 : Hp u [] (tq2 B54 0 0 :: (q.X3 ++ ([tq8 B8 x, tq6 B6 dawn q.v1 q.v2 q.v3 q.v4, tq4 B4] ++ (X1n ++ X2n ++ q.X4 ++ (X9 ++ q.Y))))) w := hh.perm (perm_sum fun f => by simp only [sum_cons9, sum_app9, sum_nil9]; omega)
       clear hh
       refine ops_append (v := q.v3) (e := 49) (size := 2) (xs := ((ps.take i).flatMap fun _ => swC ((0 : Int), (0 : Int)))) (news := swC ((0 : Int), (0 : Int))) (X := q.X3) (m := i) (q := 1) hf hh2 Tryz.eb_22 rfl rfl q3 rfl rfl rfl (by simp only [maxLen]; omega) (by omega) (.inl rfl) rfl ?_; clear hf hh2 a; intro v55 X3n a w hO3n hf hh
       replace hO3n : OwnSl 49 2 v55 (i + 1) ((ps.take (i + 1)).flatMap fun _ => swC ((0 : Int), (0 : Int))) X3n := by
         rw [take_snoc hx, List.flatMap_append]
         simpa using hO3n
       obtain ⟨oa3, cp3, rfl⟩ := own_valW hO3n
       refine ops_end ?_
       refine then_n ⟨⟨fun _ _ => (AtE.of hh (by intro z hz; simp only [List.mem_cons, List.mem_append, List.not_mem_nil, or_false] at hz ⊢; rcases hz with h | h <;> simp [h])), trivial⟩, ?_⟩
       exact r12t s x ps dawn u B4 B6 B8 i q X9 X1n X2n X3n oa1 oa2 oa3 cp1 cp2 cp3 hx hi hn q4 hf (Keep.cons rfl (Keep.cons rfl (Keep.cons rfl (Keep.cons rfl (Keep.cons rfl (Keep.cons rfl (Keep.cons rfl (Keep.cons rfl (Keep.cons rfl (Keep.cons rfl (Keep.cons rfl (Keep.cons rfl (Keep.cons rfl (Keep.cons rfl (Keep.cons rfl (Keep.cons rfl (Keep.cons rfl (Keep.cons rfl (Keep.cons rfl (Keep.cons rfl (Keep.cons rfl (Keep.cons rfl (Keep.cons rfl (Keep.dup l0 (Keep.dup l5 (Keep.dup l6 (Keep.dup l8 (Keep.dup l9 Keep.base)))))))))))))))))))))))))))) (hh.perm (perm_sum fun f => by simp only [sum_cons9, sum_app9, sum_nil9]; omega)) rfl rfl rfl rfl rfl rfl fun a w oa4 cp4 X4n hO4n hh hf => hQ a w oa1 oa2 oa3 oa4 cp1 cp2 cp3 cp4 X1n X2n X3n X4n hO1n hO2n hO3n hO4n hh hf
      ·refine mc_e rfl fun Q1 => ?_
       refine ops_buildSl hf hh Tryz.bl_22_1 rfl rfl (.inl rfl) rfl ?_; clear hf hh a; intro B54 a w hf hh
       replace hh : Hp u [] (tq2 B54 0 0 :: _) w := hh
       refine ops_end ?_
       refine then_n ⟨⟨fun _ _ => (AtE.of hh (by intro z hz; simp only [List.mem_cons, List.mem_append, List.not_mem_nil, or_false] at hz ⊢; rcases hz with h | h <;> simp [h])), trivial⟩, ?_⟩
       refine mc_e rfl fun Q1 => ?_
       have hh2 : Hp u [] ((B49, .cells #[.slice oa9 ps.length cp9] 22) :: (q.X2 ++ ([tq2 B54 0 0, tq8 B8 x, tq6 B6 dawn q.v1 q.v2 q.v3 q.v4, tq4 B4] ++ (X1n ++ q.X3 ++ q.X4 ++ (X9 ++ q.Y))))) w := hh.perm (perm_sum fun f => by simp only [sum_cons9, sum_app9, sum_nil9]; omega)
       clear hh
       refine ops_append (v := q.v2) (e := 22) (size := 1) (xs := rvs q.rows) (news := [.slice oa9 ps.length cp9]) (X := q.X2) (m := i) (q := 1) hf hh2 Tryz.eb_23 rfl rfl q2 rfl rfl rfl (by simp only [maxLen]; omega) (by omega) (.inl rfl) rfl ?_; clear hf hh2 a; intro v50 X2n a w hO2n hf hh
       replace hO2n : OwnSl 22 1 v50 (i + 1) (rvs (q.rows ++ [(wayR x ps, oa9, cp9)])) X2n := by
         have e : rvs (q.rows ++ [(wayR x ps, oa9, cp9)]) = rvs q.rows ++ [.slice oa9 ps.length cp9] := by
           unfold rvs
           rw [List.map_append]
           show _ ++ [Value.slice oa9 (wayR x ps).length cp9] = _
           rw [List.length_map]
         rw [e]; exact hO2n
       obtain ⟨oa2, cp2, rfl⟩ := own_valW hO2n
       refine ops_end ?_
       refine then_n ⟨⟨fun _ _ => (AtE.of hh (by intro z hz; simp only [List.mem_cons, List.mem_append, List.not_mem_nil, or_false] at hz ⊢; rcases hz with h | h <;> simp [h])), trivial⟩, ?_⟩
       refine mc_e rfl fun Q1 => ?_
       have hh2 : Hp u [] (tq2 B54 0 0 :: (q.X3 ++ ([tq8 B8 x, tq6 B6 dawn q.v1 q.v2 q.v3 q.v4, tq4 B4] ++ (X1n ++ X2n ++ q.X4 ++ (X9 ++ q.Y))))) w := hh.perm (perm_sum fun f => by simp only [sum_cons9, sum_app9, sum_nil9]; omega)
       clear hh
       refine ops_append (v := q.v3) (e := 49) (size := 2) (xs := ((ps.take i).flatMap fun _ => swC ((0 : Int), (0 : Int)))) (news := swC ((0 : Int), (0 : Int))) (X := q.X3) (m := i) (q := 1) hf hh2 Tryz.eb_22 rfl rfl q3 rfl rfl rfl (by simp only [maxLen]; omega) (by omega) (.inl rfl) rfl ?_; clear hf hh2 a; intro v55 X3n a w hO3n hf hh
       replace hO3n : OwnSl 49 2 v55 (i + 1) ((ps.take (i + 1)).flatMap fun _ => swC ((0 : Int), (0 : Int))) X3n := by
         rw [take_snoc hx, List.flatMap_append]
         simpa using hO3n
       obtain ⟨oa3, cp3, rfl⟩ := own_valW hO3n
       refine ops_end ?_
       refine then_n ⟨⟨fun _ _ => (AtE.of hh (by intro z hz; simp only [List.mem_cons, List.mem_append, List.not_mem_nil, or_false] at hz ⊢; rcases hz with h | h <;> simp [h])), trivial⟩, ?_⟩
       exact r12t s x ps dawn u B4 B6 B8 i q X9 X1n X2n X3n oa1 oa2 oa3 cp1 cp2 cp3 hx hi hn q4 hf (Keep.cons rfl (Keep.cons rfl (Keep.cons rfl (Keep.cons rfl (Keep.cons rfl (Keep.cons rfl (Keep.cons rfl (Keep.cons rfl (Keep.cons rfl (Keep.cons rfl (Keep.cons rfl (Keep.cons rfl (Keep.cons rfl (Keep.cons rfl (Keep.cons rfl (Keep.cons rfl (Keep.cons rfl (Keep.cons rfl (Keep.cons rfl (Keep.cons rfl (Keep.cons rfl (Keep.cons rfl (Keep.cons rfl (Keep.dup l0 (Keep.dup l5 (Keep.dup l6 (Keep.dup l8 (Keep.dup l9 Keep.base)))))))))))))))))))))))))))) (hh.perm (perm_sum fun f => by simp only [sum_cons9, sum_app9, sum_nil9]; omega)) rfl rfl rfl rfl rfl rfl fun a w oa4 cp4 X4n hO4n hh hf => hQ a w oa1 oa2 oa3 oa4 cp1 cp2 cp3 cp4 X1n X2n X3n X4n hO1n hO2n hO3n hO4n hh hf
     ·refine mc_e rfl fun Q1 => ?_
      refine ops_buildSl hf hh Tryz.bl_22_1 rfl rfl (.inl rfl) rfl ?_; clear hf hh a; intro B54 a w hf hh
      replace hh : Hp u [] (tq2 B54 0 0 :: _) w := hh
      refine ops_end ?_
      refine then_n ⟨⟨fun _ _ => (AtE.of hh (by intro z hz; simp only [List.mem_cons, List.mem_append, List.not_mem_nil, or_false] at hz ⊢; rcases hz with h | h <;> simp [h])), trivial⟩, ?_⟩
      refine mc_e rfl fun Q1 => ?_
      have hh2 : Hp u [] (tq2 B44 (farD s x) (farD s x) :: (q.X1 ++ ([(B49, .cells #[.slice oa9 ps.length cp9] 22), tq2 B54 0 0, tq8 B8 x, tq6 B6 dawn q.v1 q.v2 q.v3 q.v4, tq4 B4] ++ (q.X2 ++ q.X3 ++ q.X4 ++ (X9 ++ q.Y))))) w := hh.perm (perm_sum fun f => by simp only [sum_cons9, sum_app9, sum_nil9]; omega)
      clear hh
      refine ops_append (v := q.v1) (e := 49) (size := 2) (xs := ((ps.take i).flatMap fun p => swC (dup (farD s p)))) (news := swC (dup (farD s x))) (X := q.X1) (m := i) (q := 1) hf hh2 Tryz.eb_22 rfl rfl q1 rfl rfl rfl (by simp only [maxLen]; omega) (by omega) (.inl rfl) rfl ?_; clear hf hh2 a; intro v45 X1n a w hO1n hf hh
      replace hO1n : OwnSl 49 2 v45 (i + 1) ((ps.take (i + 1)).flatMap fun p => swC (dup (farD s p))) X1n := by
        rw [take_snoc hx, List.flatMap_append]
        simpa using hO1n
      obtain ⟨oa1, cp1, rfl⟩ := own_valW hO1n
      refine ops_end ?_
      refine then_n ⟨⟨fun _ _ => (AtE.of hh (by intro z hz; simp only [List.mem_cons, List.mem_append, List.not_mem_nil, or_false] at hz ⊢; rcases hz with h | h <;> simp [h])), trivial⟩, ?_⟩
      refine mc_p rfl   hf (yv_fieldAddr Tryz.fo_25_1 rfl) (.inl rfl) rfl rfl ?_; clear hf a; intro a hf
      refine mc_e rfl fun Q1 => ?_
      have hh2 : Hp u [] ((B49, .cells #[.slice oa9 ps.length cp9] 22) :: (q.X2 ++ ([tq2 B54 0 0, tq8 B8 x, tq6 B6 dawn q.v1 q.v2 q.v3 q.v4, tq4 B4] ++ (X1n ++ q.X3 ++ q.X4 ++ (X9 ++ q.Y))))) w := hh.perm (perm_sum fun f => by simp only [sum_cons9, sum_app9, sum_nil9]; omega)
      clear hh
      refine ops_append (v := q.v2) (e := 22) (size := 1) (xs := rvs q.rows) (news := [.slice oa9 ps.length cp9]) (X := q.X2) (m := i) (q := 1) hf hh2 Tryz.eb_23 rfl rfl q2 rfl rfl rfl (by simp only [maxLen]; omega) (by omega) (.inl rfl) rfl ?_; clear hf hh2 a; intro v50 X2n a w hO2n hf hh
      replace hO2n : OwnSl 22 1 v50 (i + 1) (rvs (q.rows ++ [(wayR x ps, oa9, cp9)])) X2n := by
        have e : rvs (q.rows ++ [(wayR x ps, oa9, cp9)]) = rvs q.rows ++ [.slice oa9 ps.length cp9] := by
          unfold rvs
          rw [List.map_append]
          show _ ++ [Value.slice oa9 (wayR x ps).length cp9] = _
          rw [List.length_map]
        rw [e]; exact hO2n
      obtain ⟨oa2, cp2, rfl⟩ := own_valW hO2n
      refine ops_end ?_
      refine then_n ⟨⟨fun _ _ => (AtE.of hh (by intro z hz; simp only [List.mem_cons, List.mem_append, List.not_mem_nil, or_false] at hz ⊢; rcases hz with h | h <;> simp [h])), trivial⟩, ?_⟩
      refine mc_e rfl fun Q1 => ?_
      have hh2 : Hp u [] (tq2 B54 0 0 :: (q.X3 ++ ([tq8 B8 x, tq6 B6 dawn q.v1 q.v2 q.v3 q.v4, tq4 B4] ++ (X1n ++ X2n ++ q.X4 ++ (X9 ++ q.Y))))) w := hh.perm (perm_sum fun f => by simp only [sum_cons9, sum_app9, sum_nil9]; omega)
      clear hh
      refine ops_append (v := q.v3) (e := 49) (size := 2) (xs := ((ps.take i).flatMap fun _ => swC ((0 : Int), (0 : Int)))) (news := swC ((0 : Int), (0 : Int))) (X := q.X3) (m := i) (q := 1) hf hh2 Tryz.eb_22 rfl rfl q3 rfl rfl rfl (by simp only [maxLen]; omega) (by omega) (.inl rfl) rfl ?_; clear hf hh2 a; intro v55 X3n a w hO3n hf hh
      replace hO3n : OwnSl 49 2 v55 (i + 1) ((ps.take (i + 1)).flatMap fun _ => swC ((0 : Int), (0 : Int))) X3n := by
        rw [take_snoc hx, List.flatMap_append]
        simpa using hO3n
      obtain ⟨oa3, cp3, rfl⟩ := own_valW hO3n
      refine ops_end ?_
      refine then_n ⟨⟨fun _ _ => (AtE.of hh (by intro z hz; simp only [List.mem_cons, List.mem_append, List.not_mem_nil, or_false] at hz ⊢; rcases hz with h | h <;> simp [h])), trivial⟩, ?_⟩
      exact r12t s x ps dawn u B4 B6 B8 i q X9 X1n X2n X3n oa1 oa2 oa3 cp1 cp2 cp3 hx hi hn q4 hf (Keep.cons rfl (Keep.cons rfl (Keep.cons rfl (Keep.cons rfl (Keep.cons rfl (Keep.cons rfl (Keep.cons rfl (Keep.cons rfl (Keep.cons rfl (Keep.cons rfl (Keep.cons rfl (Keep.cons rfl (Keep.cons rfl (Keep.cons rfl (Keep.cons rfl (Keep.cons rfl (Keep.cons rfl (Keep.cons rfl (Keep.cons rfl (Keep.cons rfl (Keep.cons rfl (Keep.cons rfl (Keep.cons rfl (Keep.dup l0 (Keep.dup l5 (Keep.dup l6 (Keep.dup l8 (Keep.dup l9 Keep.base)))))))))))))))))))))))))))) (hh.perm (perm_sum fun f => by simp only [sum_cons9, sum_app9, sum_nil9]; omega)) rfl rfl rfl rfl rfl rfl fun a w oa4 cp4 X4n hO4n hh hf => hQ a w oa1 oa2 oa3 oa4 cp1 cp2 cp3 cp4 X1n X2n X3n X4n hO1n hO2n hO3n hO4n hh hf
    ·refine mc_e rfl fun Q1 => ?_
     refine ops_buildSl hf hh Tryz.bl_22_1 rfl rfl (.inl rfl) rfl ?_; clear hf hh a; intro B54 a w hf hh
     replace hh : Hp u [] (tq2 B54 0 0 :: _) w := hh
     refine ops_end ?_
     refine then_n ⟨⟨fun _ _ => (AtE.of hh (by intro z hz; simp only [List.mem_cons, List.mem_append, List.not_mem_nil, or_false] at hz ⊢; rcases hz with h | h <;> simp [h])), trivial⟩, ?_⟩
     refine mc_e rfl fun Q1 => ?_
     refine ops_buildSl hf hh Tryz.bl_22_1 rfl rfl (.inl rfl) rfl ?_; clear hf hh a; intro B44 a w hf hh
     replace hh : Hp u [] (tq2 B44 (farD s x) (farD s x) :: _) w := hh
     refine ops_end ?_
     refine then_n ⟨⟨fun _ _ => (AtE.of hh (by intro z hz; simp only [List.mem_cons, List.mem_append, List.not_mem_nil, or_false] at hz ⊢; rcases hz with h | h <;> simp [h])), trivial⟩, ?_⟩
     refine mc_e rfl fun Q1 => ?_
     have hh2 : Hp u [] (tq2 B44 (farD s x) (farD s x) :: (q.X1 ++ ([(B49, .cells #[.slice oa9 ps.length cp9] 22), tq2 B54 0 0, tq8 B8 x, tq6 B6 dawn q.v1 q.v2 q.v3 q.v4, tq4 B4] ++ (q.X2 ++ q.X3 ++ q.X4 ++ (X9 ++ q.Y))))) w := hh.perm (perm_sum fun f => by simp only [sum_cons9, sum_app9, sum_nil9]; omega)
     clear hh
     refine ops_append (v := q.v1) (e := 49) (size := 2) (xs := ((ps.take i).flatMap fun p => swC (dup (farD s p)))) (news := swC (dup (farD s x))) (X := q.X1) (m := i) (q := 1) hf hh2 Tryz.eb_22 rfl rfl q1 rfl rfl rfl (by simp only [maxLen]; omega) (by omega) (.inl rfl) rfl ?_; clear hf hh2 a; intro v45 X1n a w hO1n hf hh
     replace hO1n : OwnSl 49 2 v45 (i + 1) ((ps.take (i + 1)).flatMap fun p => swC (dup (farD s p))) X1n := by
       rw [take_snoc hx, List.flatMap_append]
       simpa using hO1n
     obtain ⟨oa1, cp1, rfl⟩ := own_valW hO1n
     refine ops_end ?_
     refine then_n ⟨⟨fun _ _ => (AtE.of hh (by intro z hz; simp only [List.mem_cons, List.mem_append, List.not_mem_nil, or_false] at hz ⊢; rcases hz with h | h <;> simp [h])), trivial⟩, ?_⟩
     refine mc_p rfl   hf (yv_fieldAddr Tryz.fo_25_1 rfl) (.inl rfl) rfl rfl ?_; clear hf a; intro a hf
     refine mc_e rfl fun Q1 => ?_
     have hh2 : Hp u [] ((B49, .cells #[.slice oa9 ps.length cp9] 22) :: (q.X2 ++ ([tq2 B54 0 0, tq8 B8 x, tq6 B6 dawn q.v1 q.v2 q.v3 q.v4, tq4 B4] ++ (X1n ++ q.X3 ++ q.X4 ++ (X9 ++ q.Y))))) w := hh.perm (perm_sum fun f => by simp only [sum_cons9, sum_app9, sum_nil9]; omega)
     clear hh
     refine ops_append (v := q.v2) (e := 22) (size := 1) (xs := rvs q.rows) (news := [.slice oa9 ps.length cp9]) (X := q.X2) (m := i) (q := 1) hf hh2 Tryz.eb_23 rfl rfl q2 rfl rfl rfl (by simp only [maxLen]; omega) (by omega) (.inl rfl) rfl ?_; clear hf hh2 a; intro v50 X2n a w hO2n hf hh
     replace hO2n : OwnSl 22 1 v50 (i + 1) (rvs (q.rows ++ [(wayR x ps, oa9, cp9)])) X2n := by
       have e : rvs (q.rows ++ [(wayR x ps, oa9, cp9)]) = rvs q.rows ++ [.slice oa9 ps.length cp9] := by
         unfold rvs
         rw [List.map_append]
         show _ ++ [Value.slice oa9 (wayR x ps).length cp9] = _
         rw [List.length_map]
       rw [e]; exact hO2n
     obtain ⟨oa2, cp2, rfl⟩ := own_valW hO2n
     refine ops_end ?_
     refine then_n ⟨⟨fun _ _ => (AtE.of hh (by intro z hz; simp only [List.mem_cons, List.mem_append, List.not_mem_nil, or_false] at hz ⊢; rcases hz with h | h <;> simp [h])), trivial⟩, ?_⟩
     refine mc_e rfl fun Q1 => ?_
     have hh2 : Hp u [] (tq2 B54 0 0 :: (q.X3 ++ ([tq8 B8 x, tq6 B6 dawn q.v1 q.v2 q.v3 q.v4, tq4 B4] ++ (X1n ++ X2n ++ q.X4 ++ (X9 ++ q.Y))))) w := hh.perm (perm_sum fun f => by simp only [sum_cons9, sum_app9, sum_nil9]; omega)
     clear hh
     refine ops_append (v := q.v3) (e := 49) (size := 2) (xs := ((ps.take i).flatMap fun _ => swC ((0 : Int), (0 : Int)))) (news := swC ((0 : Int), (0 : Int))) (X := q.X3) (m := i) (q := 1) hf hh2 Tryz.eb_22 rfl rfl q3 rfl rfl rfl (by simp only [maxLen]; omega) (by omega) (.inl rfl) rfl ?_; clear hf hh2 a; intro v55 X3n a w hO3n hf hh
     replace hO3n : OwnSl 49 2 v55 (i + 1) ((ps.take (i + 1)).flatMap fun _ => swC ((0 : Int), (0 : Int))) X3n := by
       rw [take_snoc hx, List.flatMap_append]
       simpa using hO3n
     obtain ⟨oa3, cp3, rfl⟩ := own_valW hO3n
     refine ops_end ?_
     refine then_n ⟨⟨fun _ _ => (AtE.of hh (by intro z hz; simp only [List.mem_cons, List.mem_append, List.not_mem_nil, or_false] at hz ⊢; rcases hz with h | h <;> simp [h])), trivial⟩, ?_⟩
     exact r12t s x ps dawn u B4 B6 B8 i q X9 X1n X2n X3n oa1 oa2 oa3 cp1 cp2 cp3 hx hi hn q4 hf (Keep.cons rfl (Keep.cons rfl (Keep.cons rfl (Keep.cons rfl (Keep.cons rfl (Keep.cons rfl (Keep.cons rfl (Keep.cons rfl (Keep.cons rfl (Keep.cons rfl (Keep.cons rfl (Keep.cons rfl (Keep.cons rfl (Keep.cons rfl (Keep.cons rfl (Keep.cons rfl (Keep.cons rfl (Keep.cons rfl (Keep.cons rfl (Keep.cons rfl (Keep.cons rfl (Keep.cons rfl (Keep.cons rfl (Keep.dup l0 (Keep.dup l5 (Keep.dup l6 (Keep.dup l8 (Keep.dup l9 Keep.base)))))))))))))))))))))))))))) (hh.perm (perm_sum fun f => by simp only [sum_cons9, sum_app9, sum_nil9]; omega)) rfl rfl rfl rfl rfl rfl fun a w oa4 cp4 X4n hO4n hh hf => hQ a w oa1 oa2 oa3 oa4 cp1 cp2 cp3 cp4 X1n X2n X3n X4n hO1n hO2n hO3n hO4n hh hf
   ·refine mc_e rfl fun Q1 => ?_
    refine ops_buildSl hf hh Tryz.bl_22_1 rfl rfl (.inl rfl) rfl ?_; clear hf hh a; intro B54 a w hf hh
    replace hh : Hp u [] (tq2 B54 0 0 :: _) w := hh
    refine ops_end ?_
    refine then_n ⟨⟨fun _ _ => (AtE.of hh (by intro z hz; simp only [List.mem_cons, List.mem_append, List.not_mem_nil, or_false] at hz ⊢; rcases hz with h | h <;> simp [h])), trivial⟩, ?_⟩
    refine ⟨?_, ?_⟩
    ·refine mc_e rfl fun Q1 => ?_
     refine ops_buildSl hf hh Tryz.bl_22_1 rfl rfl (.inl rfl) rfl ?_; clear hf hh a; intro B44 a w hf hh
     replace hh : Hp u [] (tq2 B44 (farD s x) (farD s x) :: _) w := hh
     refine ops_end ?_
     refine then_n ⟨⟨fun _ _ => (AtE.of hh (by intro z hz; simp only [List.mem_cons, List.mem_append, List.not_mem_nil, or_false] at hz ⊢; rcases hz with h | h <;> simp [h])), trivial⟩, ?_⟩
     refine ⟨?_, ?_⟩
     ·refine mc_e rfl fun Q1 => ?_
      have hh2 : Hp u [] (tq2 B44 (farD s x) (farD s x) :: (q.X1 ++ ([tq2 B54 0 0, tq8 B8 x, tq6 B6 dawn q.v1 q.v2 q.v3 q.v4, tq4 B4] ++ (q.X2 ++ q.X3 ++ q.X4 ++ (X9 ++ q.Y))))) w := hh.perm (perm_sum fun f => by simp only [sum_cons9, sum_app9, sum_nil9]; omega)
      clear hh
      refine ops_append (v := q.v1) (e := 49) (size := 2) (xs := ((ps.take i).flatMap fun p => swC (dup (farD s p)))) (news := swC (dup (farD s x))) (X := q.X1) (m := i) (q := 1) hf hh2 Tryz.eb_22 rfl rfl q1 rfl rfl rfl (by simp only [maxLen]; omega) (by omega) (.inl rfl) rfl ?_; clear hf hh2 a; intro v45 X1n a w hO1n hf hh
      replace hO1n : OwnSl 49 2 v45 (i + 1) ((ps.take (i + 1)).flatMap fun p => swC (dup (farD s p))) X1n := by
        rw [take_snoc hx, List.flatMap_append]
        simpa using hO1n
      obtain ⟨oa1, cp1, rfl⟩ := own_valW hO1n
      refine ops_end ?_
      refine then_n ⟨⟨fun _ _ => (AtE.of hh (by intro z hz; simp only [List.mem_cons, List.mem_append, List.not_mem_nil, or_false] at hz ⊢; rcases hz with h | h <;> simp [h])), trivial⟩, ?_⟩
      refine mc_p rfl   hf (yv_fieldAddr Tryz.fo_25_1 rfl) (.inl rfl) rfl rfl ?_; clear hf a; intro a hf
      refine mc_e rfl fun Q1 => ?_
      refine ops_buildSl hf hh Tryz.bl_23_1 rfl rfl (.inl rfl) rfl ?_; clear hf hh a; intro B49 a w hf hh
      replace hh : Hp u [] ((B49, .cells #[.slice oa9 ps.length cp9] 22) :: _) w := hh
      refine ops_end ?_
      refine then_n ⟨⟨fun _ _ => (AtE.of hh (by intro z hz; simp only [List.mem_cons, List.mem_append, List.not_mem_nil, or_false] at hz ⊢; rcases hz with h | h <;> simp [h])), trivial⟩, ?_⟩
      refine mc_e rfl fun Q1 => ?_
      have hh2 : Hp u [] ((B49, .cells #[.slice oa9 ps.length cp9] 22) :: (q.X2 ++ ([tq2 B54 0 0, tq8 B8 x, tq6 B6 dawn q.v1 q.v2 q.v3 q.v4, tq4 B4] ++ (X1n ++ q.X3 ++ q.X4 ++ (X9 ++ q.Y))))) w := hh.perm (perm_sum fun f => by simp only [sum_cons9, sum_app9, sum_nil9]; omega)
      clear hh
      refine ops_append (v := q.v2) (e := 22) (size := 1) (xs := rvs q.rows) (news := [.slice oa9 ps.length cp9]) (X := q.X2) (m := i) (q := 1) hf hh2 Tryz.eb_23 rfl rfl q2 rfl rfl rfl (by simp only [maxLen]; omega) (by omega) (.inl rfl) rfl ?_; clear hf hh2 a; intro v50 X2n a w hO2n hf hh
      replace hO2n : OwnSl 22 1 v50 (i + 1) (rvs (q.rows ++ [(wayR x ps, oa9, cp9)])) X2n := by
        have e : rvs (q.rows ++ [(wayR x ps, oa9, cp9)]) = rvs q.rows ++ [.slice oa9 ps.length cp9] := by
          unfold rvs
          rw [List.map_append]
          show _ ++ [Value.slice oa9 (wayR x ps).length cp9] = _
          rw [List.length_map]
        rw [e]; exact hO2n
      obtain ⟨oa2, cp2, rfl⟩ := own_valW hO2n
      refine ops_end ?_
      refine then_n ⟨⟨fun _ _ => (AtE.of hh (by intro z hz; simp only [List.mem_cons, List.mem_append, List.not_mem_nil, or_false] at hz ⊢; rcases hz with h | h <;> simp [h])), trivial⟩, ?_⟩
      refine mc_e rfl fun Q1 => ?_
      have hh2 : Hp u [] (tq2 B54 0 0 :: (q.X3 ++ ([tq8 B8 x, tq6 B6 dawn q.v1 q.v2 q.v3 q.v4, tq4 B4] ++ (X1n ++ X2n ++ q.X4 ++ (X9 ++ q.Y))))) w := hh.perm (perm_sum fun f => by simp only [sum_cons9, sum_app9, sum_nil9]; omega)
      clear hh
      refine ops_append (v := q.v3) (e := 49) (size := 2) (xs := ((ps.take i).flatMap fun _ => swC ((0 : Int), (0 : Int)))) (news := swC ((0 : Int), (0 : Int))) (X := q.X3) (m := i) (q := 1) hf hh2 Tryz.eb_22 rfl rfl q3 rfl rfl rfl (by simp only [maxLen]; omega) (by omega) (.inl rfl) rfl ?_; clear hf hh2 a; intro v55 X3n a w hO3n hf hh
      replace hO3n : OwnSl 49 2 v55 (i + 1) ((ps.take (i + 1)).flatMap fun _ => swC ((0 : Int), (0 : Int))) X3n := by
        rw [take_snoc hx, List.flatMap_append]
        simpa using hO3n
      obtain ⟨oa3, cp3, rfl⟩ := own_valW hO3n
      refine ops_end ?_
      refine then_n ⟨⟨fun _ _ => (AtE.of hh (by intro z hz; simp only [List.mem_cons, List.mem_append, List.not_mem_nil, or_false] at hz ⊢; rcases hz with h | h <;> simp [h])), trivial⟩, ?_⟩
      exact r12t s x ps dawn u B4 B6 B8 i q X9 X1n X2n X3n oa1 oa2 oa3 cp1 cp2 cp3 hx hi hn q4 hf (Keep.cons rfl (Keep.cons rfl (Keep.cons rfl (Keep.cons rfl (Keep.cons rfl (Keep.cons rfl (Keep.cons rfl (Keep.cons rfl (Keep.cons rfl (Keep.cons rfl (Keep.cons rfl (Keep.cons rfl (Keep.cons rfl (Keep.cons rfl (Keep.cons rfl (Keep.cons rfl (Keep.cons rfl (Keep.cons rfl (Keep.cons rfl (Keep.cons rfl (Keep.cons rfl (Keep.cons rfl (Keep.cons rfl (Keep.dup l0 (Keep.dup l5 (Keep.dup l6 (Keep.dup l8 (Keep.dup l9 Keep.base)))))))))))))))))))))))))))) (hh.perm (perm_sum fun f => by simp only [sum_cons9, sum_app9, sum_nil9]; omega)) rfl rfl rfl rfl rfl rfl fun a w oa4 cp4 X4n hO4n hh hf => hQ a w oa1 oa2 oa3 oa4 cp1 cp2 cp3 cp4 X1n X2n X3n X4n hO1n hO2n hO3n hO4n hh hf
     ·refine mc_e rfl fun Q1 => ?_
      refine ops_buildSl hf hh Tryz.bl_23_1 rfl rfl (.inl rfl) rfl ?_; clear hf hh a; intro B49 a w hf hh
      replace hh : Hp u [] ((B49, .cells #[.slice oa9 ps.length cp9] 22) :: _) w := hh
      refine ops_end ?_
      refine then_n ⟨⟨fun _ _ => (AtE.of hh (by intro z hz; simp only [List.mem_cons, List.mem_append, List.not_mem_nil, or_false] at hz ⊢; rcases hz with h | h <;> simp [h])), trivial⟩, ?_⟩
      refine mc_e rfl fun Q1 => ?_
      have hh2 : Hp u [] (tq2 B44 (farD s x) (farD s x) :: (q.X1 ++ ([(B49, .cells #[.slice oa9 ps.length cp9] 22), tq2 B54 0 0, tq8 B8 x, tq6 B6 dawn q.v1 q.v2 q.v3 q.v4, tq4 B4] ++ (q.X2 ++ q.X3 ++ q.X4 ++ (X9 ++ q.Y))))) w := hh.perm (perm_sum fun f => by simp only [sum_cons9, sum_app9, sum_nil9]; omega)
      clear hh
      refine ops_append (v := q.v1) (e := 49) (size := 2) (xs := ((ps.take i).flatMap fun p => swC (dup (farD s p)))) (news := swC (dup (farD s x))) (X := q.X1) (m := i) (q := 1) hf hh2 Tryz.eb_22 rfl rfl q1 rfl rfl rfl (by simp only [maxLen]; omega) (by omega) (.inl rfl) rfl ?_; clear hf hh2 a; intro v45 X1n a w hO1n hf hh
      replace hO1n : OwnSl 49 2 v45 (i + 1) ((ps.take (i + 1)).flatMap fun p => swC (dup (farD s p))) X1n := by
        rw [take_snoc hx, List.flatMap_append]
        simpa using hO1n
      obtain ⟨oa1, cp1, rfl⟩ := own_valW hO1n
      refine ops_end ?_
      refine then_n ⟨⟨fun _ _ => (AtE.of hh (by intro z hz; simp only [List.mem_cons, List.mem_append, List.not_mem_nil, or_false] at hz ⊢; rcases hz with h | h <;> simp [h])), trivial⟩, ?_⟩
      refine mc_p rfl   hf (yv_fieldAddr Tryz.fo_25_1 rfl) (.inl rfl) rfl rfl ?_; clear hf a; intro a hf
      refine mc_e rfl fun Q1 => ?_
      have hh2 : Hp u [] ((B49, .cells #[.slice oa9 ps.length cp9] 22) :: (q.X2 ++ ([tq2 B54 0 0, tq8 B8 x, tq6 B6 dawn q.v1 q.v2 q.v3 q.v4, tq4 B4] ++ (X1n ++ q.X3 ++ q.X4 ++ (X9 ++ q.Y))))) w := hh.perm (perm_sum fun f => by simp only [sum_cons9, sum_app9, sum_nil9]; omega)
      clear hh
      refine ops_append (v := q.v2) (e := 22) (size := 1) (xs := rvs q.rows) (news := [.slice oa9 ps.length cp9]) (X := q.X2) (m := i) (q := 1) hf hh2 Tryz.eb_23 rfl rfl q2 rfl rfl rfl (by simp only [maxLen]; omega) (by omega) (.inl rfl) rfl ?_; clear hf hh2 a; intro v50 X2n a w hO2n hf hh
      replace hO2n : OwnSl 22 1 v50 (i + 1) (rvs (q.rows ++ [(wayR x ps, oa9, cp9)])) X2n := by
        have e : rvs (q.rows ++ [(wayR x ps, oa9, cp9)]) = rvs q.rows ++ [.slice oa9 ps.length cp9] := by
          unfold rvs
          rw [List.map_append]
          show _ ++ [Value.slice oa9 (wayR x ps).length cp9] = _
          rw [List.length_map]
        rw [e]; exact hO2n
      obtain ⟨oa2, cp2, rfl⟩ := own_valW hO2n
      refine ops_end ?_
      refine then_n ⟨⟨fun _ _ => (AtE.of hh (by intro z hz; simp only [List.mem_cons, List.mem_append, List.not_mem_nil, or_false] at hz ⊢; rcases hz with h | h <;> simp [h])), trivial⟩, ?_⟩
      refine mc_e rfl fun Q1 => ?_
      have hh2 : Hp u [] (tq2 B54 0 0 :: (q.X3 ++ ([tq8 B8 x, tq6 B6 dawn q.v1 q.v2 q.v3 q.v4, tq4 B4] ++ (X1n ++ X2n ++ q.X4 ++ (X9 ++ q.Y))))) w := hh.perm (perm_sum fun f => by simp only [sum_cons9, sum_app9, sum_nil9]; omega)
      clear hh
      refine ops_append (v := q.v3) (e := 49) (size := 2) (xs := ((ps.take i).flatMap fun _ => swC ((0 : Int), (0 : Int)))) (news := swC ((0 : Int), (0 : Int))) (X := q.X3) (m := i) (q := 1) hf hh2 Tryz.eb_22 rfl rfl q3 rfl rfl rfl (by simp only [maxLen]; omega) (by omega) (.inl rfl) rfl ?_; clear hf hh2 a; intro v55 X3n a w hO3n hf hh
      replace hO3n : OwnSl 49 2 v55 (i + 1) ((ps.take (i + 1)).flatMap fun _ => swC ((0 : Int), (0 : Int))) X3n := by
        rw [take_snoc hx, List.flatMap_append]
        simpa using hO3n
      obtain ⟨oa3, cp3, rfl⟩ := own_valW hO3n
      refine ops_end ?_
      refine then_n ⟨⟨fun _ _ => (AtE.of hh (by intro z hz; simp only [List.mem_cons, List.mem_append, List.not_mem_nil, or_false] at hz ⊢; rcases hz with h | h <;> simp [h])), trivial⟩, ?_⟩
      exact r12t s x ps dawn u B4 B6 B8 i q X9 X1n X2n X3n oa1 oa2 oa3 cp1 cp2 cp3 hx hi hn q4 hf (Keep.cons rfl (Keep.cons rfl (Keep.cons rfl (Keep.cons rfl (Keep.cons rfl (Keep.cons rfl (Keep.cons rfl (Keep.cons rfl (Keep.cons rfl (Keep.cons rfl (Keep.cons rfl (Keep.cons rfl (Keep.cons rfl (Keep.cons rfl (Keep.cons rfl (Keep.cons rfl (Keep.cons rfl (Keep.cons rfl (Keep.cons rfl (Keep.cons rfl (Keep.cons rfl (Keep.cons rfl (Keep.cons rfl (Keep.dup l0 (Keep.dup l5 (Keep.dup l6 (Keep.dup l8 (Keep.dup l9 Keep.base)))))))))))))))))))))))))))) (hh.perm (perm_sum fun f => by simp only [sum_cons9, sum_app9, sum_nil9]; omega)) rfl rfl rfl rfl rfl rfl fun a w oa4 cp4 X4n hO4n hh hf => hQ a w oa1 oa2 oa3 oa4 cp1 cp2 cp3 cp4 X1n X2n X3n X4n hO1n hO2n hO3n hO4n hh hf
    ·refine mc_e rfl fun Q1 => ?_
     refine ops_buildSl hf hh Tryz.bl_23_1 rfl rfl (.inl rfl) rfl ?_; clear hf hh a; intro B49 a w hf hh
     replace hh : Hp u [] ((B49, .cells #[.slice oa9 ps.length cp9] 22) :: _) w := hh
     refine ops_end ?_
     refine then_n ⟨⟨fun _ _ => (AtE.of hh (by intro z hz; simp only [List.mem_cons, List.mem_append, List.not_mem_nil, or_false] at hz ⊢; rcases hz with h | h <;> simp [h])), trivial⟩, ?_⟩
     refine mc_e rfl fun Q1 => ?_
     refine ops_buildSl hf hh Tryz.bl_22_1 rfl rfl (.inl rfl) rfl ?_; clear hf hh a; intro B44 a w hf hh
     replace hh : Hp u [] (tq2 B44 (farD s x) (farD s x) :: _) w := hh
     refine ops_end ?_
     refine then_n ⟨⟨fun _ _ => (AtE.of hh (by intro z hz; simp only [List.mem_cons, List.mem_append, List.not_mem_nil, or_false] at hz ⊢; rcases hz with h | h <;> simp [h])), trivial⟩, ?_⟩
     refine mc_e rfl fun Q1 => ?_
     have hh2 : Hp u [] (tq2 B44 (farD s x) (farD s x) :: (q.X1 ++ ([(B49, .cells #[.slice oa9 ps.length cp9] 22), tq2 B54 0 0, tq8 B8 x, tq6 B6 dawn q.v1 q.v2 q.v3 q.v4, tq4 B4] ++ (q.X2 ++ q.X3 ++ q.X4 ++ (X9 ++ q.Y))))) w := hh.perm (perm_sum fun f => by simp only [sum_cons9, sum_app9, sum_nil9]; omega)
     clear hh
     refine ops_append (v := q.v1) (e := 49) (size := 2) (xs := ((ps.take i).flatMap fun p => swC (dup (farD s p)))) (news := swC (dup (farD s x))) (X := q.X1) (m := i) (q := 1) hf hh2 Tryz.eb_22 rfl rfl q1 rfl rfl rfl (by simp only [maxLen]; omega) (by omega) (.inl rfl) rfl ?_; clear hf hh2 a; intro v45 X1n a w hO1n hf hh
     replace hO1n : OwnSl 49 2 v45 (i + 1) ((ps.take (i + 1)).flatMap fun p => swC (dup (farD s p))) X1n := by
       rw [take_snoc hx, List.flatMap_append]
       simpa using hO1n
     obtain ⟨oa1, cp1, rfl⟩ := own_valW hO1n
     refine ops_end ?_
     refine then_n ⟨⟨fun _ _ => (AtE.of hh (by intro z hz; simp only [List.mem_cons, List.mem_append, List.not_mem_nil, or_false] at hz ⊢; rcases hz with h | h <;> simp [h])), trivial⟩, ?_⟩
     refine mc_p rfl   hf (yv_fieldAddr Tryz.fo_25_1 rfl) (.inl rfl) rfl rfl ?_; clear hf a; intro a hf
     refine mc_e rfl fun Q1 => ?_
     have hh2 : Hp u [] ((B49, .cells #[.slice oa9 ps.length cp9] 22) :: (q.X2 ++ ([tq2 B54 0 0, tq8 B8 x, tq6 B6 dawn q.v1 q.v2 q.v3 q.v4, tq4 B4] ++ (X1n ++ q.X3 ++ q.X4 ++ (X9 ++ q.Y))))) w := hh.perm (perm_sum fun f => by simp only [sum_cons9, sum_app9, sum_nil9]; omega)
     clear hh
     refine ops_append (v := q.v2) (e := 22) (size := 1) (xs := rvs q.rows) (news := [.slice oa9 ps.length cp9]) (X := q.X2) (m := i) (q := 1) hf hh2 Tryz.eb_23 rfl rfl q2 rfl rfl rfl (by simp only [maxLen]; omega) (by omega) (.inl rfl) rfl ?_; clear hf hh2 a; intro v50 X2n a w hO2n hf hh
     replace hO2n : OwnSl 22 1 v50 (i + 1) (rvs (q.rows ++ [(wayR x ps, oa9, cp9)])) X2n := by
       have e : rvs (q.rows ++ [(wayR x ps, oa9, cp9)]) = rvs q.rows ++ [.slice oa9 ps.length cp9] := by
         unfold rvs
         rw [List.map_append]
         show _ ++ [Value.slice oa9 (wayR x ps).length cp9] = _
         rw [List.length_map]
       rw [e]; exact hO2n
     obtain ⟨oa2, cp2, rfl⟩ := own_valW hO2n
     refine ops_end ?_
     refine then_n ⟨⟨fun _ _ => (AtE.of hh (by intro z hz; simp only [List.mem_cons, List.mem_append, List.not_mem_nil, or_false] at hz ⊢; rcases hz with h | h <;> simp [h])), trivial⟩, ?_⟩
     refine mc_e rfl fun Q1 => ?_
     have hh2 : Hp u [] (tq2 B54 0 0 :: (q.X3 ++ ([tq8 B8 x, tq6 B6 dawn q.v1 q.v2 q.v3 q.v4, tq4 B4] ++ (X1n ++ X2n ++ q.X4 ++ (X9 ++ q.Y))))) w := hh.perm (perm_sum fun f => by simp only [sum_cons9, sum_app9, sum_nil9]; omega)
     clear hh
     refine ops_append (v := q.v3) (e := 49) (size := 2) (xs := ((ps.take i).flatMap fun _ => swC ((0 : Int), (0 : Int)))) (news := swC ((0 : Int), (0 : Int))) (X := q.X3) (m := i) (q := 1) hf hh2 Tryz.eb_22 rfl rfl q3 rfl rfl rfl (by simp only [maxLen]; omega) (by omega) (.inl rfl) rfl ?_; clear hf hh2 a; intro v55 X3n a w hO3n hf hh
     replace hO3n : OwnSl 49 2 v55 (i + 1) ((ps.take (i + 1)).flatMap fun _ => swC ((0 : Int), (0 : Int))) X3n := by
       rw [take_snoc hx, List.flatMap_append]
       simpa using hO3n
     obtain ⟨oa3, cp3, rfl⟩ := own_valW hO3n
     refine ops_end ?_
     refine then_n ⟨⟨fun _ _ => (AtE.of hh (by intro z hz; simp only [List.mem_cons, List.mem_append, List.not_mem_nil, or_false] at hz ⊢; rcases hz with h | h <;> simp [h])), trivial⟩, ?_⟩
     exact r12t s x ps dawn u B4 B6 B8 i q X9 X1n X2n X3n oa1 oa2 oa3 cp1 cp2 cp3 hx hi hn q4 hf (Keep.cons rfl (Keep.cons rfl (Keep.cons rfl (Keep.cons rfl (Keep.cons rfl (Keep.cons rfl (Keep.cons rfl (Keep.cons rfl (Keep.cons rfl (Keep.cons rfl (Keep.cons rfl (Keep.cons rfl (Keep.cons rfl (Keep.cons rfl (Keep.cons rfl (Keep.cons rfl (Keep.cons rfl (Keep.cons rfl (Keep.cons rfl (Keep.cons rfl (Keep.cons rfl (Keep.cons rfl (Keep.cons rfl (Keep.dup l0 (Keep.dup l5 (Keep.dup l6 (Keep.dup l8 (Keep.dup l9 Keep.base)))))))))))))))))))))))))))) (hh.perm (perm_sum fun f => by simp only [sum_cons9, sum_app9, sum_nil9]; omega)) rfl rfl rfl rfl rfl rfl fun a w oa4 cp4 X4n hO4n hh hf => hQ a w oa1 oa2 oa3 oa4 cp1 cp2 cp3 cp4 X1n X2n X3n X4n hO1n hO2n hO3n hO4n hh hf
  ·refine mc_e rfl fun Q1 => ?_
   refine ops_buildSl hf hh Tryz.bl_23_1 rfl rfl (.inl rfl) rfl ?_; clear hf hh a; intro B49 a w hf hh
   replace hh : Hp u [] ((B49, .cells #[.slice oa9 ps.length cp9] 22) :: _) w := hh
   refine ops_end ?_
   refine then_n ⟨⟨fun _ _ => (AtE.of hh (by intro z hz; simp only [List.mem_cons, List.mem_append, List.not_mem_nil, or_false] at hz ⊢; rcases hz with h | h <;> simp [h])), trivial⟩, ?_⟩
   refine ⟨?_, ?_⟩
   ·refine mc_e rfl fun Q1 => ?_
    refine o_call hf Tryz.en_65 rfl rfl rfl (k65 s x w hsB hxB) ?_; clear hf a; intro v a w hR hf
    obtain ⟨rfl, hx7⟩ := hR; replace hh := hh.more hx7; clear hx7
    refine ops_end ?_
    refine then_n ⟨⟨fun _ _ => (AtE.of hh (by intro z hz; simp only [List.mem_cons, List.mem_append, List.not_mem_nil, or_false] at hz ⊢; rcases hz with h | h <;> simp [h])), trivial⟩, ?_⟩
    refine ⟨?_, ?_⟩
    ·refine mc_e rfl fun Q1 => ?_
     refine ops_buildSl hf hh Tryz.bl_22_1 rfl rfl (.inl rfl) rfl ?_; clear hf hh a; intro B44 a w hf hh
     replace hh : Hp u [] (tq2 B44 (farD s x) (farD s x) :: _) w := hh
     refine ops_end ?_
     refine then_n ⟨⟨fun _ _ => (AtE.of hh (by intro z hz; simp only [List.mem_cons, List.mem_append, List.not_mem_nil, or_false] at hz ⊢; rcases hz with h | h <;> simp [h])), trivial⟩, ?_⟩
     refine ⟨?_, ?_⟩
     ·refine mc_e rfl fun Q1 => ?_
      have hh2 : Hp u [] (tq2 B44 (farD s x) (farD s x) :: (q.X1 ++ ([(B49, .cells #[.slice oa9 ps.length cp9] 22), tq8 B8 x, tq6 B6 dawn q.v1 q.v2 q.v3 q.v4, tq4 B4] ++ (q.X2 ++ q.X3 ++ q.X4 ++ (X9 ++ q.Y))))) w := hh.perm (perm_sum fun f => by simp only [sum_cons9, sum_app9, sum_nil9]; omega)
      clear hh
      refine ops_append (v := q.v1) (e := 49) (size := 2) (xs := ((ps.take i).flatMap fun p => swC (dup (farD s p)))) (news := swC (dup (farD s x))) (X := q.X1) (m := i) (q := 1) hf hh2 Tryz.eb_22 rfl rfl q1 rfl rfl rfl (by simp only [maxLen]; omega) (by omega) (.inl rfl) rfl ?_; clear hf hh2 a; intro v45 X1n a w hO1n hf hh
      replace hO1n : OwnSl 49 2 v45 (i + 1) ((ps.take (i + 1)).flatMap fun p => swC (dup (farD s p))) X1n := by
        rw [take_snoc hx, List.flatMap_append]
        simpa using hO1n
      obtain ⟨oa1, cp1, rfl⟩ := own_valW hO1n
      refine ops_end ?_
      refine then_n ⟨⟨fun _ _ => (AtE.of hh (by intro z hz; simp only [List.mem_cons, List.mem_append, List.not_mem_nil, or_false] at hz ⊢; rcases hz with h | h <;> simp [h])), trivial⟩, ?_⟩
      refine mc_p rfl   hf (yv_fieldAddr Tryz.fo_25_1 rfl) (.inl rfl) rfl rfl ?_; clear hf a; intro a hf
      refine ⟨?_, ?_⟩
      ·refine mc_e rfl fun Q1 => ?_
       have hh2 : Hp u [] ((B49, .cells #[.slice oa9 ps.length cp9] 22) :: (q.X2 ++ ([tq8 B8 x, tq6 B6 dawn q.v1 q.v2 q.v3 q.v4, tq4 B4] ++ (X1n ++ q.X3 ++ q.X4 ++ (X9 ++ q.Y))))) w := hh.perm (perm_sum fun f => by simp only [sum_cons9, sum_app9, sum_nil9]; omega)
       clear hh
       refine ops_append (v := q.v2) (e := 22) (size := 1) (xs := rvs q.rows) (news := [.slice oa9 ps.length cp9]) (X := q.X2) (m := i) (q := 1) hf hh2 Tryz.eb_23 rfl rfl q2 rfl rfl rfl (by simp only [maxLen]; omega) (by omega) (.inl rfl) rfl ?_; clear hf hh2 a; intro v50 X2n a w hO2n hf hh
       replace hO2n : OwnSl 22 1 v50 (i + 1) (rvs (q.rows ++ [(wayR x ps, oa9, cp9)])) X2n := by
         have e : rvs (q.rows ++ [(wayR x ps, oa9, cp9)]) = rvs q.rows ++ [.slice oa9 ps.length cp9] := by
           unfold rvs
           rw [List.map_append]
           show _ ++ [Value.slice oa9 (wayR x ps).length cp9] = _
           rw [List.length_map]
         rw [e]; exact hO2n
       obtain ⟨oa2, cp2, rfl⟩ := own_valW hO2n
       refine ops_end ?_
       refine then_n ⟨⟨fun _ _ => (AtE.of hh (by intro z hz; simp only [List.mem_cons, List.mem_append, List.not_mem_nil, or_false] at hz ⊢; rcases hz with h | h <;> simp [h])), trivial⟩, ?_⟩
       refine mc_e rfl fun Q1 => ?_
       refine ops_buildSl hf hh Tryz.bl_22_1 rfl rfl (.inl rfl) rfl ?_; clear hf hh a; intro B54 a w hf hh
       replace hh : Hp u [] (tq2 B54 0 0 :: _) w := hh
       refine ops_end ?_
       refine then_n ⟨⟨fun _ _ => (AtE.of hh (by intro z hz; simp only [List.mem_cons, List.mem_append, List.not_mem_nil, or_false] at hz ⊢; rcases hz with h | h <;> simp [h])), trivial⟩, ?_⟩
       refine mc_e rfl fun Q1 => ?_
       have hh2 : Hp u [] (tq2 B54 0 0 :: (q.X3 ++ ([tq8 B8 x, tq6 B6 dawn q.v1 q.v2 q.v3 q.v4, tq4 B4] ++ (X1n ++ X2n ++ q.X4 ++ (X9 ++ q.Y))))) w := hh.perm (perm_sum fun f => by simp only [sum_cons9, sum_app9, sum_nil9]; omega)
       clear hh
       refine ops_append (v := q.v3) (e := 49) (size := 2) (xs := ((ps.take i).flatMap fun _ => swC ((0 : Int), (0 : Int)))) (news := swC ((0 : Int), (0 : Int))) (X := q.X3) (m := i) (q := 1) hf hh2 Tryz.eb_22 rfl rfl q3 rfl rfl rfl (by simp only [maxLen]; omega) (by omega) (.inl rfl) rfl ?_; clear hf hh2 a; intro v55 X3n a w hO3n hf hh
       replace hO3n : OwnSl 49 2 v55 (i + 1) ((ps.take (i + 1)).flatMap fun _ => swC ((0 : Int), (0 : Int))) X3n := by
         rw [take_snoc hx, List.flatMap_append]
         simpa using hO3n
       obtain ⟨oa3, cp3, rfl⟩ := own_valW hO3n
       refine ops_end ?_
       refine then_n ⟨⟨fun _ _ => (AtE.of hh (by intro z hz; simp only [List.mem_cons, List.mem_append, List.not_mem_nil, or_false] at hz ⊢; rcases hz with h | h <;> simp [h])), trivial⟩, ?_⟩
       exact r12t s x ps dawn u B4 B6 B8 i q X9 X1n X2n X3n oa1 oa2 oa3 cp1 cp2 cp3 hx hi hn q4 hf (Keep.cons rfl (Keep.cons rfl (Keep.cons rfl (Keep.cons rfl (Keep.cons rfl (Keep.cons rfl (Keep.cons rfl (Keep.cons rfl (Keep.cons rfl (Keep.cons rfl (Keep.cons rfl (Keep.cons rfl (Keep.cons rfl (Keep.cons rfl (Keep.cons rfl (Keep.cons rfl (Keep.cons rfl (Keep.cons rfl (Keep.cons rfl (Keep.cons rfl (Keep.cons rfl (Keep.cons rfl (Keep.cons rfl (Keep.dup l0 (Keep.dup l5 (Keep.dup l6 (Keep.dup l8 (Keep.dup l9 Keep.base)))))))))))))))))))))))))))) (hh.perm (perm_sum fun f => by simp only [sum_cons9, sum_app9, sum_nil9]; omega)) rfl rfl rfl rfl rfl rfl fun a w oa4 cp4 X4n hO4n hh hf => hQ a w oa1 oa2 oa3 oa4 cp1 cp2 cp3 cp4 X1n X2n X3n X4n hO1n hO2n hO3n hO4n hh hf
      ·refine mc_e rfl fun Q1 => ?_
       refine ops_buildSl hf hh Tryz.bl_22_1 rfl rfl (.inl rfl) rfl ?_; clear hf hh a; intro B54 a w hf hh
       replace hh : Hp u [] (tq2 B54 0 0 :: _) w := hh
       refine ops_end ?_
       refine then_n ⟨⟨fun _ _ => (AtE.of hh (by intro z hz; simp only [List.mem_cons, List.mem_append, List.not_mem_nil, or_false] at hz ⊢; rcases hz with h | h <;> simp [h])), trivial⟩, ?_⟩
       refine mc_e rfl fun Q1 => ?_
       have hh2 : Hp u [] ((B49, .cells #[.slice oa9 ps.length cp9] 22) :: (q.X2 ++ ([tq2 B54 0 0, tq8 B8 x, tq6 B6 dawn q.v1 q.v2 q.v3 q.v4, tq4 B4] ++ (X1n ++ q.X3 ++ q.X4 ++ (X9 ++ q.Y))))) w := hh.perm (perm_sum fun f => by simp only [sum_cons9, sum_app9, sum_nil9]; omega)
       clear hh
       refine ops_append (v := q.v2) (e := 22) (size := 1) (xs := rvs q.rows) (news := [.slice oa9 ps.length cp9]) (X := q.X2) (m := i) (q := 1) hf hh2 Tryz.eb_23 rfl rfl q2 rfl rfl rfl (by simp only [maxLen]; omega) (by omega) (.inl rfl) rfl ?_; clear hf hh2 a; intro v50 X2n a w hO2n hf hh
       replace hO2n : OwnSl 22 1 v50 (i + 1) (rvs (q.rows ++ [(wayR x ps, oa9, cp9)])) X2n := by
         have e : rvs (q.rows ++ [(wayR x ps, oa9, cp9)]) = rvs q.rows ++ [.slice oa9 ps.length cp9] := by
           unfold rvs
           rw [List.map_append]
           show _ ++ [Value.slice oa9 (wayR x ps).length cp9] = _
           rw [List.length_map]
         rw [e]; exact hO2n
       obtain ⟨oa2, cp2, rfl⟩ := own_valW hO2n
       refine ops_end ?_
       refine then_n ⟨⟨fun _ _ => (AtE.of hh (by intro z hz; simp only [List.mem_cons, List.mem_append, List.not_mem_nil, or_false] at hz ⊢; rcases hz with h | h <;> simp [h])), trivial⟩, ?_⟩
       refine mc_e rfl fun Q1 => ?_
       have hh2 : Hp u [] (tq2 B54 0 0 :: (q.X3 ++ ([tq8 B8 x, tq6 B6 dawn q.v1 q.v2 q.v3 q.v4, tq4 B4] ++ (X1n ++ X2n ++ q.X4 ++ (X9 ++ q.Y))))) w := hh.perm (perm_sum fun f => by simp only [sum_cons9, sum_app9, sum_nil9]; omega)
       clear hh
       refine ops_append (v := q.v3) (e := 49) (size := 2) (xs := ((ps.take i).flatMap fun _ => swC ((0 : Int), (0 : Int)))) (news := swC ((0 : Int), (0 : Int))) (X := q.X3) (m := i) (q := 1) hf hh2 Tryz.eb_22 rfl rfl q3 rfl rfl rfl (by simp only [maxLen]; omega) (by omega) (.inl rfl) rfl ?_; clear hf hh2 a; intro v55 X3n a w hO3n hf hh
       replace hO3n : OwnSl 49 2 v55 (i + 1) ((ps.take (i + 1)).flatMap fun _ => swC ((0 : Int), (0 : Int))) X3n := by
         rw [take_snoc hx, List.flatMap_append]
         simpa using hO3n
       obtain ⟨oa3, cp3, rfl⟩ := own_valW hO3n
       refine ops_end ?_
       refine then_n ⟨⟨fun _ _ => (AtE.of hh (by intro z hz; simp only [List.mem_cons, List.mem_append, List.not_mem_nil, or_false] at hz ⊢; rcases hz with h | h <;> simp [h])), trivial⟩, ?_⟩
       exact r12t s x ps dawn u B4 B6 B8 i q X9 X1n X2n X3n oa1 oa2 oa3 cp1 cp2 cp3 hx hi hn q4 hf (Keep.cons rfl (Keep.cons rfl (Keep.cons rfl (Keep.cons rfl (Keep.cons rfl (Keep.cons rfl (Keep.cons rfl (Keep.cons rfl (Keep.cons rfl (Keep.cons rfl (Keep.cons rfl (Keep.cons rfl (Keep.cons rfl (Keep.cons rfl (Keep.cons rfl (Keep.cons rfl (Keep.cons rfl (Keep.cons rfl (Keep.cons rfl (Keep.cons rfl (Keep.cons rfl (Keep.cons rfl (Keep.cons rfl (Keep.dup l0 (Keep.dup l5 (Keep.dup l6 (Keep.dup l8 (Keep.dup l9 Keep.base)))))))))))))))))))))))))))) (hh.perm (perm_sum fun f => by simp only [sum_cons9, sum_app9, sum_nil9]; omega)) rfl rfl rfl rfl rfl rfl fun a w oa4 cp4 X4n hO4n hh hf => hQ a w oa1 oa2 oa3 oa4 cp1 cp2 cp3 cp4 X1n X2n X3n X4n hO1n hO2n hO3n hO4n hh hf
     ·refine mc_e rfl fun Q1 => ?_
      refine ops_buildSl hf hh Tryz.bl_22_1 rfl rfl (.inl rfl) rfl ?_; clear hf hh a; intro B54 a w hf hh
      replace hh : Hp u [] (tq2 B54 0 0 :: _) w := hh
      refine ops_end ?_
      refine then_n ⟨⟨fun _ _ => (AtE.of hh (by intro z hz; simp only [List.mem_cons, List.mem_append, List.not_mem_nil, or_false] at hz ⊢; rcases hz with h | h <;> simp [h])), trivial⟩, ?_⟩
      refine mc_e rfl fun Q1 => ?_
      have hh2 : Hp u [] (tq2 B44 (farD s x) (farD s x) :: (q.X1 ++ ([(B49, .cells #[.slice oa9 ps.length cp9] 22), tq2 B54 0 0, tq8 B8 x, tq6 B6 dawn q.v1 q.v2 q.v3 q.v4, tq4 B4] ++ (q.X2 ++ q.X3 ++ q.X4 ++ (X9 ++ q.Y))))) w := hh.perm (perm_sum fun f => by simp only [sum_cons9, sum_app9, sum_nil9]; omega)
      clear hh
      refine ops_append (v := q.v1) (e := 49) (size := 2) (xs := ((ps.take i).flatMap fun p => swC (dup (farD s p)))) (news := swC (dup (farD s x))) (X := q.X1) (m := i) (q := 1) hf hh2 Tryz.eb_22 rfl rfl q1 rfl rfl rfl (by simp only [maxLen]; omega) (by omega) (.inl rfl) rfl ?_; clear hf hh2 a; intro v45 X1n a w hO1n hf hh
      replace hO1n : OwnSl 49 2 v45 (i + 1) ((ps.take (i + 1)).flatMap fun p => swC (dup (farD s p))) X1n := by
        rw [take_snoc hx, List.flatMap_append]
        simpa using hO1n
      obtain ⟨oa1, cp1, rfl⟩ := own_valW hO1n
      refine ops_end ?_
      refine then_n ⟨⟨fun _ _ => (AtE.of hh (by intro z hz; simp only [List.mem_cons, List.mem_append, List.not_mem_nil, or_false] at hz ⊢; rcases hz with h | h <;> simp [h])), trivial⟩, ?_⟩
      refine mc_p rfl   hf (yv_fieldAddr Tryz.fo_25_1 rfl) (.inl rfl) rfl rfl ?_; clear hf a; intro a hf
      refine mc_e rfl fun Q1 => ?_
      have hh2 : Hp u [] ((B49, .cells #[.slice oa9 ps.length cp9] 22) :: (q.X2 ++ ([tq2 B54 0 0, tq8 B8 x, tq6 B6 dawn q.v1 q.v2 q.v3 q.v4, tq4 B4] ++ (X1n ++ q.X3 ++ q.X4 ++ (X9 ++ q.Y))))) w := hh.perm (perm_sum fun f => by simp only [sum_cons9, sum_app9, sum_nil9]; omega)
      clear hh
      refine ops_append (v := q.v2) (e := 22) (size := 1) (xs := rvs q.rows) (news := [.slice oa9 ps.length cp9]) (X := q.X2) (m := i) (q := 1) hf hh2 Tryz.eb_23 rfl rfl q2 rfl rfl rfl (by simp only [maxLen]; omega) (by omega) (.inl rfl) rfl ?_; clear hf hh2 a; intro v50 X2n a w hO2n hf hh
      replace hO2n : OwnSl 22 1 v50 (i + 1) (rvs (q.rows ++ [(wayR x ps, oa9, cp9)])) X2n := by
        have e : rvs (q.rows ++ [(wayR x ps, oa9, cp9)]) = rvs q.rows ++ [.slice oa9 ps.length cp9] := by
          unfold rvs
          rw [List.map_append]
          show _ ++ [Value.slice oa9 (wayR x ps).length cp9] = _
          rw [List.length_map]
        rw [e]; exact hO2n
      obtain ⟨oa2, cp2, rfl⟩ := own_valW hO2n
      refine ops_end ?_
      refine then_n ⟨⟨fun _ _ => (AtE.of hh (by intro z hz; simp only [List.mem_cons, List.mem_append, List.not_mem_nil, or_false] at hz ⊢; rcases hz with h | h <;> simp [h])), trivial⟩, ?_⟩
      refine mc_e rfl fun Q1 => ?_
      have hh2 : Hp u [] (tq2 B54 0 0 :: (q.X3 ++ ([tq8 B8 x, tq6 B6 dawn q.v1 q.v2 q.v3 q.v4, tq4 B4] ++ (X1n ++ X2n ++ q.X4 ++ (X9 ++ q.Y))))) w := hh.perm (perm_sum fun f => by simp only [sum_cons9, sum_app9, sum_nil9]; omega)
      clear hh
      refine ops_append (v := q.v3) (e := 49) (size := 2) (xs := ((ps.take i).flatMap fun _ => swC ((0 : Int), (0 : Int)))) (news := swC ((0 : Int), (0 : Int))) (X := q.X3) (m := i) (q := 1) hf hh2 Tryz.eb_22 rfl rfl q3 rfl rfl rfl (by simp only [maxLen]; omega) (by omega) (.inl rfl) rfl ?_; clear hf hh2 a; intro v55 X3n a w hO3n hf hh
      replace hO3n : OwnSl 49 2 v55 (i + 1) ((ps.take (i + 1)).flatMap fun _ => swC ((0 : Int), (0 : Int))) X3n := by
        rw [take_snoc hx, List.flatMap_append]
        simpa using hO3n
      obtain ⟨oa3, cp3, rfl⟩ := own_valW hO3n
      refine ops_end ?_
      refine then_n ⟨⟨fun _ _ => (AtE.of hh (by intro z hz; simp only [List.mem_cons, List.mem_append, List.not_mem_nil, or_false] at hz ⊢; rcases hz with h | h <;> simp [h])), trivial⟩, ?_⟩
      exact r12t s x ps dawn u B4 B6 B8 i q X9 X1n X2n X3n oa1 oa2 oa3 cp1 cp2 cp3 hx hi hn q4 hf (Keep.cons rfl (Keep.cons rfl (Keep.cons rfl (Keep.cons rfl (Keep.cons rfl (Keep.cons rfl (Keep.cons rfl (Keep.cons rfl (Keep.cons rfl (Keep.cons rfl (Keep.cons rfl (Keep.cons rfl (Keep.cons rfl (Keep.cons rfl (Keep.cons rfl (Keep.cons rfl (Keep.cons rfl (Keep.cons rfl (Keep.cons rfl (Keep.cons rfl (Keep.cons rfl (Keep.cons rfl (Keep.cons rfl (Keep.dup l0 (Keep.dup l5 (Keep.dup l6 (Keep.dup l8 (Keep.dup l9 Keep.base)))))))))))))))))))))))))))) (hh.perm (perm_sum fun f => by simp only [sum_cons9, sum_app9, sum_nil9]; omega)) rfl rfl rfl rfl rfl rfl fun a w oa4 cp4 X4n hO4n hh hf => hQ a w oa1 oa2 oa3 oa4 cp1 cp2 cp3 cp4 X1n X2n X3n X4n hO1n hO2n hO3n hO4n hh hf
    ·refine mc_e rfl fun Q1 => ?_
     refine ops_buildSl hf hh Tryz.bl_22_1 rfl rfl (.inl rfl) rfl ?_; clear hf hh a; intro B54 a w hf hh
     replace hh : Hp u [] (tq2 B54 0 0 :: _) w := hh
     refine ops_end ?_
     refine then_n ⟨⟨fun _ _ => (AtE.of hh (by intro z hz; simp only [List.mem_cons, List.mem_append, List.not_mem_nil, or_false] at hz ⊢; rcases hz with h | h <;> simp [h])), trivial⟩, ?_⟩
     refine mc_e rfl fun Q1 => ?_
     refine ops_buildSl hf hh Tryz.bl_22_1 rfl rfl (.inl rfl) rfl ?_; clear hf hh a; intro B44 a w hf hh
     replace hh : Hp u [] (tq2 B44 (farD s x) (farD s x) :: _) w := hh
     refine ops_end ?_
     refine then_n ⟨⟨fun _ _ => (AtE.of hh (by intro z hz; simp only [List.mem_cons, List.mem_append, List.not_mem_nil, or_false] at hz ⊢; rcases hz with h | h <;> simp [h])), trivial⟩, ?_⟩
     refine mc_e rfl fun Q1 => ?_
     have hh2 : Hp u [] (tq2 B44 (farD s x) (farD s x) :: (q.X1 ++ ([(B49, .cells #[.slice oa9 ps.length cp9] 22), tq2 B54 0 0, tq8 B8 x, tq6 B6 dawn q.v1 q.v2 q.v3 q.v4, tq4 B4] ++ (q.X2 ++ q.X3 ++ q.X4 ++ (X9 ++ q.Y))))) w := hh.perm (perm_sum fun f => by simp only [sum_cons9, sum_app9, sum_nil9]; omega)
     clear hh
     refine ops_append (v := q.v1) (e := 49) (size := 2) (xs := ((ps.take i).flatMap fun p => swC (dup (farD s p)))) (news := swC (dup (farD s x))) (X := q.X1) (m := i) (q := 1) hf hh2 Tryz.eb_22 rfl rfl q1 rfl rfl rfl (by simp only [maxLen]; omega) (by omega) (.inl rfl) rfl ?_; clear hf hh2 a; intro v45 X1n a w hO1n hf hh
     replace hO1n : OwnSl 49 2 v45 (i + 1) ((ps.take (i + 1)).flatMap fun p => swC (dup (farD s p))) X1n := by
       rw [take_snoc hx, List.flatMap_append]
       simpa using hO1n
     obtain ⟨oa1, cp1, rfl⟩ := own_valW hO1n
     refine ops_end ?_
     refine then_n ⟨⟨fun _ _ => (AtE.of hh (by intro z hz; simp only [List.mem_cons, List.mem_append, List.not_mem_nil, or_false] at hz ⊢; rcases hz with h | h <;> simp [h])), trivial⟩, ?_⟩
     refine mc_p rfl   hf (yv_fieldAddr Tryz.fo_25_1 rfl) (.inl rfl) rfl rfl ?_; clear hf a; intro a hf
     refine mc_e rfl fun Q1 => ?_
     have hh2 : Hp u [] ((B49, .cells #[.slice oa9 ps.length cp9] 22) :: (q.X2 ++ ([tq2 B54 0 0, tq8 B8 x, tq6 B6 dawn q.v1 q.v2 q.v3 q.v4, tq4 B4] ++ (X1n ++ q.X3 ++ q.X4 ++ (X9 ++ q.Y))))) w := hh.perm (perm_sum fun f => by simp only [sum_cons9, sum_app9, sum_nil9]; omega)
     clear hh
     refine ops_append (v := q.v2) (e := 22) (size := 1) (xs := rvs q.rows) (news := [.slice oa9 ps.length cp9]) (X := q.X2) (m := i) (q := 1) hf hh2 Tryz.eb_23 rfl rfl q2 rfl rfl rfl (by simp only [maxLen]; omega) (by omega) (.inl rfl) rfl ?_; clear hf hh2 a; intro v50 X2n a w hO2n hf hh
     replace hO2n : OwnSl 22 1 v50 (i + 1) (rvs (q.rows ++ [(wayR x ps, oa9, cp9)])) X2n := by
       have e : rvs (q.rows ++ [(wayR x ps, oa9, cp9)]) = rvs q.rows ++ [.slice oa9 ps.length cp9] := by
         unfold rvs
         rw [List.map_append]
         show _ ++ [Value.slice oa9 (wayR x ps).length cp9] = _
         rw [List.length_map]
       rw [e]; exact hO2n
     obtain ⟨oa2, cp2, rfl⟩ := own_valW hO2n
     refine ops_end ?_
     refine then_n ⟨⟨fun _ _ => (AtE.of hh (by intro z hz; simp only [List.mem_cons, List.mem_append, List.not_mem_nil, or_false] at hz ⊢; rcases hz with h | h <;> simp [h])), trivial⟩, ?_⟩
     refine mc_e rfl fun Q1 => ?_
     have hh2 : Hp u [] (tq2 B54 0 0 :: (q.X3 ++ ([tq8 B8 x, tq6 B6 dawn q.v1 q.v2 q.v3 q.v4, tq4 B4] ++ (X1n ++ X2n ++ q.X4 ++ (X9 ++ q.Y))))) w := hh.perm (perm_sum fun f => by simp only [sum_cons9, sum_app9, sum_nil9]; omega)
     clear hh
     refine ops_append (v := q.v3) (e := 49) (size := 2) (xs := ((ps.take i).flatMap fun _ => swC ((0 : Int), (0 : Int)))) (news := swC ((0 : Int), (0 : Int))) (X := q.X3) (m := i) (q := 1) hf hh2 Tryz.eb_22 rfl rfl q3 rfl rfl rfl (by simp only [maxLen]; omega) (by omega) (.inl rfl) rfl ?_; clear hf hh2 a; intro v55 X3n a w hO3n hf hh
     replace hO3n : OwnSl 49 2 v55 (i + 1) ((ps.take (i + 1)).flatMap fun _ => swC ((0 : Int), (0 : Int))) X3n := by
       rw [take_snoc hx, List.flatMap_append]
       simpa using hO3n
     obtain ⟨oa3, cp3, rfl⟩ := own_valW hO3n
     refine ops_end ?_
     refine then_n ⟨⟨fun _ _ => (AtE.of hh (by intro z hz; simp only [List.mem_cons, List.mem_append, List.not_mem_nil, or_false] at hz ⊢; rcases hz with h | h <;> simp [h])), trivial⟩, ?_⟩
     exact r12t s x ps dawn u B4 B6 B8 i q X9 X1n X2n X3n oa1 oa2 oa3 cp1 cp2 cp3 hx hi hn q4 hf (Keep.cons rfl (Keep.cons rfl (Keep.cons rfl (Keep.cons rfl (Keep.cons rfl (Keep.cons rfl (Keep.cons rfl (Keep.cons rfl (Keep.cons rfl (Keep.cons rfl (Keep.cons rfl (Keep.cons rfl (Keep.cons rfl (Keep.cons rfl (Keep.cons rfl (Keep.cons rfl (Keep.cons rfl (Keep.cons rfl (Keep.cons rfl (Keep.cons rfl (Keep.cons rfl (Keep.cons rfl (Keep.cons rfl (Keep.dup l0 (Keep.dup l5 (Keep.dup l6 (Keep.dup l8 (Keep.dup l9 Keep.base)))))))))))))))))))))))))))) (hh.perm (perm_sum fun f => by simp only [sum_cons9, sum_app9, sum_nil9]; omega)) rfl rfl rfl rfl rfl rfl fun a w oa4 cp4 X4n hO4n hh hf => hQ a w oa1 oa2 oa3 oa4 cp1 cp2 cp3 cp4 X1n X2n X3n X4n hO1n hO2n hO3n hO4n hh hf
   ·refine mc_e rfl fun Q1 => ?_
    refine ops_buildSl hf hh Tryz.bl_22_1 rfl rfl (.inl rfl) rfl ?_; clear hf hh a; intro B54 a w hf hh
    replace hh : Hp u [] (tq2 B54 0 0 :: _) w := hh
    refine ops_end ?_
    refine then_n ⟨⟨fun _ _ => (AtE.of hh (by intro z hz; simp only [List.mem_cons, List.mem_append, List.not_mem_nil, or_false] at hz ⊢; rcases hz with h | h <;> simp [h])), trivial⟩, ?_⟩
    refine mc_e rfl fun Q1 => ?_
    refine o_call hf Tryz.en_65 rfl rfl rfl (k65 s x w hsB hxB) ?_; clear hf a; intro v a w hR hf
    obtain ⟨rfl, hx7⟩ := hR; replace hh := hh.more hx7; clear hx7
    refine ops_end ?_
    refine then_n ⟨⟨fun _ _ => (AtE.of hh (by intro z hz; simp only [List.mem_cons, List.mem_append, List.not_mem_nil, or_false] at hz ⊢; rcases hz with h | h <;> simp [h])), trivial⟩, ?_⟩
    refine mc_e rfl fun Q1 => ?_
    refine ops_buildSl hf hh Tryz.bl_22_1 rfl rfl (.inl rfl) rfl ?_; clear hf hh a; intro B44 a w hf hh
    replace hh : Hp u [] (tq2 B44 (farD s x) (farD s x) :: _) w := hh
    refine ops_end ?_
    refine then_n ⟨⟨fun _ _ => (AtE.of hh (by intro z hz; simp only [List.mem_cons, List.mem_append, List.not_mem_nil, or_false] at hz ⊢; rcases hz with h | h <;> simp [h])), trivial⟩, ?_⟩
    refine mc_e rfl fun Q1 => ?_
    have hh2 : Hp u [] (tq2 B44 (farD s x) (farD s x) :: (q.X1 ++ ([(B49, .cells #[.slice oa9 ps.length cp9] 22), tq2 B54 0 0, tq8 B8 x, tq6 B6 dawn q.v1 q.v2 q.v3 q.v4, tq4 B4] ++ (q.X2 ++ q.X3 ++ q.X4 ++ (X9 ++ q.Y))))) w := hh.perm (perm_sum fun f => by simp only [sum_cons9, sum_app9, sum_nil9]; omega)
    clear hh
    refine ops_append (v := q.v1) (e := 49) (size := 2) (xs := ((ps.take i).flatMap fun p => swC (dup (farD s p)))) (news := swC (dup (farD s x))) (X := q.X1) (m := i) (q := 1) hf hh2 Tryz.eb_22 rfl rfl q1 rfl rfl rfl (by simp only [maxLen]; omega) (by omega) (.inl rfl) rfl ?_; clear hf hh2 a; intro v45 X1n a w hO1n hf hh
    replace hO1n : OwnSl 49 2 v45 (i + 1) ((ps.take (i + 1)).flatMap fun p => swC (dup (farD s p))) X1n := by
      rw [take_snoc hx, List.flatMap_append]
      simpa using hO1n
    obtain ⟨oa1, cp1, rfl⟩ := own_valW hO1n
    refine ops_end ?_
    refine then_n ⟨⟨fun _ _ => (AtE.of hh (by intro z hz; simp only [List.mem_cons, List.mem_append, List.not_mem_nil, or_false] at hz ⊢; rcases hz with h | h <;> simp [h])), trivial⟩, ?_⟩
    refine mc_p rfl   hf (yv_fieldAddr Tryz.fo_25_1 rfl) (.inl rfl) rfl rfl ?_; clear hf a; intro a hf
    refine mc_e rfl fun Q1 => ?_
    have hh2 : Hp u [] ((B49, .cells #[.slice oa9 ps.length cp9] 22) :: (q.X2 ++ ([tq2 B54 0 0, tq8 B8 x, tq6 B6 dawn q.v1 q.v2 q.v3 q.v4, tq4 B4] ++ (X1n ++ q.X3 ++ q.X4 ++ (X9 ++ q.Y))))) w := hh.perm (perm_sum fun f => by simp only [sum_cons9, sum_app9, sum_nil9]; omega)
    clear hh
    refine ops_append (v := q.v2) (e := 22) (size := 1) (xs := rvs q.rows) (news := [.slice oa9 ps.length cp9]) (X := q.X2) (m := i) (q := 1) hf hh2 Tryz.eb_23 rfl rfl q2 rfl rfl rfl (by simp only [maxLen]; omega) (by omega) (.inl rfl) rfl ?_; clear hf hh2 a; intro v50 X2n a w hO2n hf hh
    replace hO2n : OwnSl 22 1 v50 (i + 1) (rvs (q.rows ++ [(wayR x ps, oa9, cp9)])) X2n := by
      have e : rvs (q.rows ++ [(wayR x ps, oa9, cp9)]) = rvs q.rows ++ [.slice oa9 ps.length cp9] := by
        unfold rvs
        rw [List.map_append]
        show _ ++ [Value.slice oa9 (wayR x ps).length cp9] = _
        rw [List.length_map]
      rw [e]; exact hO2n
    obtain ⟨oa2, cp2, rfl⟩ := own_valW hO2n
    refine ops_end ?_
    refine then_n ⟨⟨fun _ _ => (AtE.of hh (by intro z hz; simp only [List.mem_cons, List.mem_append, List.not_mem_nil, or_false] at hz ⊢; rcases hz with h | h <;> simp [h])), trivial⟩, ?_⟩
    refine mc_e rfl fun Q1 => ?_
    have hh2 : Hp u [] (tq2 B54 0 0 :: (q.X3 ++ ([tq8 B8 x, tq6 B6 dawn q.v1 q.v2 q.v3 q.v4, tq4 B4] ++ (X1n ++ X2n ++ q.X4 ++ (X9 ++ q.Y))))) w := hh.perm (perm_sum fun f => by simp only [sum_cons9, sum_app9, sum_nil9]; omega)
    clear hh
    refine ops_append (v := q.v3) (e := 49) (size := 2) (xs := ((ps.take i).flatMap fun _ => swC ((0 : Int), (0 : Int)))) (news := swC ((0 : Int), (0 : Int))) (X := q.X3) (m := i) (q := 1) hf hh2 Tryz.eb_22 rfl rfl q3 rfl rfl rfl (by simp only [maxLen]; omega) (by omega) (.inl rfl) rfl ?_; clear hf hh2 a; intro v55 X3n a w hO3n hf hh
    replace hO3n : OwnSl 49 2 v55 (i + 1) ((ps.take (i + 1)).flatMap fun _ => swC ((0 : Int), (0 : Int))) X3n := by
      rw [take_snoc hx, List.flatMap_append]
      simpa using hO3n
    obtain ⟨oa3, cp3, rfl⟩ := own_valW hO3n
    refine ops_end ?_
    refine then_n ⟨⟨fun _ _ => (AtE.of hh (by intro z hz; simp only [List.mem_cons, List.mem_append, List.not_mem_nil, or_false] at hz ⊢; rcases hz with h | h <;> simp [h])), trivial⟩, ?_⟩
    exact r12t s x ps dawn u B4 B6 B8 i q X9 X1n X2n X3n oa1 oa2 oa3 cp1 cp2 cp3 hx hi hn q4 hf (Keep.cons rfl (Keep.cons rfl (Keep.cons rfl (Keep.cons rfl (Keep.cons rfl (Keep.cons rfl (Keep.cons rfl (Keep.cons rfl (Keep.cons rfl (Keep.cons rfl (Keep.cons rfl (Keep.cons rfl (Keep.cons rfl (Keep.cons rfl (Keep.cons rfl (Keep.cons rfl (Keep.cons rfl (Keep.cons rfl (Keep.cons rfl (Keep.cons rfl (Keep.cons rfl (Keep.cons rfl (Keep.cons rfl (Keep.dup l0 (Keep.dup l5 (Keep.dup l6 (Keep.dup l8 (Keep.dup l9 Keep.base)))))))))))))))))))))))))))) (hh.perm (perm_sum fun f => by simp only [sum_cons9, sum_app9, sum_nil9]; omega)) rfl rfl rfl rfl rfl rfl fun a w oa4 cp4 X4n hO4n hh hf => hQ a w oa1 oa2 oa3 oa4 cp1 cp2 cp3 cp4 X1n X2n X3n X4n hO1n hO2n hO3n hO4n hh hf
  ·refine mc_e rfl fun Q1 => ?_
   refine ops_buildSl hf hh Tryz.bl_22_1 rfl rfl (.inl rfl) rfl ?_; clear hf hh a; intro B54 a w hf hh
   replace hh : Hp u [] (tq2 B54 0 0 :: _) w := hh
   refine ops_end ?_
   refine then_n ⟨⟨fun _ _ => (AtE.of hh (by intro z hz; simp only [List.mem_cons, List.mem_append, List.not_mem_nil, or_false] at hz ⊢; rcases hz with h | h <;> simp [h])), trivial⟩, ?_⟩
   refine ⟨?_, ?_⟩
   ·refine mc_e rfl fun Q1 => ?_
    refine o_call hf Tryz.en_65 rfl rfl rfl (k65 s x w hsB hxB) ?_; clear hf a; intro v a w hR hf
    obtain ⟨rfl, hx7⟩ := hR; replace hh := hh.more hx7; clear hx7
    refine ops_end ?_
    refine then_n ⟨⟨fun _ _ => (AtE.of hh (by intro z hz; simp only [List.mem_cons, List.mem_append, List.not_mem_nil, or_false] at hz ⊢; rcases hz with h | h <;> simp [h])), trivial⟩, ?_⟩
    refine ⟨?_, ?_⟩
    ·refine mc_e rfl fun Q1 => ?_
     refine ops_buildSl hf hh Tryz.bl_22_1 rfl rfl (.inl rfl) rfl ?_; clear hf hh a; intro B44 a w hf hh
     replace hh : Hp u [] (tq2 B44 (farD s x) (farD s x) :: _) w := hh
     refine ops_end ?_
     refine then_n ⟨⟨fun _ _ => (AtE.of hh (by intro z hz; simp only [List.mem_cons, List.mem_append, List.not_mem_nil, or_false] at hz ⊢; rcases hz with h | h <;> simp [h])), trivial⟩, ?_⟩
     refine ⟨?_, ?_⟩
     ·refine mc_e rfl fun Q1 => ?_
      have hh2 : Hp u [] (tq2 B44 (farD s x) (farD s x) :: (q.X1 ++ ([tq2 B54 0 0, tq8 B8 x, tq6 B6 dawn q.v1 q.v2 q.v3 q.v4, tq4 B4] ++ (q.X2 ++ q.X3 ++ q.X4 ++ (X9 ++ q.Y))))) w := hh.perm (perm_sum fun f => by simp only [sum_cons9, sum_app9, sum_nil9]; omega)
      clear hh
      refine ops_append (v := q.v1) (e := 49) (size := 2) (xs := ((ps.take i).flatMap fun p => swC (dup (farD s p)))) (news := swC (dup (farD s x))) (X := q.X1) (m := i) (q := 1) hf hh2 Tryz.eb_22 rfl rfl q1 rfl rfl rfl (by simp only [maxLen]; omega) (by omega) (.inl rfl) rfl ?_; clear hf hh2 a; intro v45 X1n a w hO1n hf hh
      replace hO1n : OwnSl 49 2 v45 (i + 1) ((ps.take (i + 1)).flatMap fun p => swC (dup (farD s p))) X1n := by
        rw [take_snoc hx, List.flatMap_append]
        simpa using hO1n
      obtain ⟨oa1, cp1, rfl⟩ := own_valW hO1n
      refine ops_end ?_
      refine then_n ⟨⟨fun _ _ => (AtE.of hh (by intro z hz; simp only [List.mem_cons, List.mem_append, List.not_mem_nil, or_false] at hz ⊢; rcases hz with h | h <;> simp [h])), trivial⟩, ?_⟩
      refine mc_p rfl   hf (yv_fieldAddr Tryz.fo_25_1 rfl) (.inl rfl) rfl rfl ?_; clear hf a; intro a hf
      refine mc_e rfl fun Q1 => ?_
      refine ops_buildSl hf hh Tryz.bl_23_1 rfl rfl (.inl rfl) rfl ?_; clear hf hh a; intro B49 a w hf hh
      replace hh : Hp u [] ((B49, .cells #[.slice oa9 ps.length cp9] 22) :: _) w := hh
      refine ops_end ?_
      refine then_n ⟨⟨fun _ _ => (AtE.of hh (by intro z hz; simp only [List.mem_cons, List.mem_append, List.not_mem_nil, or_false] at hz ⊢; rcases hz with h | h <;> simp [h])), trivial⟩, ?_⟩
      refine mc_e rfl fun Q1 => ?_
      have hh2 : Hp u [] ((B49, .cells #[.slice oa9 ps.length cp9] 22) :: (q.X2 ++ ([tq2 B54 0 0, tq8 B8 x, tq6 B6 dawn q.v1 q.v2 q.v3 q.v4, tq4 B4] ++ (X1n ++ q.X3 ++ q.X4 ++ (X9 ++ q.Y))))) w := hh.perm (perm_sum fun f => by simp only [sum_cons9, sum_app9, sum_nil9]; omega)
      clear hh
      refine ops_append (v := q.v2) (e := 22) (size := 1) (xs := rvs q.rows) (news := [.slice oa9 ps.length cp9]) (X := q.X2) (m := i) (q := 1) hf hh2 Tryz.eb_23 rfl rfl q2 rfl rfl rfl (by simp only [maxLen]; omega) (by omega) (.inl rfl) rfl ?_; clear hf hh2 a; intro v50 X2n a w hO2n hf hh
      replace hO2n : OwnSl 22 1 v50 (i + 1) (rvs (q.rows ++ [(wayR x ps, oa9, cp9)])) X2n := by
        have e : rvs (q.rows ++ [(wayR x ps, oa9, cp9)]) = rvs q.rows ++ [.slice oa9 ps.length cp9] := by
          unfold rvs
          rw [List.map_append]
          show _ ++ [Value.slice oa9 (wayR x ps).length cp9] = _
          rw [List.length_map]
        rw [e]; exact hO2n
      obtain ⟨oa2, cp2, rfl⟩ := own_valW hO2n
      refine ops_end ?_
      refine then_n ⟨⟨fun _ _ => (AtE.of hh (by intro z hz; simp only [List.mem_cons, List.mem_append, List.not_mem_nil, or_false] at hz ⊢; rcases hz with h | h <;> simp [h])), trivial⟩, ?_⟩
      refine mc_e rfl fun Q1 => ?_
      have hh2 : Hp u [] (tq2 B54 0 0 :: (q.X3 ++ ([tq8 B8 x, tq6 B6 dawn q.v1 q.v2 q.v3 q.v4, tq4 B4] ++ (X1n ++ X2n ++ q.X4 ++ (X9 ++ q.Y))))) w := hh.perm (perm_sum fun f => by simp only [sum_cons9, sum_app9, sum_nil9]; omega)
      clear hh
      refine ops_append (v := q.v3) (e := 49) (size := 2) (xs := ((ps.take i).flatMap fun _ => swC ((0 : Int), (0 : Int)))) (news := swC ((0 : Int), (0 : Int))) (X := q.X3) (m := i) (q := 1) hf hh2 Tryz.eb_22 rfl rfl q3 rfl rfl rfl (by simp only [maxLen]; omega) (by omega) (.inl rfl) rfl ?_; clear hf hh2 a; intro v55 X3n a w hO3n hf hh
      replace hO3n : OwnSl 49 2 v55 (i + 1) ((ps.take (i + 1)).flatMap fun _ => swC ((0 : Int), (0 : Int))) X3n := by
        rw [take_snoc hx, List.flatMap_append]
        simpa using hO3n
      obtain ⟨oa3, cp3, rfl⟩ := own_valW hO3n
      refine ops_end ?_
      refine then_n ⟨⟨fun _ _ => (AtE.of hh (by intro z hz; simp only [List.mem_cons, List.mem_append, List.not_mem_nil, or_false] at hz ⊢; rcases hz with h | h <;> simp [h])), trivial⟩, ?_⟩
      exact r12t s x ps dawn u B4 B6 B8 i q X9 X1n X2n X3n oa1 oa2 oa3 cp1 cp2 cp3 hx hi hn q4 hf (Keep.cons rfl (Keep.cons rfl (Keep.cons rfl (Keep.cons rfl (Keep.cons rfl (Keep.cons rfl (Keep.cons rfl (Keep.cons rfl (Keep.cons rfl (Keep.cons rfl (Keep.cons rfl (Keep.cons rfl (Keep.cons rfl (Keep.cons rfl (Keep.cons rfl (Keep.cons rfl (Keep.cons rfl (Keep.cons rfl (Keep.cons rfl (Keep.cons rfl (Keep.cons rfl (Keep.cons rfl (Keep.cons rfl (Keep.dup l0 (Keep.dup l5 (Keep.dup l6 (Keep.dup l8 (Keep.dup l9 Keep.base)))))))))))))))))))))))))))) (hh.perm (perm_sum fun f => by simp only [sum_cons9, sum_app9, sum_nil9]; omega)) rfl rfl rfl rfl rfl rfl fun a w oa4 cp4 X4n hO4n hh hf => hQ a w oa1 oa2 oa3 oa4 cp1 cp2 cp3 cp4 X1n X2n X3n X4n hO1n hO2n hO3n hO4n hh hf
     ·refine mc_e rfl fun Q1 => ?_
      refine ops_buildSl hf hh Tryz.bl_23_1 rfl rfl (.inl rfl) rfl ?_; clear hf hh a; intro B49 a w hf hh
      replace hh : Hp u [] ((B49, .cells #[.slice oa9 ps.length cp9] 22) :: _) w := hh
      refine ops_end ?_
      refine then_n ⟨⟨fun _ _ => (AtE.of hh (by intro z hz; simp only [List.mem_cons, List.mem_append, List.not_mem_nil, or_false] at hz ⊢; rcases hz with h | h <;> simp [h])), trivial⟩, ?_⟩
      refine mc_e rfl fun Q1 => ?_
      have hh2 : Hp u [] (tq2 B44 (farD s x) (farD s x) :: (q.X1 ++ ([(B49, .cells #[.slice oa9 ps.length cp9] 22), tq2 B54 0 0, tq8 B8 x, tq6 B6 dawn q.v1 q.v2 q.v3 q.v4, tq4 B4] ++ (q.X2 ++ q.X3 ++ q.X4 ++ (X9 ++ q.Y))))) w := hh.perm (perm_sum fun f => by simp only [sum_cons9, sum_app9, sum_nil9]; omega)
      clear hh
      refine ops_append (v := q.v1) (e := 49) (size := 2) (xs := ((ps.take i).flatMap fun p => swC (dup (farD s p)))) (news := swC (dup (farD s x))) (X := q.X1) (m := i) (q := 1) hf hh2 Tryz.eb_22 rfl rfl q1 rfl rfl rfl (by simp only [maxLen]; omega) (by omega) (.inl rfl) rfl ?_; clear hf hh2 a; intro v45 X1n a w hO1n hf hh
      replace hO1n : OwnSl 49 2 v45 (i + 1) ((ps.take (i + 1)).flatMap fun p => swC (dup (farD s p))) X1n := by
        rw [take_snoc hx, List.flatMap_append]
        simpa using hO1n
      obtain ⟨oa1, cp1, rfl⟩ := own_valW hO1n
      refine ops_end ?_
      refine then_n ⟨⟨fun _ _ => (AtE.of hh (by intro z hz; simp only [List.mem_cons, List.mem_append, List.not_mem_nil, or_false] at hz ⊢; rcases hz with h | h <;> simp [h])), trivial⟩, ?_⟩
      refine mc_p rfl   hf (yv_fieldAddr Tryz.fo_25_1 rfl) (.inl rfl) rfl rfl ?_; clear hf a; intro a hf
      refine mc_e rfl fun Q1 => ?_
      have hh2 : Hp u [] ((B49, .cells #[.slice oa9 ps.length cp9] 22) :: (q.X2 ++ ([tq2 B54 0 0, tq8 B8 x, tq6 B6 dawn q.v1 q.v2 q.v3 q.v4, tq4 B4] ++ (X1n ++ q.X3 ++ q.X4 ++ (X9 ++ q.Y))))) w := hh.perm (perm_sum fun f => by simp only [sum_cons9, sum_app9, sum_nil9]; omega)
      clear hh
      refine ops_append (v := q.v2) (e := 22) (size := 1) (xs := rvs q.rows) (news := [.slice oa9 ps.length cp9]) (X := q.X2) (m := i) (q := 1) hf hh2 Tryz.eb_23 rfl rfl q2 rfl rfl rfl (by simp only [maxLen]; omega) (by omega) (.inl rfl) rfl ?_; clear hf hh2 a; intro v50 X2n a w hO2n hf hh
      replace hO2n : OwnSl 22 1 v50 (i + 1) (rvs (q.rows ++ [(wayR x ps, oa9, cp9)])) X2n := by
        have e : rvs (q.rows ++ [(wayR x ps, oa9, cp9)]) = rvs q.rows ++ [.slice oa9 ps.length cp9] := by
          unfold rvs
          rw [List.map_append]
          show _ ++ [Value.slice oa9 (wayR x ps).length cp9] = _
          rw [List.length_map]
        rw [e]; exact hO2n
      obtain ⟨oa2, cp2, rfl⟩ := own_valW hO2n
      refine ops_end ?_
      refine then_n ⟨⟨fun _ _ => (AtE.of hh (by intro z hz; simp only [List.mem_cons, List.mem_append, List.not_mem_nil, or_false] at hz ⊢; rcases hz with h | h <;> simp [h])), trivial⟩, ?_⟩
      refine mc_e rfl fun Q1 => ?_
      have hh2 : Hp u [] (tq2 B54 0 0 :: (q.X3 ++ ([tq8 B8 x, tq6 B6 dawn q.v1 q.v2 q.v3 q.v4, tq4 B4] ++ (X1n ++ X2n ++ q.X4 ++ (X9 ++ q.Y))))) w := hh.perm (perm_sum fun f => by simp only [sum_cons9, sum_app9, sum_nil9]; omega)
      clear hh
      refine ops_append (v := q.v3) (e := 49) (size := 2) (xs := ((ps.take i).flatMap fun _ => swC ((0 : Int), (0 : Int)))) (news := swC ((0 : Int), (0 : Int))) (X := q.X3) (m := i) (q := 1) hf hh2 Tryz.eb_22 rfl rfl q3 rfl rfl rfl (by simp only [maxLen]; omega) (by omega) (.inl rfl) rfl ?_; clear hf hh2 a; intro v55 X3n a w hO3n hf hh
      replace hO3n : OwnSl 49 2 v55 (i + 1) ((ps.take (i + 1)).flatMap fun _ => swC ((0 : Int), (0 : Int))) X3n := by
        rw [take_snoc hx, List.flatMap_append]
        simpa using hO3n
      obtain ⟨oa3, cp3, rfl⟩ := own_valW hO3n
      refine ops_end ?_
      refine then_n ⟨⟨fun _ _ => (AtE.of hh (by intro z hz; simp only [List.mem_cons, List.mem_append, List.not_mem_nil, or_false] at hz ⊢; rcases hz with h | h <;> simp [h])), trivial⟩, ?_⟩
      exact r12t s x ps dawn u B4 B6 B8 i q X9 X1n X2n X3n oa1 oa2 oa3 cp1 cp2 cp3 hx hi hn q4 hf (Keep.cons rfl (Keep.cons rfl (Keep.cons rfl (Keep.cons rfl (Keep.cons rfl (Keep.cons rfl (Keep.cons rfl (Keep.cons rfl (Keep.cons rfl (Keep.cons rfl (Keep.cons rfl (Keep.cons rfl (Keep.cons rfl (Keep.cons rfl (Keep.cons rfl (Keep.cons rfl (Keep.cons rfl (Keep.cons rfl (Keep.cons rfl (Keep.cons rfl (Keep.cons rfl (Keep.cons rfl (Keep.cons rfl (Keep.dup l0 (Keep.dup l5 (Keep.dup l6 (Keep.dup l8 (Keep.dup l9 Keep.base)))))))))))))))))))))))))))) (hh.perm (perm_sum fun f => by simp only [sum_cons9, sum_app9, sum_nil9]; omega)) rfl rfl rfl rfl rfl rfl fun a w oa4 cp4 X4n hO4n hh hf => hQ a w oa1 oa2 oa3 oa4 cp1 cp2 cp3 cp4 X1n X2n X3n X4n hO1n hO2n hO3n hO4n hh hf
    ·refine mc_e rfl fun Q1 => ?_
     refine ops_buildSl hf hh Tryz.bl_23_1 rfl rfl (.inl rfl) rfl ?_; clear hf hh a; intro B49 a w hf hh
     replace hh : Hp u [] ((B49, .cells #[.slice oa9 ps.length cp9] 22) :: _) w := hh
     refine ops_end ?_
     refine then_n ⟨⟨fun _ _ => (AtE.of hh (by intro z hz; simp only [List.mem_cons, List.mem_append, List.not_mem_nil, or_false] at hz ⊢; rcases hz with h | h <;> simp [h])), trivial⟩, ?_⟩
     refine mc_e rfl fun Q1 => ?_
     refine ops_buildSl hf hh Tryz.bl_22_1 rfl rfl (.inl rfl) rfl ?_; clear hf hh a; intro B44 a w hf hh
     replace hh : Hp u [] (tq2 B44 (farD s x) (farD s x) :: _) w := hh
     refine ops_end ?_
     refine then_n ⟨⟨fun _ _ => (AtE.of hh (by intro z hz; simp only [List.mem_cons, List.mem_append, List.not_mem_nil, or_false] at hz ⊢; rcases hz with h | h <;> simp [h])), trivial⟩, ?_⟩
     refine mc_e rfl fun Q1 => ?_
     have hh2 : Hp u [] (tq2 B44 (farD s x) (farD s x) :: (q.X1 ++ ([(B49, .cells #[.slice oa9 ps.length cp9] 22), tq2 B54 0 0, tq8 B8 x, tq6 B6 dawn q.v1 q.v2 q.v3 q.v4, tq4 B4] ++ (q.X2 ++ q.X3 ++ q.X4 ++ (X9 ++ q.Y))))) w := hh.perm (perm_sum fun f => by simp only [sum_cons9, sum_app9, sum_nil9]; omega)
     clear hh
     refine ops_append (v := q.v1) (e := 49) (size := 2) (xs := ((ps.take i).flatMap fun p => swC (dup (farD s p)))) (news := swC (dup (farD s x))) (X := q.X1) (m := i) (q := 1) hf hh2 Tryz.eb_22 rfl rfl q1 rfl rfl rfl (by simp only [maxLen]; omega) (by omega) (.inl rfl) rfl ?_; clear hf hh2 a; intro v45 X1n a w hO1n hf hh
     replace hO1n : OwnSl 49 2 v45 (i + 1) ((ps.take (i + 1)).flatMap fun p => swC (dup (farD s p))) X1n := by
       rw [take_snoc hx, List.flatMap_append]
       simpa using hO1n
     obtain ⟨oa1, cp1, rfl⟩ := own_valW hO1n
     refine ops_end ?_
     refine then_n ⟨⟨fun _ _ => (AtE.of hh (by intro z hz; simp only [List.mem_cons, List.mem_append, List.not_mem_nil, or_false] at hz ⊢; rcases hz with h | h <;> simp [h])), trivial⟩, ?_⟩
     refine mc_p rfl   hf (yv_fieldAddr Tryz.fo_25_1 rfl) (.inl rfl) rfl rfl ?_; clear hf a; intro a hf
     refine mc_e rfl fun Q1 => ?_
     have hh2 : Hp u [] ((B49, .cells #[.slice oa9 ps.length cp9] 22) :: (q.X2 ++ ([tq2 B54 0 0, tq8 B8 x, tq6 B6 dawn q.v1 q.v2 q.v3 q.v4, tq4 B4] ++ (X1n ++ q.X3 ++ q.X4 ++ (X9 ++ q.Y))))) w := hh.perm (perm_sum fun f => by simp only [sum_cons9, sum_app9, sum_nil9]; omega)
     clear hh
     refine ops_append (v := q.v2) (e := 22) (size := 1) (xs := rvs q.rows) (news := [.slice oa9 ps.length cp9]) (X := q.X2) (m := i) (q := 1) hf hh2 Tryz.eb_23 rfl rfl q2 rfl rfl rfl (by simp only [maxLen]; omega) (by omega) (.inl rfl) rfl ?_; clear hf hh2 a; intro v50 X2n a w hO2n hf hh
     replace hO2n : OwnSl 22 1 v50 (i + 1) (rvs (q.rows ++ [(wayR x ps, oa9, cp9)])) X2n := by
       have e : rvs (q.rows ++ [(wayR x ps, oa9, cp9)]) = rvs q.rows ++ [.slice oa9 ps.length cp9] := by
         unfold rvs
         rw [List.map_append]
         show _ ++ [Value.slice oa9 (wayR x ps).length cp9] = _
         rw [List.length_map]
       rw [e]; exact hO2n
     obtain ⟨oa2, cp2, rfl⟩ := own_valW hO2n
     refine ops_end ?_
     refine then_n ⟨⟨fun _ _ => (AtE.of hh (by intro z hz; simp only [List.mem_cons, List.mem_append, List.not_mem_nil, or_false] at hz ⊢; rcases hz with h | h <;> simp [h])), trivial⟩, ?_⟩
     refine mc_e rfl fun Q1 => ?_
     have hh2 : Hp u [] (tq2 B54 0 0 :: (q.X3 ++ ([tq8 B8 x, tq6 B6 dawn q.v1 q.v2 q.v3 q.v4, tq4 B4] ++ (X1n ++ X2n ++ q.X4 ++ (X9 ++ q.Y))))) w := hh.perm (perm_sum fun f => by simp only [sum_cons9, sum_app9, sum_nil9]; omega)
     clear hh
     refine ops_append (v := q.v3) (e := 49) (size := 2) (xs := ((ps.take i).flatMap fun _ => swC ((0 : Int), (0 : Int)))) (news := swC ((0 : Int), (0 : Int))) (X := q.X3) (m := i) (q := 1) hf hh2 Tryz.eb_22 rfl rfl q3 rfl rfl rfl (by simp only [maxLen]; omega) (by omega) (.inl rfl) rfl ?_; clear hf hh2 a; intro v55 X3n a w hO3n hf hh
     replace hO3n : OwnSl 49 2 v55 (i + 1) ((ps.take (i + 1)).flatMap fun _ => swC ((0 : Int), (0 : Int))) X3n := by
       rw [take_snoc hx, List.flatMap_append]
       simpa using hO3n
     obtain ⟨oa3, cp3, rfl⟩ := own_valW hO3n
     refine ops_end ?_
     refine then_n ⟨⟨fun _ _ => (AtE.of hh (by intro z hz; simp only [List.mem_cons, List.mem_append, List.not_mem_nil, or_false] at hz ⊢; rcases hz with h | h <;> simp [h])), trivial⟩, ?_⟩
     exact r12t s x ps dawn u B4 B6 B8 i q X9 X1n X2n X3n oa1 oa2 oa3 cp1 cp2 cp3 hx hi hn q4 hf (Keep.cons rfl (Keep.cons rfl (Keep.cons rfl (Keep.cons rfl (Keep.cons rfl (Keep.cons rfl (Keep.cons rfl (Keep.cons rfl (Keep.cons rfl (Keep.cons rfl (Keep.cons rfl (Keep.cons rfl (Keep.cons rfl (Keep.cons rfl (Keep.cons rfl (Keep.cons rfl (Keep.cons rfl (Keep.cons rfl (Keep.cons rfl (Keep.cons rfl (Keep.cons rfl (Keep.cons rfl (Keep.cons rfl (Keep.dup l0 (Keep.dup l5 (Keep.dup l6 (Keep.dup l8 (Keep.dup l9 Keep.base)))))))))))))))))))))))))))) (hh.perm (perm_sum fun f => by simp only [sum_cons9, sum_app9, sum_nil9]; omega)) rfl rfl rfl rfl rfl rfl fun a w oa4 cp4 X4n hO4n hh hf => hQ a w oa1 oa2 oa3 oa4 cp1 cp2 cp3 cp4 X1n X2n X3n X4n hO1n hO2n hO3n hO4n hh hf
   ·refine mc_e rfl fun Q1 => ?_
    refine ops_buildSl hf hh Tryz.bl_23_1 rfl rfl (.inl rfl) rfl ?_; clear hf hh a; intro B49 a w hf hh
    replace hh : Hp u [] ((B49, .cells #[.slice oa9 ps.length cp9] 22) :: _) w := hh
    refine ops_end ?_
    refine then_n ⟨⟨fun _ _ => (AtE.of hh (by intro z hz; simp only [List.mem_cons, List.mem_append, List.not_mem_nil, or_false] at hz ⊢; rcases hz with h | h <;> simp [h])), trivial⟩, ?_⟩
    refine mc_e rfl fun Q1 => ?_
    refine o_call hf Tryz.en_65 rfl rfl rfl (k65 s x w hsB hxB) ?_; clear hf a; intro v a w hR hf
    obtain ⟨rfl, hx7⟩ := hR; replace hh := hh.more hx7; clear hx7
    refine ops_end ?_
    refine then_n ⟨⟨fun _ _ => (AtE.of hh (by intro z hz; simp only [List.mem_cons, List.mem_append, List.not_mem_nil, or_false] at hz ⊢; rcases hz with h | h <;> simp [h])), trivial⟩, ?_⟩
    refine mc_e rfl fun Q1 => ?_
    refine ops_buildSl hf hh Tryz.bl_22_1 rfl rfl (.inl rfl) rfl ?_; clear hf hh a; intro B44 a w hf hh
    replace hh : Hp u [] (tq2 B44 (farD s x) (farD s x) :: _) w := hh
    refine ops_end ?_
    refine then_n ⟨⟨fun _ _ => (AtE.of hh (by intro z hz; simp only [List.mem_cons, List.mem_append, List.not_mem_nil, or_false] at hz ⊢; rcases hz with h | h <;> simp [h])), trivial⟩, ?_⟩
    refine mc_e rfl fun Q1 => ?_
    have hh2 : Hp u [] (tq2 B44 (farD s x) (farD s x) :: (q.X1 ++ ([(B49, .cells #[.slice oa9 ps.length cp9] 22), tq2 B54 0 0, tq8 B8 x, tq6 B6 dawn q.v1 q.v2 q.v3 q.v4, tq4 B4] ++ (q.X2 ++ q.X3 ++ q.X4 ++ (X9 ++ q.Y))))) w := hh.perm (perm_sum fun f => by simp only [sum_cons9, sum_app9, sum_nil9]; omega)
    clear hh
    refine ops_append (v := q.v1) (e := 49) (size := 2) (xs := ((ps.take i).flatMap fun p => swC (dup (farD s p)))) (news := swC (dup (farD s x))) (X := q.X1) (m := i) (q := 1) hf hh2 Tryz.eb_22 rfl rfl q1 rfl rfl rfl (by simp only [maxLen]; omega) (by omega) (.inl rfl) rfl ?_; clear hf hh2 a; intro v45 X1n a w hO1n hf hh
    replace hO1n : OwnSl 49 2 v45 (i + 1) ((ps.take (i + 1)).flatMap fun p => swC (dup (farD s p))) X1n := by
      rw [take_snoc hx, List.flatMap_append]
      simpa using hO1n
    obtain ⟨oa1, cp1, rfl⟩ := own_valW hO1n
    refine ops_end ?_
    refine then_n ⟨⟨fun _ _ => (AtE.of hh (by intro z hz; simp only [List.mem_cons, List.mem_append, List.not_mem_nil, or_false] at hz ⊢; rcases hz with h | h <;> simp [h])), trivial⟩, ?_⟩
    refine mc_p rfl   hf (yv_fieldAddr Tryz.fo_25_1 rfl) (.inl rfl) rfl rfl ?_; clear hf a; intro a hf
    refine mc_e rfl fun Q1 => ?_
    have hh2 : Hp u [] ((B49, .cells #[.slice oa9 ps.length cp9] 22) :: (q.X2 ++ ([tq2 B54 0 0, tq8 B8 x, tq6 B6 dawn q.v1 q.v2 q.v3 q.v4, tq4 B4] ++ (X1n ++ q.X3 ++ q.X4 ++ (X9 ++ q.Y))))) w := hh.perm (perm_sum fun f => by simp only [sum_cons9, sum_app9, sum_nil9]; omega)
    clear hh
    refine ops_append (v := q.v2) (e := 22) (size := 1) (xs := rvs q.rows) (news := [.slice oa9 ps.length cp9]) (X := q.X2) (m := i) (q := 1) hf hh2 Tryz.eb_23 rfl rfl q2 rfl rfl rfl (by simp only [maxLen]; omega) (by omega) (.inl rfl) rfl ?_; clear hf hh2 a; intro v50 X2n a w hO2n hf hh
    replace hO2n : OwnSl 22 1 v50 (i + 1) (rvs (q.rows ++ [(wayR x ps, oa9, cp9)])) X2n := by
      have e : rvs (q.rows ++ [(wayR x ps, oa9, cp9)]) = rvs q.rows ++ [.slice oa9 ps.length cp9] := by
        unfold rvs
        rw [List.map_append]
        show _ ++ [Value.slice oa9 (wayR x ps).length cp9] = _
        rw [List.length_map]
      rw [e]; exact hO2n
    obtain ⟨oa2, cp2, rfl⟩ := own_valW hO2n
    refine ops_end ?_
    refine then_n ⟨⟨fun _ _ => (AtE.of hh (by intro z hz; simp only [List.mem_cons, List.mem_append, List.not_mem_nil, or_false] at hz ⊢; rcases hz with h | h <;> simp [h])), trivial⟩, ?_⟩
    refine mc_e rfl fun Q1 => ?_
    have hh2 : Hp u [] (tq2 B54 0 0 :: (q.X3 ++ ([tq8 B8 x, tq6 B6 dawn q.v1 q.v2 q.v3 q.v4, tq4 B4] ++ (X1n ++ X2n ++ q.X4 ++ (X9 ++ q.Y))))) w := hh.perm (perm_sum fun f => by simp only [sum_cons9, sum_app9, sum_nil9]; omega)
    clear hh
    refine ops_append (v := q.v3) (e := 49) (size := 2) (xs := ((ps.take i).flatMap fun _ => swC ((0 : Int), (0 : Int)))) (news := swC ((0 : Int), (0 : Int))) (X := q.X3) (m := i) (q := 1) hf hh2 Tryz.eb_22 rfl rfl q3 rfl rfl rfl (by simp only [maxLen]; omega) (by omega) (.inl rfl) rfl ?_; clear hf hh2 a; intro v55 X3n a w hO3n hf hh
    replace hO3n : OwnSl 49 2 v55 (i + 1) ((ps.take (i + 1)).flatMap fun _ => swC ((0 : Int), (0 : Int))) X3n := by
      rw [take_snoc hx, List.flatMap_append]
      simpa using hO3n
    obtain ⟨oa3, cp3, rfl⟩ := own_valW hO3n
    refine ops_end ?_
    refine then_n ⟨⟨fun _ _ => (AtE.of hh (by intro z hz; simp only [List.mem_cons, List.mem_append, List.not_mem_nil, or_false] at hz ⊢; rcases hz with h | h <;> simp [h])), trivial⟩, ?_⟩
    exact r12t s x ps dawn u B4 B6 B8 i q X9 X1n X2n X3n oa1 oa2 oa3 cp1 cp2 cp3 hx hi hn q4 hf (Keep.cons rfl (Keep.cons rfl (Keep.cons rfl (Keep.cons rfl (Keep.cons rfl (Keep.cons rfl (Keep.cons rfl (Keep.cons rfl (Keep.cons rfl (Keep.cons rfl (Keep.cons rfl (Keep.cons rfl (Keep.cons rfl (Keep.cons rfl (Keep.cons rfl (Keep.cons rfl (Keep.cons rfl (Keep.cons rfl (Keep.cons rfl (Keep.cons rfl (Keep.cons rfl (Keep.cons rfl (Keep.cons rfl (Keep.dup l0 (Keep.dup l5 (Keep.dup l6 (Keep.dup l8 (Keep.dup l9 Keep.base)))))))))))))))))))))))))))) (hh.perm (perm_sum fun f => by simp only [sum_cons9, sum_app9, sum_nil9]; omega)) rfl rfl rfl rfl rfl rfl fun a w oa4 cp4 X4n hO4n hh hf => hQ a w oa1 oa2 oa3 oa4 cp1 cp2 cp3 cp4 X1n X2n X3n X4n hO1n hO2n hO3n hO4n hh hf
set_option maxRecDepth 100000 in
set_option maxHeartbeats 4000000 in
theorem k20 (s : Int × Int) (ps : List (Int × Int)) (so : Option Addr) (n co : Nat) (dawn : Int) (u : World) (hnl : n = ps.length + 1) (hco : ps.length + 1 ≤ co) (hL : SpAt u so (s :: ps)) (hB : ∀ x ∈ s :: ps, SpotB x) (hn : ps.length ≤ 6) : Calls Tryz.prog 20 #[.slice so n co, .int .i64 dawn] u (Ret fun v w' => ∃ (p : TPl) (X : List (Nat × Obj)), v = .agg (touC (strT s ps dawn) p) ∧ (∀ w2 : World, (∀ q ∈ X, w2.heap[q.1]? = some q.2) → TouAt w2 (strT s ps dawn) p) ∧ Hp u [] X w') := by
  subst hnl
  refine calls_of Tryz.func20 rfl rfl (fun a hf => ?_)
  have hh := Hp.init u []
  have hT := sp_tail hL hco
  obtain ⟨blk1, off1, cc1, T1, fr1, es1, hb1, hc1⟩ := hL 0 s rfl
  obtain ⟨sb, hsb⟩ : ∃ sb, sb = (if co = 1 then so else so.map (·.add (1 * 2))) := ⟨_, rfl⟩
  rw [← hsb] at hT
  subst es1
  refine sy_sq ?_
  refine o_alloc hf hh Tryz.ze_25 ?_; clear hf hh a; intro B4 a w hf hh
  refine o_end ?_
  refine sy_sq ?_
  refine o_v hf hh (yv_assign rfl) ?_; clear hf a; intro a hf
  refine o_end ?_
  refine sy_sq ?_
  refine o_v hf hh (yv_move rfl) ?_; clear hf a; intro a hf
  refine o_v hf hh (yv_buildS Tryz.bs_25 rfl rfl) ?_; clear hf a; intro a hf
  refine o_alloc hf hh Tryz.ze_25 ?_; clear hf hh a; intro B6 a w hf hh
  refine o_store hf hh Tryz.sz_25 fun w hh => ?_
  refine o_end ?_
  refine sy_seq ?_
  refine sy_seq ?_
  replace hh : Hp u [] [tq6 B6 dawn (.slice none 0 0) (.slice none 0 0) (.slice none 0 0) (.slice none 0 0), tq4 B4] w := hh
  refine sy_ops ?_
  refine o_v hf hh (yv_move rfl) ?_; clear hf a; intro a hf
  refine o_v hf hh (yv_cast (yv_lo (m := 1) Tryz.se_60 rfl rfl (by omega)) (show _ = Value.slice sb ps.length (co - 1) by rw [hsb]; rfl)) ?_; clear hf a; intro a hf
  refine o_v hf hh (yv_len Tryz.se_60 rfl) ?_; clear hf a; intro a hf
  refine o_v hf hh (yv_move rfl) ?_; clear hf a; intro a hf
  refine o_end ?_
  refine sy_block ?_
  refine sy_loopH (σ := Nat × TrQ) [8, 9, 11, 17, 18, 19, 20, 21, 22, 23, 24, 25, 26, 27, 28, 29, 30, 31, 32, 33, 34, 35, 36, 37, 38, 39, 40, 41, 42, 43, 44, 45, 46, 47, 48, 49, 50, 51, 52, 53, 54, 55, 56, 57, 58, 59, 60, 61, 62, 63, 64, 65] (fun q => [(17, .int .i64 (q.1 : Nat))]) (fun q => fun w' => q.1 ≤ ps.length ∧ OwnSl 49 2 q.2.v1 q.1 ((ps.take q.1).flatMap fun p => swC (dup (farD s p))) q.2.X1 ∧ OwnSl 22 1 q.2.v2 q.1 (rvs q.2.rows) q.2.X2 ∧ OwnSl 49 2 q.2.v3 q.1 ((ps.take q.1).flatMap fun _ => swC ((0 : Int), (0 : Int))) q.2.X3 ∧ OwnSl 49 2 q.2.v4 q.1 ((ps.take q.1).flatMap fun _ => swC ((0 : Int), (1440 : Int))) q.2.X4 ∧ q.2.rows.map Prod.fst = (ps.take q.1).map (fun p => wayR p ps) ∧ (∀ r ∈ q.2.rows, ∀ w2 : World, (∀ b9 ∈ q.2.Y, w2.heap[b9.1]? = some b9.2) → SpAt w2 r.2.1 r.1) ∧ Hp u [] (tq6 B6 dawn q.2.v1 q.2.v2 q.2.v3 q.2.v4 :: tq4 B4 :: (q.2.X1 ++ (q.2.X2 ++ (q.2.X3 ++ (q.2.X4 ++ q.2.Y))))) w') (fun q => ps.length - q.1) ((0, ⟨.slice none 0 0, .slice none 0 0, .slice none 0 0, .slice none 0 0, [], [], [], [], [], []⟩)) hf ?_ ?_ ?_
  · repeat' (first | exact True.intro | refine And.intro rfl ?_)
  · exact ⟨Nat.zero_le _, OwnSl.nil _ _, OwnSl.nil _ _, OwnSl.nil _ _, OwnSl.nil _ _, rfl, (fun r hr => by cases hr), hh⟩
  ·rintro q a w ⟨hi, q1, q2, q3, q4, q5, q6, hh⟩ hf
   obtain ⟨i, q⟩ := q; simp only at hi q1 q2 q3 q4 q5 q6 hh hf ⊢
   refine sy_sq ?_
   refine o_v hf hh (yv_bin rfl rfl rfl) ?_; clear hf a; intro a hf
   refine o_end ?_
   refine sy_seq ?_
   refine sy_cond hf rfl (fun hg3 => ?_) (fun hg3 => ?_)
   ·have hG3 := hg3; try simp only [gS] at hG3
    refine sy_skip ?_
    refine then_n ?_
    refine sy_cut (σ := TrQ) [8, 9, 11, 19, 20, 21, 22, 23, 24, 25, 26, 27, 28, 29, 30, 31, 32, 33, 34, 35, 36, 37, 38, 39, 40, 41, 42, 43, 44, 45, 46, 47, 48, 49, 50, 51, 52, 53, 54, 55, 56, 57, 58, 59, 60, 61, 62, 63, 64] (fun z => []) (fun z => fun w' => OwnSl 49 2 z.v1 (i + 1) ((ps.take (i + 1)).flatMap fun p => swC (dup (farD s p))) z.X1 ∧ OwnSl 22 1 z.v2 (i + 1) (rvs z.rows) z.X2 ∧ OwnSl 49 2 z.v3 (i + 1) ((ps.take (i + 1)).flatMap fun _ => swC ((0 : Int), (0 : Int))) z.X3 ∧ OwnSl 49 2 z.v4 (i + 1) ((ps.take (i + 1)).flatMap fun _ => swC ((0 : Int), (1440 : Int))) z.X4 ∧ z.rows.map Prod.fst = (ps.take (i + 1)).map (fun p => wayR p ps) ∧ (∀ r ∈ z.rows, ∀ w2 : World, (∀ b9 ∈ z.Y, w2.heap[b9.1]? = some b9.2) → SpAt w2 r.2.1 r.1) ∧ Hp u [] (tq6 B6 dawn z.v1 z.v2 z.v3 z.v4 :: tq4 B4 :: (z.X1 ++ (z.X2 ++ (z.X3 ++ (z.X4 ++ z.Y))))) w') hf ?_ ?_
    ·refine sy_block ?_
     refine sy_seq ?_
     obtain ⟨x, hx⟩ := ex_ofW (l := ps) (i := i) (by omega)
     obtain ⟨blk2, off2, cc2, T2, fr2, es2, hb2, hc2⟩ := hT i x hx
     have hxB := hB x (.tail _ (List.mem_of_getElem? hx))
     have hsB := hB s (.head _)
     refine sy_ops ?_
     refine o_v hf hh (y_ix Tryz.se_60 (congrArg (fun z => some (Value.slice z ps.length (co - 1))) es2) rfl) ?_; clear hf a; intro a hf
     refine o_v hf hh (y_lds Tryz.ag_110 rfl) ?_; clear hf a; intro a hf
     refine o_alloc hf hh Tryz.ze_110 ?_; clear hf hh a; intro B8 a w hf hh
     refine o_store hf hh Tryz.sz_110 fun w hh => ?_
     refine o_end ?_
     refine sy_seq ?_
     replace hh : Hp u [] (tq8 B8 x :: (tq6 B6 dawn q.v1 q.v2 q.v3 q.v4 :: tq4 B4 :: (q.X1 ++ (q.X2 ++ (q.X3 ++ (q.X4 ++ q.Y)))))) w := hh
     refine sy_ops ?_
     refine o_v hf hh (yv_assign rfl) ?_; clear hf a; intro a hf
     refine o_end ?_
     refine sy_seq ?_
     refine sy_sq ?_
     refine o_v hf hh (yv_move rfl) ?_; clear hf a; intro a hf
     refine o_v hf hh (yv_cast (yv_lo (m := 1) Tryz.se_60 rfl rfl (by omega)) (show _ = Value.slice sb ps.length (co - 1) by rw [hsb]; rfl)) ?_; clear hf a; intro a hf
     refine o_v hf hh (yv_len Tryz.se_60 rfl) ?_; clear hf a; intro a hf
     refine o_v hf hh (yv_move rfl) ?_; clear hf a; intro a hf
     refine o_end ?_
     refine sy_block ?_
     refine sy_loopH (σ := Nat × Value × List (Nat × Obj)) [9, 11, 24, 25, 26, 27, 28, 29, 30, 31, 32, 33, 34, 35] (fun z => [(24, .int .i64 (z.1 : Nat)), (9, z.2.1)]) (fun z => fun w' => z.1 ≤ ps.length ∧ OwnSl 49 2 z.2.1 z.1 ((ps.take z.1).flatMap fun y => swC (dup (farD x y))) z.2.2 ∧ Hp u [] (tq8 B8 x :: tq6 B6 dawn q.v1 q.v2 q.v3 q.v4 :: tq4 B4 :: (z.2.2 ++ (q.X1 ++ (q.X2 ++ (q.X3 ++ (q.X4 ++ q.Y)))))) w') (fun z => ps.length - z.1) ((0, .slice none 0 0, [])) hf ?_ ?_ ?_
     · repeat' (first | exact True.intro | refine And.intro rfl ?_)
     · exact ⟨Nat.zero_le _, OwnSl.nil _ _, hh⟩
     ·rintro z a w ⟨hj, hO9, hh⟩ hf
      obtain ⟨j, v9, X9⟩ := z; simp only at hj hO9 hh hf ⊢
      refine sy_sq ?_
      refine o_v hf hh (yv_bin rfl rfl rfl) ?_; clear hf a; intro a hf
      refine o_end ?_
      refine sy_seq ?_
      refine sy_cond hf rfl (fun hg7 => ?_) (fun hg7 => ?_)
      ·have hG7 := hg7; try simp only [gS] at hG7
       refine sy_skip ?_
       refine then_n ?_
       refine sy_seq ?_
       refine sy_block ?_
       refine sy_seq ?_
       obtain ⟨y, hy⟩ := ex_ofW (l := ps) (i := j) (by omega)
       obtain ⟨blk3, off3, cc3, T3, fr3, es3, hb3, hc3⟩ := hT j y hy
       have hyB := hB y (.tail _ (List.mem_of_getElem? hy))
       refine sy_ops ?_
       refine o_v hf hh (y_ix Tryz.se_60 (congrArg (fun z => some (Value.slice z ps.length (co - 1))) es3) rfl) ?_; clear hf a; intro a hf
       refine o_v hf hh (y_lds Tryz.ag_110 rfl) ?_; clear hf a; intro a hf
       refine o_alloc hf hh Tryz.ze_110 ?_; clear hf hh a; intro B11 a w hf hh
       refine o_store hf hh Tryz.sz_110 fun w hh => ?_
       refine o_end ?_
       refine sy_ops ?_
       refine o_v hf hh (yv_move rfl) ?_; clear hf a; intro a hf
       refine o_v hf hh (yv_move rfl) ?_; clear hf a; intro a hf
       refine o_v hf hh (y_lds Tryz.ag_110 rfl) ?_; clear hf a; intro a hf
       refine o_v hf hh (y_lds Tryz.ag_110 rfl) ?_; clear hf a; intro a hf
       refine o_call hf Tryz.en_65 rfl rfl rfl (k65 x y _ hxB hyB) ?_; clear hf a; intro v a w hR hf
       obtain ⟨rfl, hx⟩ := hR; replace hh := hh.more hx; clear hx
       refine ops_buildSl hf hh Tryz.bl_22_1 rfl rfl (.inl rfl) rfl ?_; clear hf hh; clear a; intro B33 a w hf hh
       replace hh : Hp u [] (tq2 B33 (farD x y) (farD x y) :: tq8 B11 y :: (tq8 B8 x :: tq6 B6 dawn q.v1 q.v2 q.v3 q.v4 :: tq4 B4 :: (X9 ++ (q.X1 ++ (q.X2 ++ (q.X3 ++ (q.X4 ++ q.Y))))))) w := hh
       replace hh := hh.perm (show List.Perm _ (tq2 B33 (farD x y) (farD x y) :: (X9 ++ ([tq8 B8 x, tq6 B6 dawn q.v1 q.v2 q.v3 q.v4, tq4 B4, tq8 B11 y] ++ (q.X1 ++ (q.X2 ++ (q.X3 ++ (q.X4 ++ q.Y))))))) from (perm_sum fun f => by simp only [sum_cons9, sum_app9, sum_nil9]; omega))
       refine ops_append (v := v9) (e := 49) (size := 2) (xs := (ps.take j).flatMap fun z => swC (dup (farD x z))) (news := swC (dup (farD x y))) (X := X9) (m := j) (q := 1) hf hh Tryz.eb_22 rfl rfl hO9 rfl rfl rfl (by simp only [maxLen]; omega) (by omega) (.inl rfl) rfl ?_; clear hf hh a; intro v9n X9n a w hO9n hf hh
       replace hO9n : OwnSl 49 2 v9n (j + 1) ((ps.take (j + 1)).flatMap fun z => swC (dup (farD x z))) X9n := by
         rw [take_snoc hy, List.flatMap_append]
         simpa using hO9n
       replace hh := hh.perm (show List.Perm _ (tq8 B11 y :: (tq8 B8 x :: tq6 B6 dawn q.v1 q.v2 q.v3 q.v4 :: tq4 B4 :: (X9n ++ (q.X1 ++ (q.X2 ++ (q.X3 ++ (q.X4 ++ q.Y))))))) from (perm_sum fun f => by simp only [sum_cons9, sum_app9, sum_nil9]; omega))
       refine o_v hf hh (yv_assign rfl) ?_; clear hf a; intro a hf
       refine ops_end ?_
       refine blk_n ?_
       refine then_n ?_
       refine sy_ops ?_
       refine o_v hf hh (y_add rfl rfl) ?_; clear hf a; intro a hf
       refine o_v hf hh (yv_move rfl) ?_; clear hf a; intro a hf
       refine ops_end ?_
       refine then_n ?_
       exact ⟨(j + 1, v9n, X9n), ⟨⟨by simp only; omega, hO9n, hh.less (.cons _ (.refl _))⟩, (hf.head (by repeat' (first | exact True.intro | refine And.intro rfl ?_)) (Keep.cons rfl (Keep.cons rfl (Keep.cons rfl (Keep.cons rfl (Keep.cons rfl (Keep.cons rfl (Keep.cons rfl (Keep.cons rfl (Keep.cons rfl (Keep.cons rfl (Keep.cons rfl (Keep.cons rfl (Keep.cons rfl (Keep.cons rfl (Keep.app rfl (Keep.rm rfl Keep.base)))))))))))))))))⟩, by simp only; omega⟩
      ·have hG7 := hg7; try simp only [gS] at hG7
       refine sy_exit ?_
       refine then_e ?_
       refine then_e ?_
       refine blk_e ?_
       refine then_n ?_
       obtain rfl : j = ps.length := by omega
       rw [List.take_length] at hO9
       obtain ⟨oa9, cp9, e9, hS9⟩ := own_sp (l := wayR x ps) (by unfold wayR; rw [List.flatMap_map]; exact hO9)
       have e9' : v9 = .slice oa9 ps.length cp9 := by rw [e9, List.length_map]
       clear e9
       subst e9' 
       refine r12 s x ps dawn u B4 B6 B8 i q oa9 cp9 X9 hxB hsB hx (by omega) hn q1 q2 q3 q4 hb1 hc1 hf hh rfl rfl rfl rfl rfl fun a w oa1 oa2 oa3 oa4 cp1 cp2 cp3 cp4 X1n X2n X3n X4n hO1n hO2n hO3n hO4n hh hf => ?_
       refine blk_n ?_
       refine then_n ?_
       refine ⟨⟨.slice oa1 (i + 1) cp1, .slice oa2 (i + 1) cp2, .slice oa3 (i + 1) cp3, .slice oa4 (i + 1) cp4, X1n, X2n, X3n, X4n, X9 ++ q.Y, q.rows ++ [(wayR x ps, oa9, cp9)]⟩, ⟨hO1n, hO2n, hO3n, hO4n, ?_, ?_, hh.less (.cons _ (.refl _))⟩, hf.head True.intro (Keep.app rfl (Keep.rm rfl (Keep.cons rfl (Keep.app rfl (Keep.rm rfl (Keep.cons rfl (Keep.cons rfl (Keep.cons rfl (Keep.cons rfl (Keep.cons rfl (Keep.cons rfl (Keep.cons rfl (Keep.cons rfl (Keep.base))))))))))))))⟩
       · rw [List.map_append, q5, take_map hx]; rfl
       · intro r hr w2 h2
         rcases List.mem_append.1 hr with hr | hr
         · exact q6 r hr w2 fun z hz => h2 z (List.mem_append_right _ hz)
         · rw [List.mem_singleton.1 hr]
           exact hS9 w2 fun z hz => h2 z (List.mem_append_left _ hz)
    ·rintro z a w ⟨q1n, q2n, q3n, q4n, q5n, q6n, hh⟩ hf
     refine sy_ops ?_
     refine o_v hf hh (y_add rfl rfl) ?_; clear hf a; intro a hf
     refine o_v hf hh (yv_move rfl) ?_; clear hf a; intro a hf
     refine ops_end ?_
     refine then_n ?_
     exact ⟨(i + 1, z), ⟨⟨by simp only; omega, q1n, q2n, q3n, q4n, q5n, q6n, hh⟩, (hf.head (by repeat' (first | exact True.intro | refine And.intro rfl ?_)) (Keep.cons rfl (Keep.cons rfl (Keep.app rfl (Keep.rm rfl (Keep.cons rfl (Keep.app rfl (Keep.rm rfl Keep.base))))))))⟩, by simp only; omega⟩
   ·have hG3 := hg3; try simp only [gS] at hG3
    refine sy_exit ?_
    refine then_e ?_
    refine then_e ?_
    refine blk_e ?_
    refine then_n ?_
    refine sy_seq ?_
    obtain rfl : i = ps.length := by omega
    rw [List.take_length] at q1 q3 q4 q5
    obtain ⟨oa1, cp1, e1, hS1⟩ := own_sp (l := ps.map fun p => dup (farD s p)) (by rw [List.flatMap_map]; exact q1)
    obtain ⟨oa3, cp3, e3, hS3⟩ := own_sp (l := ps.map fun _ => ((0 : Int), (0 : Int))) (by rw [List.flatMap_map]; exact q3)
    obtain ⟨oa4, cp4, e4, hS4⟩ := own_sp (l := ps.map fun _ => ((0 : Int), (1440 : Int))) (by rw [List.flatMap_map]; exact q4)
    obtain ⟨oa2, cp2, e2, hS2⟩ := own_rowsK q2
    have hrl : q.rows.length = ps.length := by
      have := congrArg List.length q5
      rw [List.length_map, List.length_map] at this; exact this
    rw [List.length_map] at e1 e3 e4
    rw [hrl] at e2
    rw [e1, e2, e3, e4] at hh
    refine sy_ops ?_
    refine o_v hf hh (y_lds Tryz.ag_25 rfl) ?_; clear hf a; intro a hf
    refine o_store hf hh Tryz.sz_25 fun w hh => ?_
    refine o_end ?_
    refine sy_ret ?_
    refine ret_c (vs := [.agg #[.int .i64 dawn, .slice oa1 ps.length cp1, .slice oa2 ps.length cp2, .slice oa3 ps.length cp3, .slice oa4 ps.length cp4]]) hf ?_ ?_
    · exact ⟨⟨B4, 0, _, _, _, rfl, hh.at (i := 1) rfl, .inr ⟨5, _, Tryz.ag_25, rfl, rfl⟩⟩, True.intro⟩
    · refine ⟨⟨oa1, oa2, oa3, oa4, cp1, cp2, cp3, cp4, q.rows⟩, q.X1 ++ (q.X2 ++ (q.X3 ++ (q.X4 ++ q.Y))), ?_, fun w2 h2 => str_at hn (hS1 w2 fun z hz => h2 z (by simp [hz])) (hS2 w2 fun z hz => h2 z (by simp [hz])) (fun r hr => q6 r hr w2 fun z hz => h2 z (by simp [hz])) q5 (hS3 w2 fun z hz => h2 z (by simp [hz])) (hS4 w2 fun z hz => h2 z (by simp [hz])), hh.less (.cons _ (.cons _ (.refl _)))⟩
      show Value.agg #[.int .i64 dawn, .slice oa1 ps.length cp1, .slice oa2 ps.length cp2, .slice oa3 ps.length cp3, .slice oa4 ps.length cp4] = Value.agg #[.int .i64 dawn, .slice oa1 (ps.map fun p => dup (farD s p)).length cp1, .slice oa2 (ps.map fun p => ps.map fun q => dup (farD p q)).length cp2, .slice oa3 (ps.map fun _ => ((0 : Int), (0 : Int))).length cp3, .slice oa4 (ps.map fun _ => ((0 : Int), (1440 : Int))).length cp4]
      rw [List.length_map, List.length_map, List.length_map, List.length_map]
end Go.Proofs.YtccpgpnekoncoaaGreat

namespace Go.ChaM
open Go Go.Sy
def smpL : List SiD := [⟨0, 1, 100, 104, 0, 2⟩, ⟨1, 2, 50, 52, -10, -8⟩, ⟨0, 2, 153, 160, -9, -5⟩]
def smp (n : Int) (l : List SiD) : ChD := ⟨n, smpL ++ l⟩
theorem sm7 : drwE (smp 3 []) = 0 := by kernel_rfl
theorem sm8 : drwL (smp 3 []) = [(0, 0), (101, 0), (153, -9)] := by kernel_rfl
end Go.ChaM

namespace Go.Proofs.YtccpgpnekoncoaaGreat
open Go Go.Sy Go.WalM Go.ChaM
theorem tat3 {w : World} {B : Nat} {fr : Nat × Nat} {T : TypeId} {cc : Array Value} {a b c : SiD} (hb : w.heap[B]? = some (.cells cc T fr)) (ec : cc = (siC a ++ (siC b ++ siC c)).toArray) : TAt 6 siC w (some ⟨B, 0, none⟩) [a, b, c] := fun i s hs => by
  subst ec
  match i, hs with
  | 0, hs => cases hs; exact ⟨B, 0, _, _, _, rfl, hb, rfl⟩
  | 1, hs => cases hs; exact ⟨B, 0, _, _, _, rfl, hb, rfl⟩
  | 2, hs => cases hs; exact ⟨B, 0, _, _, _, rfl, hb, rfl⟩
theorem smp_at {w : World} {sa : Option Addr} (h : TAt 6 siC w sa (smp 3 []).si) : ChAt w (smp 3 []) sa := by
  refine ⟨h, ⟨by decide, by decide⟩, by decide, fun s hs => ?_⟩
  have e : (smp 3 []).si = smpL := rfl
  rw [e] at hs
  simp only [smpL, List.mem_cons, List.not_mem_nil, or_false] at hs
  rcases hs with rfl | rfl | rfl <;> exact ⟨⟨by decide, by decide⟩, ⟨by decide, by decide⟩, ⟨by decide, by decide⟩, ⟨by decide, by decide⟩, ⟨by decide, by decide⟩, ⟨by decide, by decide⟩⟩
theorem k89 (x1 x2 x3 x4 x5 x6 : Int) (u : World) : Calls Tryz.prog 89 #[.int .i64 x1, .int .i64 x2, .int .i64 x3, .int .i64 x4, .int .i64 x5, .int .i64 x6] u (Ret fun v w' => v = siV ⟨x1, x2, x3, x4, x5, x6⟩ ∧ Ext [] u w') := by
  refine calls_of Tryz.func89 rfl rfl (fun a hf => ?_)
  have hh := Hp.init u []
  refine sy_sq ?_
  refine o_alloc hf hh Tryz.ze_106 ?_; clear hf hh a; intro B12 a w hf hh
  refine o_end ?_
  refine sy_sq ?_
  refine o_v hf hh (yv_move rfl) ?_; clear hf a; intro a hf
  refine o_v hf hh (yv_move rfl) ?_; clear hf a; intro a hf
  refine o_v hf hh (yv_move rfl) ?_; clear hf a; intro a hf
  refine o_v hf hh (yv_move rfl) ?_; clear hf a; intro a hf
  refine o_call hf Tryz.en_15 rfl rfl rfl (k15 x3 x4 w) ?_; clear hf a; intro v a w hR hf
  obtain ⟨rfl, hx⟩ := hR; replace hh := hh.more hx; clear hx
  refine o_v hf hh (yv_move rfl) ?_; clear hf a; intro a hf
  refine o_v hf hh (yv_move rfl) ?_; clear hf a; intro a hf
  refine o_call hf Tryz.en_15 rfl rfl rfl (k15 x5 x6 w) ?_; clear hf a; intro v a w hR hf
  obtain ⟨rfl, hx⟩ := hR; replace hh := hh.more hx; clear hx
  refine o_v hf hh (yv_buildS Tryz.bs_106 rfl rfl) ?_; clear hf a; intro a hf
  refine o_store hf hh Tryz.sz_106 fun w hh => ?_
  refine o_end ?_
  refine sy_ret ?_
  refine ret_c (vs := [siV ⟨x1, x2, x3, x4, x5, x6⟩]) hf ?_ ?_
  · exact ⟨⟨B12, 0, _, _, _, rfl, hh.at (i := 0) rfl, .inr ⟨6, _, Tryz.ag_106, rfl, rfl⟩⟩, True.intro⟩
  · exact ⟨rfl, hh.ext⟩
theorem k59 (u : World) : Calls Tryz.prog 59 #[] u (Ret fun v w' => ∃ (sa : Option Addr) (cp : Nat), v = .agg (chC (smp 3 []) sa cp) ∧ ChAt w' (smp 3 []) sa ∧ Ext [] u w') := by
  refine calls_of Tryz.func59 rfl rfl (fun a hf => ?_)
  have hh := Hp.init u []
  refine sy_sq ?_
  refine o_alloc hf hh Tryz.ze_57 ?_; clear hf hh a; intro B0 a w hf hh
  refine o_end ?_
  refine sy_sq ?_
  refine o_v hf hh (yv_assign rfl) ?_; clear hf a; intro a hf
  refine o_end ?_
  refine sy_sq ?_
  refine o_v hf hh (yv_move rfl) ?_; clear hf a; intro a hf
  refine o_call hf Tryz.en_89 rfl rfl rfl (k89 0 1 100 104 0 2 w) ?_; clear hf a; intro v a w hR hf
  obtain ⟨rfl, hx⟩ := hR; replace hh := hh.more hx; clear hx
  refine o_v hf hh (yv_move rfl) ?_; clear hf a; intro a hf
  refine o_call hf Tryz.en_89 rfl rfl rfl (k89 1 2 50 52 (-10) (-8) w) ?_; clear hf a; intro v a w hR hf
  obtain ⟨rfl, hx⟩ := hR; replace hh := hh.more hx; clear hx
  refine o_v hf hh (yv_move rfl) ?_; clear hf a; intro a hf
  refine o_call hf Tryz.en_89 rfl rfl rfl (k89 0 2 153 160 (-9) (-5) w) ?_; clear hf a; intro v a w hR hf
  obtain ⟨rfl, hx⟩ := hR; replace hh := hh.more hx; clear hx
  refine ops_buildSl hf hh Tryz.bl_55_3 rfl rfl (.inl rfl) rfl ?_; clear hf hh; clear a; intro B8 a w hf hh
  refine o_v hf hh (yv_buildS Tryz.bs_57 rfl rfl) ?_; clear hf a; intro a hf
  refine o_store hf hh Tryz.sz_57 fun w hh => ?_
  refine o_end ?_
  refine sy_ret ?_
  refine ret_c (vs := [.agg (chC (smp 3 []) (some ⟨B8, 0, none⟩) 3)]) hf ?_ ?_
  · exact ⟨⟨B0, 0, _, _, _, rfl, hh.at (i := 1) rfl, .inr ⟨2, _, Tryz.ag_57, rfl, rfl⟩⟩, True.intro⟩
  · exact ⟨_, _, rfl, smp_at (tat3 (hh.at (i := 0) rfl) rfl), hh.ext⟩
abbrev al7 : TourD := strT (0, 0) [(101, 0), (153, -9)] 0
theorem al1 : walN al7 [0, 1] = 2 := by kernel_rfl
theorem al2 : touB al7 = true := by kernel_rfl
theorem al3 : ordB al7.fr.length (ints [0, 1]) = true := by kernel_rfl
theorem vw01 {w : World} {B : Nat} {fr : Nat × Nat} {T : TypeId} (hb : w.heap[B]? = some (.cells #[.int .i64 0, .int .i64 1] T fr)) : VwAt w (some ⟨B, 0, none⟩) (ints [0, 1]) := fun i s hs =>
  match i, hs with
  | 0, hs => by cases hs; exact ⟨B, 0, _, _, _, rfl, hb, rfl⟩
  | 1, hs => by cases hs; exact ⟨B, 0, _, _, _, rfl, hb, rfl⟩
theorem spot3 : ∀ x ∈ [((0 : Int), (0 : Int)), (101, 0), (153, -9)], SpotB x := fun x hx => by
  simp only [List.mem_cons, List.not_mem_nil, or_false] at hx
  rcases hx with rfl | rfl | rfl <;> exact ⟨⟨by decide, by decide⟩, by decide, by decide⟩
theorem k18 (u : World) : Calls Tryz.prog 18 #[] u (Ret fun v w' => v = .bool true ∧ Ext [] u w') := by
  refine calls_of Tryz.func18 rfl rfl (fun a hf => ?_)
  have hh := Hp.init u []
  refine sy_sq ?_
  refine o_v hf hh (yv_assign rfl) ?_; clear hf a; intro a hf
  refine o_end ?_
  refine sy_sq ?_
  refine o_call hf Tryz.en_59 rfl rfl rfl (k59 u) ?_; clear hf a; intro v a w hR hf
  obtain ⟨sa, cp, rfl, hCA, hx⟩ := hR; replace hh := hh.more hx; clear hx
  refine o_call hf Tryz.en_19 rfl rfl rfl (p19 (smp 3 []) sa cp w hCA) ?_; clear hf a; intro v a w hR hf
  obtain ⟨so, co, e, hle, hT, hx⟩ := hR; replace hh := hh.more hx; clear hx
  rw [sm7, sm8] at e; rw [sm8] at hle hT
  replace e : v = .tuple #[.slice so 3 co, .int .i64 0] := e
  subst e
  refine o_v hf hh (yv_move rfl) ?_; clear hf a; intro a hf
  refine o_v hf hh (yv_extract rfl rfl) ?_; clear hf a; intro a hf
  refine o_v hf hh (yv_extract rfl rfl) ?_; clear hf a; intro a hf
  refine o_v hf hh (yv_assign rfl) ?_; clear hf a; intro a hf
  refine o_v hf hh (yv_assign rfl) ?_; clear hf a; intro a hf
  refine o_end ?_
  refine sy_seq ?_
  refine sy_seq ?_
  replace hT : SpAt w so [((0 : Int), (0 : Int)), (101, 0), (153, -9)] := hT
  have hE1 := hh.ext
  obtain ⟨u1, rfl⟩ : ∃ z, z = w := ⟨_, rfl⟩
  replace hh := Hp.init u1 []
  obtain ⟨blk1, off1, cc1, T1, fr1, es1, hb1, hc1⟩ := hT 1 (101, 0) rfl
  obtain ⟨blk2, off2, cc2, T2, fr2, es2, hb2, hc2⟩ := hT 2 (153, -9) rfl
  refine sy_ops ?_
  refine o_v hf hh (yv_move rfl) ?_; clear hf a; intro a hf
  refine o_v hf hh (yv_len Tryz.se_60 rfl) ?_; clear hf a; intro a hf
  refine o_v hf hh (yv_cast (yv_bin rfl rfl rfl) (show _ = Value.bool false by rfl)) ?_; clear hf a; intro a hf
  refine o_v hf hh (yv_move rfl) ?_; clear hf a; intro a hf
  refine o_v hf hh (yv_move rfl) ?_; clear hf a; intro a hf
  refine o_v hf hh (y_ix Tryz.se_60 (congrArg (fun z => some (Value.slice z 3 co)) es1) rfl) ?_; clear hf a; intro a hf
  refine o_v hf hh (y_lds Tryz.ag_110 rfl) ?_; clear hf a; intro a hf
  refine o_v hf hh (yv_buildS Tryz.bs_110 rfl rfl) ?_; clear hf a; intro a hf
  refine o_v hf hh (yv_cast (yv_neF [101, 0] [101, 0] (n := 2) (by kernel_rfl) rfl rfl) (show _ = Value.bool false by rfl)) ?_; clear hf a; intro a hf
  refine o_v hf hh (y_pf rfl rfl) ?_; clear hf a; intro a hf
  refine o_v hf hh (yv_move rfl) ?_; clear hf a; intro a hf
  refine o_v hf hh (yv_move rfl) ?_; clear hf a; intro a hf
  refine o_v hf hh (y_ix Tryz.se_60 (congrArg (fun z => some (Value.slice z 3 co)) es2) rfl) ?_; clear hf a; intro a hf
  refine o_v hf hh (y_lds Tryz.ag_110 rfl) ?_; clear hf a; intro a hf
  refine o_v hf hh (yv_buildS Tryz.bs_110 rfl rfl) ?_; clear hf a; intro a hf
  refine o_v hf hh (yv_cast (yv_neF [153, -9] [153, -9] (n := 2) (by kernel_rfl) rfl rfl) (show _ = Value.bool false by rfl)) ?_; clear hf a; intro a hf
  refine o_v hf hh (y_pf rfl rfl) ?_; clear hf a; intro a hf
  refine o_v hf hh (yv_move rfl) ?_; clear hf a; intro a hf
  refine o_v hf hh (yv_move rfl) ?_; clear hf a; intro a hf
  refine o_v hf hh (yv_cast (yv_bin rfl rfl rfl) (show _ = Value.bool false by rfl)) ?_; clear hf a; intro a hf
  refine o_v hf hh (y_pf rfl rfl) ?_; clear hf a; intro a hf
  refine o_end ?_
  refine c_f hf ?_
  refine sy_skip ?_
  refine then_n ?_
  refine sy_sq ?_
  refine o_v hf hh (yv_move rfl) ?_; clear hf a; intro a hf
  refine o_call hf Tryz.en_20 rfl rfl rfl (k20 (0, 0) [(101, 0), (153, -9)] so 3 co 0 _ rfl hle (hT.ext hh.ext) spot3 (by decide)) ?_; clear hf a; intro v a w hR hf
  obtain ⟨p, X, rfl, hTo, hX⟩ := hR; replace hh := hh.more hX.ext
  have hTA := hTo w hX.get
  have hE2 := hE1.trans hh.ext
  obtain ⟨u2, rfl⟩ : ∃ z, z = w := ⟨_, rfl⟩
  replace hh := Hp.init u2 []
  refine ops_buildSl hf hh Tryz.bl_28_2 rfl rfl (.inl rfl) rfl ?_; clear hf hh; clear a; intro B34 a w hf hh
  refine o_call hf Tryz.en_12 rfl rfl rfl (k12 al7 p w (hTA.ext hh.ext) al2 [0, 1] (some ⟨B34, 0, none⟩) 2 (vw01 (hh.at (i := 0) rfl)) al3 (by decide) (by decide)) ?_; clear hf a; intro v a w hR hf
  rw [al1] at hR
  obtain ⟨rfl, hx⟩ := hR; replace hh := hh.more hx; clear hx
  refine o_v hf hh (yv_move rfl) ?_; clear hf a; intro a hf
  refine o_v hf hh (yv_extract rfl rfl) ?_; clear hf a; intro a hf
  refine o_v hf hh (yv_extract rfl rfl) ?_; clear hf a; intro a hf
  refine o_v hf hh (yv_assign rfl) ?_; clear hf a; intro a hf
  refine o_v hf hh (yv_assign rfl) ?_; clear hf a; intro a hf
  refine o_end ?_
  refine sy_sq ?_
  refine o_v hf hh (yv_move rfl) ?_; clear hf a; intro a hf
  refine o_v hf hh (yv_cast (yv_bin rfl rfl rfl) (show _ = Value.bool true by rfl)) ?_; clear hf a; intro a hf
  refine o_v hf hh (yv_move rfl) ?_; clear hf a; intro a hf
  refine o_v hf hh (yv_move rfl) ?_; clear hf a; intro a hf
  refine o_v hf hh (yv_cast (yv_bin rfl rfl rfl) (show _ = Value.bool true by rfl)) ?_; clear hf a; intro a hf
  refine o_v hf hh (y_pt rfl rfl) ?_; clear hf a; intro a hf
  refine o_v hf hh (yv_assign rfl) ?_; clear hf a; intro a hf
  refine o_end ?_
  refine sy_ret ?_
  refine ret_r hf rfl rfl ?_
  exact ⟨rfl, hE2.trans hh.ext⟩
end Go.Proofs.YtccpgpnekoncoaaGreat

namespace Go.ChaM
open Go Go.Sy
end Go.ChaM

namespace Go.ChaM
open Go Go.Sy
structure ChIn (w : World) (c : ChD) (sa : Option Addr) : Prop where
  at_ : TAt 6 siC w sa c.si
  n : I64 c.n
  s : ∀ s ∈ c.si, SiI s
theorem ChIn.at {w : World} {c : ChD} {sa : Option Addr} (h : ChIn w c sa) (hl : ¬ 40 < c.si.length) : ChAt w c sa := ⟨h.at_, h.n, by omega, h.s⟩
theorem st_of {c : ChD} (hO : ChOk c) {i : Nat} (hi : i < c.n.toNat) : (stB c 0 && stB c (i : Int)) = true := by
  have := hO.n1
  unfold stB inC; simp only [Bool.and_eq_true, decide_eq_true_eq]; omega
theorem drw_12 {c : ChD} (hO : ChOk c) (hw : wrL c = []) : ∀ k, k ≤ c.n.toNat → drwG c k = 0 ∨ drwG c k = 12
  | 0, _ => .inl rfl
  | k + 1, hk => by
    rw [drwG]
    split
    · unfold betE
      rw [if_neg (by rw [chB_iff.2 hO]; decide), if_neg (by rw [st_of hO (by omega)]; decide), if_neg (by rw [hw]; simp)]
      split
      · exact .inr rfl
      · exact .inl rfl
    · exact drw_12 hO hw k (by omega)
theorem why_e {c : ChD} (h : chB c = true) : whyE c = if wrL c = [] then 0 else 11 := by unfold whyE; rw [if_neg (by rw [h]; decide)]
theorem drw_bad {c : ChD} (h : drwE c ≠ 0) : (drwL c).length = 0 ∧ ((drwE c = 1 ∧ chB c = false ∧ whyE c = 1) ∨ (chB c = true ∧ drwE c = 4 ∧ whyE c = 11) ∨ (chB c = true ∧ drwE c = 12 ∧ whyE c = 0)) := by
  refine ⟨by rw [drwL_no rfl h]; rfl, ?_⟩
  cases hb : chB c with
  | false => exact .inl ⟨drwE1 hb, rfl, by unfold whyE; rw [if_pos hb]⟩
  | true =>
    right
    have hO := chB_iff.1 hb
    have h1 := hO.n1
    rw [why_e hb]
    by_cases hw : wrL c = []
    · right
      refine ⟨rfl, ?_, if_pos hw⟩
      have h2 : drwE c = drwG c c.n.toNat := by unfold drwE; rw [if_neg (by rw [hb]; decide)]
      rcases drw_12 hO hw c.n.toNat (Nat.le_refl _) with h3 | h3
      · exact absurd (h2.trans h3) h
      · exact h2.trans h3
    · left
      refine ⟨rfl, drwE_at hb (i := 0) (by omega) rfl ?_ (by decide), if_neg hw⟩
      unfold betE
      rw [if_neg (by rw [hb]; decide), if_neg (by rw [st_of hO (i := 0) (by omega)]; decide), if_pos hw]
theorem drw_good {c : ChD} (h : drwE c = 0) : chB c = true ∧ whyE c = 0 ∧ ChOk c ∧ wrL c = [] ∧ (∀ i : Nat, i < c.n.toNat → betE c 0 (i : Int) = 0) ∧ (drwL c).length = c.n.toNat ∧ (∀ i, i < c.n.toNat → (drwL c)[i]? = some (drwP c i)) ∧ drwP c 0 = (0, 0) := by
  have hb : chB c = true := by
    cases hb : chB c with
    | false => rw [drwE1 hb] at h; cases h
    | true => rfl
  have hO := chB_iff.1 hb
  have h1 := hO.n1
  have h2 : drwG c c.n.toNat = 0 := by unfold drwE at h; rw [if_neg (by rw [hb]; decide)] at h; exact h
  have h3 : ∀ i : Nat, i < c.n.toNat → betE c 0 (i : Int) = 0 := drwG_zero.1 h2
  obtain ⟨_, hw, _⟩ := bet_ok (h3 0 (by omega))
  refine ⟨hb, by rw [why_e hb, if_pos hw], hO, hw, h3, by rw [drwL_ok h]; simp, fun i hi => ?_, ?_⟩
  · rw [drwL_ok h, List.getElem?_map, List.getElem?_range hi]; rfl
  · have e := h3 0 (by omega)
    show ((betV c false 0 ((0 : Nat) : Int)).1, (betV c true 0 ((0 : Nat) : Int)).1) = (0, 0)
    rw [show ((0 : Nat) : Int) = 0 from rfl] at e ⊢
    rw [bet_self e, bet_self e]
theorem drwP_bd {c : ChD} (hO : ChOk c) {i : Nat} (h : betE c 0 (i : Int) = 0) : (-1099511627776 ≤ (drwP c i).1 ∧ (drwP c i).1 ≤ 1099511627776) ∧ -1099511627776 ≤ (drwP c i).2 ∧ (drwP c i).2 ≤ 1099511627776 := by
  have h1 := bndV_bd hO false noneS i 0
  have h2 := bndV_bd hO true noneS i 0
  rw [drwP_of h]
  simp only
  omega
end Go.ChaM

namespace Go.Proofs.YtccpgpnekoncoaaGreat
open Go Go.Sy Go.WalM Go.ChaM
set_option maxRecDepth 100000 in
theorem k4a (c : ChD) (sa : Option Addr) (cp : Nat) (k : Int) (u : World) (hI : ChIn u c sa) (hlen : c.si.length ≤ 9223372036854775807) (hno : ¬ (c.si.length ≤ 10 ∧ chB c = true ∧ 2 ≤ c.n ∧ c.n ≤ 7)) : Calls Tryz.prog 4 #[.agg (chC c sa cp), .int .u16 k] u (Ret fun v w' => v = .bool true ∧ Ext [] u w') := by
  refine calls_of Tryz.func4 rfl rfl (fun a hf => ?_)
  have hh := Hp.init u []
  have hN := hI.n
  refine sy_sq ?_
  refine o_box hf hh ?_; clear hf hh a; intro B2 a w hf hh
  refine o_v hf hh (yv_assign rfl) ?_; clear hf a; intro a hf
  refine o_end ?_
  refine sy_seq ?_
  refine sy_sq ?_
  refine o_v hf hh (yv_fieldAddr Tryz.fo_57_1 rfl) ?_; clear hf a; intro a hf
  refine o_v hf hh (y_ld Tryz.sc_55 rfl) ?_; clear hf a; intro a hf
  refine o_v hf hh (yv_len Tryz.se_55 rfl) ?_; clear hf a; intro a hf
  refine o_v hf hh (yv_bin rfl rfl rfl) ?_; clear hf a; intro a hf
  refine o_v hf hh (yv_move rfl) ?_; clear hf a; intro a hf
  refine guard_split hf (t := 29) rfl (fun hg2 => ?_) (fun hg2 => ?_)
  ·have hG2 := hg2; try simp only [gS] at hG2
   refine o_off hf ?_; clear hf a; intro a hf
   refine o_off hf ?_; clear hf a; intro a hf
   refine o_off hf ?_; clear hf a; intro a hf
   refine o_v hf hh (y_pt rfl rfl) ?_; clear hf a; intro a hf
   refine o_v hf hh (yv_move rfl) ?_; clear hf a; intro a hf
   refine o_off hf ?_; clear hf a; intro a hf
   refine o_off hf ?_; clear hf a; intro a hf
   refine o_off hf ?_; clear hf a; intro a hf
   refine o_v hf hh (y_pt rfl rfl) ?_; clear hf a; intro a hf
   refine o_v hf hh (yv_move rfl) ?_; clear hf a; intro a hf
   refine o_off hf ?_; clear hf a; intro a hf
   refine o_off hf ?_; clear hf a; intro a hf
   refine o_off hf ?_; clear hf a; intro a hf
   refine o_v hf hh (y_pt rfl rfl) ?_; clear hf a; intro a hf
   refine o_end ?_
   refine c_t hf ?_
   refine sy_sq ?_
   refine o_call hf Tryz.en_18 rfl rfl rfl (k18 w) ?_; clear hf a; intro v a w hR hf
   obtain ⟨rfl, hx⟩ := hR; replace hh := hh.more hx; clear hx
   refine o_v hf hh (yv_assign rfl) ?_; clear hf a; intro a hf
   refine o_end ?_
   refine sy_ret ?_
   refine then_r ?_
   refine ret_r hf rfl rfl ?_
   exact ⟨rfl, hh.ext⟩
  ·have hG2 := hg2; try simp only [gS] at hG2
   refine o_v hf hh (y_lds Tryz.ag_57 rfl) ?_; clear hf a; intro a hf
   refine o_call hf Tryz.en_17 rfl rfl rfl (k17 c sa cp w ((hI.at (by simp_all <;> omega)).ext hh.ext)) ?_; clear hf a; intro v a w hR hf
   obtain ⟨rfl, hx⟩ := hR; replace hh := hh.more hx; clear hx
   refine o_v hf hh (yv_not rfl) ?_; clear hf a; intro a hf
   refine o_v hf hh (y_pf rfl rfl) ?_; clear hf a; intro a hf
   refine o_v hf hh (yv_move rfl) ?_; clear hf a; intro a hf
   refine guard_split hf (t := 34) rfl (fun hg5 => ?_) (fun hg5 => ?_)
   ·have hG5 := hg5; try simp only [gS] at hG5
    refine o_off hf ?_; clear hf a; intro a hf
    refine o_off hf ?_; clear hf a; intro a hf
    refine o_off hf ?_; clear hf a; intro a hf
    refine o_v hf hh (y_pt rfl rfl) ?_; clear hf a; intro a hf
    refine o_v hf hh (yv_move rfl) ?_; clear hf a; intro a hf
    refine o_off hf ?_; clear hf a; intro a hf
    refine o_off hf ?_; clear hf a; intro a hf
    refine o_off hf ?_; clear hf a; intro a hf
    refine o_v hf hh (y_pt rfl rfl) ?_; clear hf a; intro a hf
    refine o_end ?_
    refine c_t hf ?_
    refine sy_sq ?_
    refine o_call hf Tryz.en_18 rfl rfl rfl (k18 w) ?_; clear hf a; intro v a w hR hf
    obtain ⟨rfl, hx⟩ := hR; replace hh := hh.more hx; clear hx
    refine o_v hf hh (yv_assign rfl) ?_; clear hf a; intro a hf
    refine o_end ?_
    refine sy_ret ?_
    refine then_r ?_
    refine ret_r hf rfl rfl ?_
    exact ⟨rfl, hh.ext⟩
   ·have hG5 := hg5; try simp only [gS] at hG5
    refine o_v hf hh (yv_fieldAddr Tryz.fo_57_0 rfl) ?_; clear hf a; intro a hf
    refine o_v hf hh (y_ld Tryz.sc_3 rfl) ?_; clear hf a; intro a hf
    refine o_v hf hh (yv_bin rfl rfl rfl) ?_; clear hf a; intro a hf
    refine o_v hf hh (y_pf rfl rfl) ?_; clear hf a; intro a hf
    refine o_v hf hh (yv_move rfl) ?_; clear hf a; intro a hf
    refine guard_split hf (t := 39) rfl (fun hg8 => ?_) (fun hg8 => ?_)
    ·have hG8 := hg8; try simp only [gS] at hG8
     refine o_off hf ?_; clear hf a; intro a hf
     refine o_off hf ?_; clear hf a; intro a hf
     refine o_off hf ?_; clear hf a; intro a hf
     refine o_v hf hh (y_pt rfl rfl) ?_; clear hf a; intro a hf
     refine o_end ?_
     refine c_t hf ?_
     refine sy_sq ?_
     refine o_call hf Tryz.en_18 rfl rfl rfl (k18 w) ?_; clear hf a; intro v a w hR hf
     obtain ⟨rfl, hx⟩ := hR; replace hh := hh.more hx; clear hx
     refine o_v hf hh (yv_assign rfl) ?_; clear hf a; intro a hf
     refine o_end ?_
     refine sy_ret ?_
     refine then_r ?_
     refine ret_r hf rfl rfl ?_
     exact ⟨rfl, hh.ext⟩
    ·have hG8 := hg8; try simp only [gS] at hG8
     refine o_v hf hh (yv_fieldAddr Tryz.fo_57_0 rfl) ?_; clear hf a; intro a hf
     refine o_v hf hh (y_ld Tryz.sc_3 rfl) ?_; clear hf a; intro a hf
     refine o_v hf hh (yv_bin rfl rfl rfl) ?_; clear hf a; intro a hf
     refine o_v hf hh (y_pf rfl rfl) ?_; clear hf a; intro a hf
     refine o_end ?_
     refine sy_cond hf rfl (fun hg11 => ?_) (fun hg11 => ?_)
     ·have hG11 := hg11; try simp only [gS] at hG11
      refine sy_sq ?_
      refine o_call hf Tryz.en_18 rfl rfl rfl (k18 w) ?_; clear hf a; intro v a w hR hf
      obtain ⟨rfl, hx⟩ := hR; replace hh := hh.more hx; clear hx
      refine o_v hf hh (yv_assign rfl) ?_; clear hf a; intro a hf
      refine o_end ?_
      refine sy_ret ?_
      refine then_r ?_
      refine ret_r hf rfl rfl ?_
      exact ⟨rfl, hh.ext⟩
     ·have hG11 := hg11; try simp only [gS] at hG11
      refine sy_skip ?_
      refine then_n ?_
      exact absurd ⟨by simp_all <;> omega, by simp_all, by simp_all <;> omega, by simp_all <;> omega⟩ hno
set_option maxRecDepth 100000 in
theorem k4b (c : ChD) (sa : Option Addr) (cp : Nat) (k : Int) (u : World) (hI : ChIn u c sa) (hL : c.si.length ≤ 10) (hb : chB c = true) (hn2 : 2 ≤ c.n) (hn7 : c.n ≤ 7) (he : drwE c ≠ 0) : Calls Tryz.prog 4 #[.agg (chC c sa cp), .int .u16 k] u (Ret fun v w' => v = .bool true ∧ Ext [] u w') := by
  refine calls_of Tryz.func4 rfl rfl (fun a hf => ?_)
  have hh := Hp.init u []
  have hA : ChAt u c sa := hI.at (by omega)
  obtain ⟨hl0, hbad⟩ := drw_bad he
  replace hbad : drwE c = 4 ∨ drwE c = 12 := by
    rcases hbad with h | h | h
    · rw [hb] at h; exact absurd h.2.1 (by decide)
    · exact .inl h.2.1
    · exact .inr h.2.1
  refine sy_sq ?_
  refine o_box hf hh ?_; clear hf hh a; intro B2 a w hf hh
  refine o_v hf hh (yv_assign rfl) ?_; clear hf a; intro a hf
  refine o_end ?_
  refine sy_seq ?_
  refine sy_sq ?_
  refine o_v hf hh (yv_fieldAddr Tryz.fo_57_1 rfl) ?_; clear hf a; intro a hf
  refine o_v hf hh (y_ld Tryz.sc_55 rfl) ?_; clear hf a; intro a hf
  refine o_v hf hh (yv_len Tryz.se_55 rfl) ?_; clear hf a; intro a hf
  refine o_v hf hh (yv_cast (yv_bin rfl rfl rfl) (show _ = Value.bool false by refine congrArg Value.bool ?_; simp only [decide_eq_false_iff_not, Bool.not_eq_false', decide_eq_true_eq] <;> omega)) ?_; clear hf a; intro a hf
  refine o_v hf hh (yv_move rfl) ?_; clear hf a; intro a hf
  refine o_v hf hh (y_lds Tryz.ag_57 rfl) ?_; clear hf a; intro a hf
  refine o_call hf Tryz.en_17 rfl rfl rfl (k17 c sa cp w (hA.ext hh.ext)) ?_; clear hf a; intro v a w hR hf
  rw [hb] at hR
  obtain ⟨rfl, hx⟩ := hR; replace hh := hh.more hx; clear hx
  refine o_v hf hh (yv_not rfl) ?_; clear hf a; intro a hf
  refine o_v hf hh (y_pf rfl rfl) ?_; clear hf a; intro a hf
  refine o_v hf hh (yv_move rfl) ?_; clear hf a; intro a hf
  refine o_v hf hh (yv_fieldAddr Tryz.fo_57_0 rfl) ?_; clear hf a; intro a hf
  refine o_v hf hh (y_ld Tryz.sc_3 rfl) ?_; clear hf a; intro a hf
  refine o_v hf hh (yv_cast (yv_bin rfl rfl rfl) (show _ = Value.bool false by refine congrArg Value.bool ?_; simp only [decide_eq_false_iff_not, Bool.not_eq_false', decide_eq_true_eq] <;> omega)) ?_; clear hf a; intro a hf
  refine o_v hf hh (y_pf rfl rfl) ?_; clear hf a; intro a hf
  refine o_v hf hh (yv_move rfl) ?_; clear hf a; intro a hf
  refine o_v hf hh (yv_fieldAddr Tryz.fo_57_0 rfl) ?_; clear hf a; intro a hf
  refine o_v hf hh (y_ld Tryz.sc_3 rfl) ?_; clear hf a; intro a hf
  refine o_v hf hh (yv_cast (yv_bin rfl rfl rfl) (show _ = Value.bool false by refine congrArg Value.bool ?_; simp only [decide_eq_false_iff_not, Bool.not_eq_false', decide_eq_true_eq] <;> omega)) ?_; clear hf a; intro a hf
  refine o_v hf hh (y_pf rfl rfl) ?_; clear hf a; intro a hf
  refine o_end ?_
  refine c_f hf ?_
  refine sy_skip ?_
  refine then_n ?_
  refine sy_sq ?_
  refine o_v hf hh (y_lds Tryz.ag_57 rfl) ?_; clear hf a; intro a hf
  refine o_call hf Tryz.en_19 rfl rfl rfl (p19 c sa cp w (hA.ext hh.ext)) ?_; clear hf a; intro v a w hR hf
  obtain ⟨so, co, rfl, hle, hT, hx⟩ := hR; replace hh := hh.more hx; clear hx
  have hE1 := hh.ext
  have hb2 : w.heap[B2]? = some (.cells (chC c sa cp) 57 (0, 0)) := hh.at (i := 0) rfl
  obtain ⟨u1, rfl⟩ : ∃ z, z = w := ⟨_, rfl⟩
  replace hh := Hp.init u1 []
  refine o_v hf hh (yv_move rfl) ?_; clear hf a; intro a hf
  refine o_v hf hh (yv_extract rfl rfl) ?_; clear hf a; intro a hf
  refine o_v hf hh (yv_extract rfl rfl) ?_; clear hf a; intro a hf
  refine o_v hf hh (yv_assign rfl) ?_; clear hf a; intro a hf
  refine o_v hf hh (yv_assign rfl) ?_; clear hf a; intro a hf
  refine o_end ?_
  refine sy_seq ?_
  refine sy_sq ?_
  refine o_v hf hh (yv_move rfl) ?_; clear hf a; intro a hf
  refine o_v hf hh (yv_cast (yv_bin rfl rfl rfl) (show _ = Value.bool true by refine congrArg Value.bool ?_; simp only [decide_eq_false_iff_not, Bool.not_eq_true', decide_eq_true_eq] <;> omega)) ?_; clear hf a; intro a hf
  refine o_end ?_
  refine c_t hf ?_
  refine sy_sq ?_
  refine o_v hf hh (yv_move rfl) ?_; clear hf a; intro a hf
  refine o_v hf hh (yv_len Tryz.se_60 rfl) ?_; clear hf a; intro a hf
  refine o_v hf hh (yv_cast (yv_bin rfl rfl rfl) (show _ = Value.bool true by refine congrArg Value.bool ?_; simp only [decide_eq_false_iff_not, Bool.not_eq_true', decide_eq_true_eq] <;> omega)) ?_; clear hf a; intro a hf
  refine o_v hf hh (yv_move rfl) ?_; clear hf a; intro a hf
  refine o_v hf hh (yv_move rfl) ?_; clear hf a; intro a hf
  refine o_v hf hh (yv_bin rfl rfl rfl) ?_; clear hf a; intro a hf
  refine o_v hf hh (yv_move rfl) ?_; clear hf a; intro a hf
  refine guard_split hf (t := 58) rfl (fun hg5 => ?_) (fun hg5 => ?_)
  ·have hG5 := hg5; try simp only [gS] at hG5
   refine o_off hf ?_; clear hf a; intro a hf
   refine o_off hf ?_; clear hf a; intro a hf
   refine o_v hf hh (y_pt rfl rfl) ?_; clear hf a; intro a hf
   refine o_v hf hh (y_pt rfl rfl) ?_; clear hf a; intro a hf
   refine o_v hf hh (yv_move rfl) ?_; clear hf a; intro a hf
   refine o_call hf Tryz.en_18 rfl rfl rfl (k18 _) ?_; clear hf a; intro v a w hR hf
   obtain ⟨rfl, hx⟩ := hR; replace hh := hh.more hx; clear hx
   refine o_v hf hh (y_pt rfl rfl) ?_; clear hf a; intro a hf
   refine o_v hf hh (yv_assign rfl) ?_; clear hf a; intro a hf
   refine o_end ?_
   refine sy_ret ?_
   refine then_r ?_
   refine ret_r hf rfl rfl ?_
   first
     | exact ⟨rfl, hE1.trans hh.ext⟩
     | (exfalso; simp_all)
  ·have hG5 := hg5; try simp only [gS] at hG5
   refine o_v hf hh (yv_move rfl) ?_; clear hf a; intro a hf
   refine o_v hf hh (yv_bin rfl rfl rfl) ?_; clear hf a; intro a hf
   refine o_v hf hh (y_pf rfl rfl) ?_; clear hf a; intro a hf
   refine o_v hf hh (y_pt rfl rfl) ?_; clear hf a; intro a hf
   refine o_v hf hh (yv_move rfl) ?_; clear hf a; intro a hf
   refine guard_split hf (t := 63) rfl (fun hg8 => ?_) (fun hg8 => ?_)
   ·have hG8 := hg8; try simp only [gS] at hG8
    refine o_call hf Tryz.en_18 rfl rfl rfl (k18 _) ?_; clear hf a; intro v a w hR hf
    obtain ⟨rfl, hx⟩ := hR; replace hh := hh.more hx; clear hx
    refine o_v hf hh (y_pt rfl rfl) ?_; clear hf a; intro a hf
    refine o_v hf hh (yv_assign rfl) ?_; clear hf a; intro a hf
    refine o_end ?_
    refine sy_ret ?_
    refine then_r ?_
    refine ret_r hf rfl rfl ?_
    first
      | exact ⟨rfl, hE1.trans hh.ext⟩
      | (exfalso; simp_all)
   ·have hG8 := hg8; try simp only [gS] at hG8
    refine o_off hf ?_; clear hf a; intro a hf
    refine o_v hf hh (y_pf rfl rfl) ?_; clear hf a; intro a hf
    refine o_v hf hh (yv_assign rfl) ?_; clear hf a; intro a hf
    refine o_end ?_
    refine sy_ret ?_
    refine then_r ?_
    refine ret_r hf rfl rfl ?_
    first
      | exact ⟨rfl, hE1.trans hh.ext⟩
      | (exfalso; simp_all)
end Go.Proofs.YtccpgpnekoncoaaGreat

namespace Go.Proofs.YtccpgpnekoncoaaGreat
open Go Go.Sy Go.WalM Go.ChaM
theorem ords_iff {t : TourD} {l : List Nat} : ordB t.fr.length (ints l) = true ↔ OrdB t l := by
  rw [ordB_iff]
  unfold OrdB ints
  constructor
  · rintro ⟨h1, h2⟩
    refine ⟨fun v hv => by have := (h1 _ (List.mem_map_of_mem hv)).2; show v < t.fr.length; omega, List.Pairwise.of_map _ (fun a b h e => h (by rw [e])) h2⟩
  · rintro ⟨h1, h2⟩
    refine ⟨fun v hv => ?_, ?_⟩
    · obtain ⟨x, hx, rfl⟩ := List.mem_map.1 hv
      have h3 : x < t.fr.length := h1 x hx
      omega
    · exact List.Pairwise.map _ (fun a b h e => h (by omega)) h2
theorem ord_le {t : TourD} {l : List Nat} (h : OrdB t l) : l.length ≤ t.fr.length := nodup_le h.1 h.2
theorem str_setup {c : ChD} (hn2 : 2 ≤ c.n) (he : drwE c = 0) : ∃ s ps, drwL c = s :: ps ∧ ps.length + 1 = c.n.toNat ∧ ∀ x ∈ s :: ps, SpotB x := by
  obtain ⟨_, _, hO, _, hB, hl, hg, _⟩ := drw_good he
  match hL : drwL c, hl with
  | [], hl => rw [List.length_nil] at hl; omega
  | s :: ps, hl =>
    refine ⟨s, ps, rfl, hl, fun x hx => ?_⟩
    obtain ⟨i, hi⟩ := List.mem_iff_getElem?.1 hx
    have hi2 : i < c.n.toNat := by rw [← hl]; exact (List.getElem?_eq_some_iff.1 hi).1
    have h2 := hg i hi2
    rw [hL, hi] at h2
    have e : x = drwP c i := by simpa using h2
    rw [e]
    exact drwP_bd hO (hB i hi2)
theorem sp_two {w : World} {sa : Option Addr} {l : List (Int × Int)} {i : Nat} {s : Int × Int} (h : SpAt w sa l) (hi : l[i]? = some s) : ∃ blk off c T fr, sa = some ⟨blk, off, none⟩ ∧ w.heap[blk]? = some (.cells c T fr) ∧ cellsAt c (off + ((i : Nat) : Int).toNat * 2) 2 = some (swC s) ∧ c[off + ((i : Nat) : Int).toNat * 2]? = some (.int .i64 s.1) ∧ c[off + ((i : Nat) : Int).toNat * 2 + 1]? = some (.int .i64 s.2) := by
  obtain ⟨blk, off, c, T, fr, h1, h2, h3⟩ := h i s hi
  have := (cellsAt_get 2 _ _ h3).2
  exact ⟨blk, off, c, T, fr, h1, h2, h3, this 0 _ rfl, this 1 _ rfl⟩
theorem sp0_get {l : List (Int × Int)} {v : Nat} (h : v < l.length) : l[v]? = some (sp0 l v) := by
  unfold sp0
  rw [List.getD_eq_getElem?_getD, List.getElem?_eq_getElem h]; rfl
theorem stp_fst (t : TourD) : ∀ (l : List Nat) (fr : Int) (m : Int × Int), (stpL t fr m l).map Prod.fst = l
  | [], _, _ => rfl
  | v :: l, fr, m => by rw [stpL, List.map_cons, stp_fst t l]
theorem beg_get {t : TourD} {od : List Nat} {j v : Nat} (h : od[j]? = some v) : ∃ q, (begL t od)[j]? = some q ∧ q.1 = v := by
  have h1 := congrArg (fun l : List Nat => l[j]?) (stp_fst t od (-1) (t.dawn, t.dawn))
  simp only [List.getElem?_map, h] at h1
  obtain ⟨q, h2, h3⟩ := Option.map_eq_some_iff.1 h1
  exact ⟨q, h2, h3⟩
theorem str_low2 {s : Int × Int} {ps : List (Int × Int)} {d : Int} {od : List Nat} {q : Nat × (Int × Int)} (hd : 0 ≤ d) (ho : OrdB (strT s ps d) od) (hq : q ∈ begL (strT s ps d) od) : q.2.1 = q.2.2 ∧ d + (sp0 (strT s ps d).fr q.1).1 ≤ q.2.1 :=
  (str_low hd od (-1) d (.inl rfl) (fun v hv => by have := ho.1 v hv; rw [str_n] at this; exact this) (by
    show d + farD s (if (-1 : Int) = -1 then s else _) ≤ d
    rw [if_pos rfl, far_self]; omega) q hq).2
theorem fr_bd {s : Int × Int} {ps : List (Int × Int)} {d : Int} {v : Nat} (h : v < ps.length) : 0 ≤ (sp0 (strT s ps d).fr v).1 ∧ (sp0 (strT s ps d).fr v).1 ≤ 1440 := by
  rw [str_fr h]; exact far_bd _ _
theorem allW_le {s : Int × Int} {ps : List (Int × Int)} {d : Int} : ∀ {n : Nat}, n ≤ ps.length → allW (strT s ps d) n ≤ 2880 * (n : Int)
  | 0, _ => by show (0 : Int) ≤ _; omega
  | n + 1, h => by
    have h1 := allW_le (s := s) (d := d) (show n ≤ ps.length by omega)
    have h2 := fr_bd (s := s) (d := d) (show n < ps.length by omega)
    rw [allW]; omega
theorem vw1 {w : World} {B : Nat} {fr : Nat × Nat} {T : TypeId} {v : Nat} (hb : w.heap[B]? = some (.cells #[.int .i64 (v : Nat)] T fr)) : VwAt w (some ⟨B, 0, none⟩) (ints [v]) := fun i s hs =>
  match i, hs with
  | 0, hs => by cases hs; exact ⟨B, 0, _, _, _, rfl, hb, rfl⟩
set_option maxRecDepth 100000 in
theorem k4c (c : ChD) (sa : Option Addr) (cp : Nat) (k : Int) (u : World) (hI : ChIn u c sa) (hL : c.si.length ≤ 10) (hb : chB c = true) (hn2 : 2 ≤ c.n) (hn7 : c.n ≤ 7) (hk0 : 0 ≤ k) (hk1 : k ≤ 65535) (he : drwE c = 0) (s : Int × Int) (ps : List (Int × Int)) (hsp : drwL c = s :: ps) (hpl : ps.length + 1 = c.n.toNat) (hsB : ∀ x ∈ s :: ps, SpotB x) (hfull : (mostP (strT s ps (k % 1441))).1.length = ps.length) : Calls Tryz.prog 4 #[.agg (chC c sa cp), .int .u16 k] u (Ret fun v w' => v = .bool true ∧ Ext [] u w') := by
  refine calls_of Tryz.func4 rfl rfl (fun a hf => ?_)
  have hh := Hp.init u []
  have hA : ChAt u c sa := hI.at (by omega)
  refine sy_sq ?_
  refine o_box hf hh ?_; clear hf hh a; intro B2 a w hf hh
  refine o_v hf hh (yv_assign rfl) ?_; clear hf a; intro a hf
  refine o_end ?_
  refine sy_seq ?_
  refine sy_sq ?_
  refine o_v hf hh (yv_fieldAddr Tryz.fo_57_1 rfl) ?_; clear hf a; intro a hf
  refine o_v hf hh (y_ld Tryz.sc_55 rfl) ?_; clear hf a; intro a hf
  refine o_v hf hh (yv_len Tryz.se_55 rfl) ?_; clear hf a; intro a hf
  refine o_v hf hh (yv_cast (yv_bin rfl rfl rfl) (show _ = Value.bool false by refine congrArg Value.bool ?_; simp only [decide_eq_false_iff_not, Bool.not_eq_false', decide_eq_true_eq] <;> omega)) ?_; clear hf a; intro a hf
  refine o_v hf hh (yv_move rfl) ?_; clear hf a; intro a hf
  refine o_v hf hh (y_lds Tryz.ag_57 rfl) ?_; clear hf a; intro a hf
  refine o_call hf Tryz.en_17 rfl rfl rfl (k17 c sa cp w (hA.ext hh.ext)) ?_; clear hf a; intro v a w hR hf
  rw [hb] at hR
  obtain ⟨rfl, hx⟩ := hR; replace hh := hh.more hx; clear hx
  refine o_v hf hh (yv_not rfl) ?_; clear hf a; intro a hf
  refine o_v hf hh (y_pf rfl rfl) ?_; clear hf a; intro a hf
  refine o_v hf hh (yv_move rfl) ?_; clear hf a; intro a hf
  refine o_v hf hh (yv_fieldAddr Tryz.fo_57_0 rfl) ?_; clear hf a; intro a hf
  refine o_v hf hh (y_ld Tryz.sc_3 rfl) ?_; clear hf a; intro a hf
  refine o_v hf hh (yv_cast (yv_bin rfl rfl rfl) (show _ = Value.bool false by refine congrArg Value.bool ?_; simp only [decide_eq_false_iff_not, Bool.not_eq_false', decide_eq_true_eq] <;> omega)) ?_; clear hf a; intro a hf
  refine o_v hf hh (y_pf rfl rfl) ?_; clear hf a; intro a hf
  refine o_v hf hh (yv_move rfl) ?_; clear hf a; intro a hf
  refine o_v hf hh (yv_fieldAddr Tryz.fo_57_0 rfl) ?_; clear hf a; intro a hf
  refine o_v hf hh (y_ld Tryz.sc_3 rfl) ?_; clear hf a; intro a hf
  refine o_v hf hh (yv_cast (yv_bin rfl rfl rfl) (show _ = Value.bool false by refine congrArg Value.bool ?_; simp only [decide_eq_false_iff_not, Bool.not_eq_false', decide_eq_true_eq] <;> omega)) ?_; clear hf a; intro a hf
  refine o_v hf hh (y_pf rfl rfl) ?_; clear hf a; intro a hf
  refine o_end ?_
  refine c_f hf ?_
  refine sy_skip ?_
  refine then_n ?_
  refine sy_sq ?_
  refine o_v hf hh (y_lds Tryz.ag_57 rfl) ?_; clear hf a; intro a hf
  refine o_call hf Tryz.en_19 rfl rfl rfl (p19 c sa cp w (hA.ext hh.ext)) ?_; clear hf a; intro v a w hR hf
  obtain ⟨so, co, rfl, hle, hT, hx⟩ := hR; replace hh := hh.more hx; clear hx
  have hE1 := hh.ext
  have hb2 : w.heap[B2]? = some (.cells (chC c sa cp) 57 (0, 0)) := hh.at (i := 0) rfl
  obtain ⟨u1, rfl⟩ : ∃ z, z = w := ⟨_, rfl⟩
  replace hh := Hp.init u1 []
  refine o_v hf hh (yv_move rfl) ?_; clear hf a; intro a hf
  refine o_v hf hh (yv_extract rfl rfl) ?_; clear hf a; intro a hf
  refine o_v hf hh (yv_extract rfl rfl) ?_; clear hf a; intro a hf
  refine o_v hf hh (yv_assign rfl) ?_; clear hf a; intro a hf
  refine o_v hf hh (yv_assign rfl) ?_; clear hf a; intro a hf
  refine o_end ?_
  refine sy_seq ?_
  refine sy_sq ?_
  refine o_v hf hh (yv_move rfl) ?_; clear hf a; intro a hf
  refine o_v hf hh (yv_cast (yv_bin rfl rfl rfl) (show _ = Value.bool false by refine congrArg Value.bool ?_; simp only [decide_eq_false_iff_not, Bool.not_eq_false', decide_eq_true_eq] <;> omega)) ?_; clear hf a; intro a hf
  refine o_end ?_
  refine c_f hf ?_
  refine sy_skip ?_
  refine then_n ?_
  refine sy_seq ?_
  refine sy_seq ?_
  have hlen : (drwL c).length = ps.length + 1 := by rw [hsp]; rfl
  have hT2 : SpAt u1 so (s :: ps) := by rw [← hsp]; exact hT
  refine sy_ops ?_
  refine o_v hf hh (yv_move rfl) ?_; clear hf a; intro a hf
  refine o_v hf hh (yv_len Tryz.se_60 rfl) ?_; clear hf a; intro a hf
  refine o_v hf hh (yv_fieldAddr Tryz.fo_57_0 rfl) ?_; clear hf a; intro a hf
  refine o_v hf hh (y_ld Tryz.sc_3 rfl) ?_; clear hf a; intro a hf
  refine o_v hf hh (yv_cast (yv_bin rfl rfl rfl) (show _ = Value.bool false by refine congrArg Value.bool ?_; simp only [decide_eq_false_iff_not, Bool.not_eq_false', decide_eq_true_eq] <;> omega)) ?_; clear hf a; intro a hf
  refine o_end ?_
  refine c_f hf ?_
  refine sy_skip ?_
  refine then_n ?_
  refine sy_sq ?_
  refine o_v hf hh (yv_move rfl) ?_; clear hf a; intro a hf
  refine o_v hf hh (yv_move rfl) ?_; clear hf a; intro a hf
  first | refine o_v hf hh (yv_convx (.inl rfl) (by kernel_rfl) Tryz.un_3 rfl (by omega) (by simp only [IntKind.top]; omega)) ?_; clear hf a; intro a hf | refine o_v hf hh (yv_conv (by kernel_rfl) Tryz.un_3 rfl) ?_; clear hf a; intro a hf
  refine o_v hf hh (yv_rem rfl rfl (by omega) (by omega)) ?_; clear hf a; intro a hf
  refine o_call hf Tryz.en_20 rfl rfl rfl (k20 s ps so _ co (k % 1441) _ hlen (by omega) (hT2.ext hh.ext) hsB (by omega)) ?_; clear hf a; intro v a w hR hf
  obtain ⟨p, X, rfl, hTo, hX⟩ := hR; replace hh := hh.more hX.ext
  have hTA := hTo w hX.get
  have hE2 := hE1.trans hh.ext
  obtain ⟨t, ht⟩ : ∃ t, t = strT s ps (k % 1441) := ⟨_, rfl⟩
  rw [← ht] at hTA hf hfull
  have hok : touB t = true := touB_iff.2 (by rw [ht]; exact str_ok (by omega) ⟨by omega, by omega⟩)
  have htn : t.fr.length = ps.length := by rw [ht]; exact str_n _ _ _
  have htd : t.dawn = k % 1441 := by rw [ht]; rfl
  obtain ⟨u2, rfl⟩ : ∃ z, z = w := ⟨_, rfl⟩
  replace hh := Hp.init u2 []
  refine o_alloc hf hh Tryz.ze_25 ?_; clear hf hh a; intro B7 a w hf hh
  refine o_store hf hh Tryz.sz_25 fun w hh => ?_
  refine o_end ?_
  refine sy_sq ?_
  refine o_v hf hh (y_lds Tryz.ag_25 rfl) ?_; clear hf a; intro a hf
  refine o_call hf Tryz.en_21 rfl rfl rfl (k21 t p _ (hTA.ext hh.ext) hok) ?_; clear hf a; intro v a w hR hf
  obtain ⟨l1, oa1, cp1, K1, e1, rfl, h21, hV1⟩ := hR; replace hh := hh.more hV1.2.ext
  have hVa := hV1.1 w hV1.2.get
  have hE3 := hE2.trans hh.ext
  have hb7 : w.heap[B7]? = some (.cells (touC t p) 25 (0, 0)) := hh.at (i := 0) rfl
  replace hTA := hTA.ext hh.ext
  obtain ⟨u3, rfl⟩ : ∃ z, z = w := ⟨_, rfl⟩
  replace hh := Hp.init u3 []
  obtain ⟨rfl, hl1, hl1n⟩ : e1 = 0 ∧ l1 = (mostP t).1 ∧ l1.length = t.fr.length := by
    rcases h21 with h | h
    · exact h
    · exact absurd (hfull.trans htn.symm) h.2.2
  refine o_v hf hh (yv_move rfl) ?_; clear hf a; intro a hf
  refine o_v hf hh (yv_extract rfl rfl) ?_; clear hf a; intro a hf
  refine o_v hf hh (yv_extract rfl rfl) ?_; clear hf a; intro a hf
  refine o_v hf hh (yv_assign rfl) ?_; clear hf a; intro a hf
  refine o_v hf hh (yv_assign rfl) ?_; clear hf a; intro a hf
  refine o_end ?_
  refine sy_sq ?_
  refine o_v hf hh (y_lds Tryz.ag_25 rfl) ?_; clear hf a; intro a hf
  refine o_call hf Tryz.en_9 rfl rfl rfl (k9 t p _ (hTA.ext hh.ext)) ?_; clear hf a; intro v a w hR hf
  obtain ⟨l2, oa2, cp2, K2, rfl, hl2, -, hV2⟩ := hR; replace hh := hh.more hV2.2.ext
  have hVb := hV2.1 w hV2.2.get
  replace hVa := hVa.ext hh.ext
  have hE4 := hE3.trans hh.ext
  replace hb7 := hh.ext.get hb7
  replace hTA := hTA.ext hh.ext
  replace hl2 := hl2 hok
  rw [opnE_zero.2 ⟨hok, rfl⟩] at hf
  have hO2 : OrdB t l2 := by rw [hl2]; exact most_ord t
  have hO1 : OrdB t l1 := by rw [hl1]; exact most_ord t
  have ho2 := ords_iff.2 hO2
  have ho1 := ords_iff.2 hO1
  have hm1 := ord_le hO1
  have hm2 := ord_le hO2
  obtain ⟨u4, rfl⟩ : ∃ z, z = w := ⟨_, rfl⟩
  replace hh := Hp.init u4 []
  refine o_v hf hh (yv_move rfl) ?_; clear hf a; intro a hf
  refine o_v hf hh (yv_extract rfl rfl) ?_; clear hf a; intro a hf
  refine o_v hf hh (yv_extract rfl rfl) ?_; clear hf a; intro a hf
  refine o_v hf hh (yv_assign rfl) ?_; clear hf a; intro a hf
  refine o_v hf hh (yv_assign rfl) ?_; clear hf a; intro a hf
  refine o_end ?_
  refine sy_seq ?_
  refine sy_sq ?_
  refine o_v hf hh (yv_move rfl) ?_; clear hf a; intro a hf
  refine o_v hf hh (yv_cast (yv_bin rfl rfl rfl) (show _ = Value.bool false by refine congrArg Value.bool ?_; simp only [decide_eq_false_iff_not, Bool.not_eq_false', decide_eq_true_eq] <;> omega)) ?_; clear hf a; intro a hf
  refine o_v hf hh (yv_move rfl) ?_; clear hf a; intro a hf
  refine o_v hf hh (y_lds Tryz.ag_25 rfl) ?_; clear hf a; intro a hf
  refine o_v hf hh (yv_move rfl) ?_; clear hf a; intro a hf
  refine o_call hf Tryz.en_10 rfl rfl rfl (k10 t p (ints l2) l2.length (ints_len _).symm oa2 cp2 _ (by omega) (hVb.ext hh.ext) (by rw [ints_len]; omega)) ?_; clear hf a; intro v a w hR hf
  rw [ho2] at hR
  obtain ⟨rfl, hx⟩ := hR; replace hh := hh.more hx; clear hx
  refine o_v hf hh (yv_not rfl) ?_; clear hf a; intro a hf
  refine o_v hf hh (y_pf rfl rfl) ?_; clear hf a; intro a hf
  refine o_v hf hh (yv_move rfl) ?_; clear hf a; intro a hf
  refine o_v hf hh (yv_move rfl) ?_; clear hf a; intro a hf
  refine o_v hf hh (yv_cast (yv_bin rfl rfl rfl) (show _ = Value.bool false by refine congrArg Value.bool ?_; simp only [decide_eq_false_iff_not, Bool.not_eq_false', decide_eq_true_eq] <;> omega)) ?_; clear hf a; intro a hf
  refine o_v hf hh (yv_move rfl) ?_; clear hf a; intro a hf
  refine o_off hf ?_; clear hf a; intro a hf
  refine o_off hf ?_; clear hf a; intro a hf
  refine o_off hf ?_; clear hf a; intro a hf
  refine o_off hf ?_; clear hf a; intro a hf
  refine o_off hf ?_; clear hf a; intro a hf
  refine o_off hf ?_; clear hf a; intro a hf
  refine o_off hf ?_; clear hf a; intro a hf
  refine o_v hf hh (y_pf rfl rfl) ?_; clear hf a; intro a hf
  refine o_v hf hh (y_pf rfl rfl) ?_; clear hf a; intro a hf
  refine o_v hf hh (yv_move rfl) ?_; clear hf a; intro a hf
  refine o_v hf hh (yv_move rfl) ?_; clear hf a; intro a hf
  refine o_v hf hh (yv_cast (yv_bin rfl rfl rfl) (show _ = Value.bool true by refine congrArg Value.bool ?_; simp only [decide_eq_false_iff_not, Bool.not_eq_true', decide_eq_true_eq] <;> omega)) ?_; clear hf a; intro a hf
  refine o_v hf hh (yv_move rfl) ?_; clear hf a; intro a hf
  refine o_v hf hh (yv_move rfl) ?_; clear hf a; intro a hf
  refine o_v hf hh (yv_len Tryz.se_28 rfl) ?_; clear hf a; intro a hf
  refine o_v hf hh (yv_fieldAddr Tryz.fo_25_1 rfl) ?_; clear hf a; intro a hf
  refine o_v hf hh (y_ld Tryz.sc_22 rfl) ?_; clear hf a; intro a hf
  refine o_v hf hh (yv_len Tryz.se_22 rfl) ?_; clear hf a; intro a hf
  refine o_v hf hh (yv_cast (yv_bin rfl rfl rfl) (show _ = Value.bool false by refine congrArg Value.bool ?_; simp only [decide_eq_false_iff_not, Bool.not_eq_false', decide_eq_true_eq] <;> omega)) ?_; clear hf a; intro a hf
  refine o_v hf hh (yv_move rfl) ?_; clear hf a; intro a hf
  refine o_v hf hh (y_lds Tryz.ag_25 rfl) ?_; clear hf a; intro a hf
  refine o_v hf hh (yv_move rfl) ?_; clear hf a; intro a hf
  refine o_call hf Tryz.en_10 rfl rfl rfl (k10 t p (ints l1) l1.length (ints_len _).symm oa1 cp1 _ (by omega) (hVa.ext hh.ext) (by rw [ints_len]; omega)) ?_; clear hf a; intro v a w hR hf
  rw [ho1] at hR
  obtain ⟨rfl, hx⟩ := hR; replace hh := hh.more hx; clear hx
  refine o_v hf hh (yv_not rfl) ?_; clear hf a; intro a hf
  refine o_v hf hh (y_pf rfl rfl) ?_; clear hf a; intro a hf
  refine o_v hf hh (y_pt rfl rfl) ?_; clear hf a; intro a hf
  refine o_v hf hh (y_pf rfl rfl) ?_; clear hf a; intro a hf
  refine o_end ?_
  refine c_f hf ?_
  refine sy_skip ?_
  refine then_n ?_
  refine sy_seq ?_
  refine sy_sq ?_
  refine o_v hf hh (yv_move rfl) ?_; clear hf a; intro a hf
  refine o_v hf hh (yv_move rfl) ?_; clear hf a; intro a hf
  refine ops_buildSl hf hh Tryz.bl_42_2 rfl rfl (.inl rfl) rfl ?_; clear hf hh; clear a; intro B127 a w hf hh
  refine o_v hf hh (yv_len Tryz.se_42 rfl) ?_; clear hf a; intro a hf
  refine o_v hf hh (yv_move rfl) ?_; clear hf a; intro a hf
  refine o_end ?_
  refine sy_block ?_
  refine sy_loopH (σ := Nat) [4, 13, 14, 15, 16, 17, 18, 129, 130, 131, 132, 133, 134, 135, 136, 137, 138, 139, 140, 141, 142, 143, 144, 145, 146, 147, 148, 149, 150, 151, 152, 153, 154, 155, 156, 157, 158, 159, 160, 161, 162, 163, 164, 165, 166, 167, 168, 169, 170, 171, 172, 173, 174, 175, 176, 177, 178, 179, 180, 181, 182, 183, 184, 185] (fun i => [(129, .int .i64 (i : Nat))]) (fun i => fun w' => i ≤ 2 ∧ Hp u4 [] [(B127, .cells #[.slice oa1 l1.length cp1, .slice oa2 l2.length cp2] 28)] w') (fun i => 2 - i) (0) hf ?_ ?_ ?_
  · repeat' (first | exact True.intro | refine And.intro rfl ?_)
  · exact ⟨Nat.zero_le _, hh⟩
  ·rintro i a w ⟨hi, hh⟩ hf
   refine sy_sq ?_
   refine o_v hf hh (yv_bin rfl rfl rfl) ?_; clear hf a; intro a hf
   refine o_end ?_
   refine sy_seq ?_
   refine sy_cond hf rfl (fun hg12 => ?_) (fun hg12 => ?_)
   ·have hG12 := hg12; try simp only [gS] at hG12
    refine sy_skip ?_
    refine then_n ?_
    refine sy_seq ?_
    refine sy_block ?_
    refine sy_seq ?_
    obtain ⟨od, oo, co2, e3, hV3, hO3⟩ : ∃ od oo co2, (#[Value.slice oa1 l1.length cp1, Value.slice oa2 l2.length cp2] : Array Value)[0 + ((i : Nat) : Int).toNat * 1]? = some (.slice oo od.length co2) ∧ VwAt u4 oo (ints od) ∧ OrdB t od := by
      rcases (by omega : i = 0 ∨ i = 1) with rfl | rfl
      · exact ⟨l1, oa1, cp1, rfl, hVa, hO1⟩
      · exact ⟨l2, oa2, cp2, rfl, hVb, hO2⟩
    have hm3 := ord_le hO3
    refine sy_ops ?_
    refine o_v hf hh (y_ix Tryz.se_42 rfl rfl) ?_; clear hf a; intro a hf
    refine o_v hf hh (y_ld Tryz.sc_28 rfl) ?_; clear hf a; intro a hf
    refine o_v hf hh (yv_assign rfl) ?_; clear hf a; intro a hf
    refine o_end ?_
    refine sy_sq ?_
    refine o_v hf hh (y_lds Tryz.ag_25 rfl) ?_; clear hf a; intro a hf
    refine o_v hf hh (yv_move rfl) ?_; clear hf a; intro a hf
    refine o_call hf Tryz.en_22 rfl rfl rfl (k22 t p _ (hTA.ext hh.ext) hok od oo co2 (hV3.ext hh.ext) (ords_iff.2 hO3) hO3.1 (by omega)) ?_; clear hf a; intro v a w hR hf
    obtain ⟨ob, cb, Xb, rfl, hSb, hXb⟩ := hR; replace hh := hh.more hXb.ext
    replace hSb := hSb w hXb.get
    have hh0 := hh
    have hb75 := hh.ext.get hb7
    have hTA5 := hTA.ext hh.ext
    have hV35 := hV3.ext hh.ext
    obtain ⟨u5, rfl⟩ : ∃ z, z = w := ⟨_, rfl⟩
    replace hh := Hp.init u5 []
    refine o_v hf hh (yv_move rfl) ?_; clear hf a; intro a hf
    refine o_v hf hh (yv_extract rfl rfl) ?_; clear hf a; intro a hf
    refine o_v hf hh (yv_extract rfl rfl) ?_; clear hf a; intro a hf
    refine o_v hf hh (yv_extract rfl rfl) ?_; clear hf a; intro a hf
    refine o_alloc hf hh Tryz.ze_49 ?_; clear hf hh a; intro B15 a w hf hh
    refine o_v hf hh (yv_assign rfl) ?_; clear hf a; intro a hf
    refine o_store hf hh Tryz.sz_49 fun w hh => ?_
    refine o_v hf hh (yv_assign rfl) ?_; clear hf a; intro a hf
    refine o_end ?_
    refine sy_seq ?_
    refine sy_sq ?_
    refine o_v hf hh (yv_move rfl) ?_; clear hf a; intro a hf
    refine o_v hf hh (yv_cast (yv_bin rfl rfl rfl) (show _ = Value.bool false by refine congrArg Value.bool ?_; simp only [decide_eq_false_iff_not, Bool.not_eq_false', decide_eq_true_eq] <;> omega)) ?_; clear hf a; intro a hf
    refine o_v hf hh (yv_move rfl) ?_; clear hf a; intro a hf
    refine o_v hf hh (yv_move rfl) ?_; clear hf a; intro a hf
    refine o_v hf hh (yv_len Tryz.se_22 rfl) ?_; clear hf a; intro a hf
    refine o_v hf hh (yv_move rfl) ?_; clear hf a; intro a hf
    refine o_v hf hh (yv_len Tryz.se_28 rfl) ?_; clear hf a; intro a hf
    refine o_v hf hh (yv_cast (yv_bin rfl rfl rfl) (show _ = Value.bool false by refine congrArg Value.bool ?_; simp only [decide_eq_false_iff_not, Bool.not_eq_false', decide_eq_true_eq] <;> omega)) ?_; clear hf a; intro a hf
    refine o_v hf hh (y_pf rfl rfl) ?_; clear hf a; intro a hf
    refine o_end ?_
    refine c_f hf ?_
    refine sy_skip ?_
    refine then_n ?_
    refine sy_sq ?_
    refine o_v hf hh (yv_move rfl) ?_; clear hf a; intro a hf
    refine o_v hf hh (yv_len Tryz.se_28 rfl) ?_; clear hf a; intro a hf
    refine o_v hf hh (yv_move rfl) ?_; clear hf a; intro a hf
    refine o_end ?_
    refine sy_block ?_
    refine sy_loopH (σ := Nat) [4, 17, 18, 151, 152, 153, 154, 155, 156, 157, 158, 159, 160, 161, 162, 163, 164, 165, 166, 167, 168, 169, 170, 171, 172, 173, 174, 175, 176, 177, 178, 179, 180, 181, 182, 183, 184] (fun j => [(151, .int .i64 (j : Nat))]) (fun j => fun w' => j ≤ od.length ∧ Hp u5 [] [] w') (fun j => od.length - j) (0) hf ?_ ?_ ?_
    · repeat' (first | exact True.intro | refine And.intro rfl ?_)
    · exact ⟨Nat.zero_le _, hh.less (.cons _ (.refl _))⟩
    ·rintro j a w ⟨hj, hh⟩ hf
     refine sy_sq ?_
     refine o_v hf hh (yv_bin rfl rfl rfl) ?_; clear hf a; intro a hf
     refine o_end ?_
     refine sy_seq ?_
     refine sy_cond hf rfl (fun hg18 => ?_) (fun hg18 => ?_)
     ·have hG18 := hg18; try simp only [gS] at hG18
      refine sy_skip ?_
      refine then_n ?_
      refine sy_seq ?_
      refine sy_block ?_
      refine sy_seq ?_
      obtain ⟨v, hv⟩ := ex_ofW (l := od) (i := j) (by omega)
      obtain ⟨blkO, offO, ccO, TO, frO, esO, hbO, hcO⟩ := hV35 j _ (Go.WalM.ints_at hv)
      refine sy_ops ?_
      refine o_v hf hh (yv_move rfl) ?_; clear hf a; intro a hf
      refine o_v hf hh (y_ix Tryz.se_28 (congrArg (fun z => some (Value.slice z od.length co2)) esO) rfl) ?_; clear hf a; intro a hf
      refine o_v hf hh (y_ld Tryz.sc_3 rfl) ?_; clear hf a; intro a hf
      refine o_v hf hh (yv_assign rfl) ?_; clear hf a; intro a hf
      refine o_v hf hh (yv_assign rfl) ?_; clear hf a; intro a hf
      refine o_end ?_
      refine sy_seq ?_
      obtain ⟨q, hq, hqv⟩ := beg_get (t := t) hv
      have hS : ((begL t od).map Prod.snd)[j]? = some q.2 := by rw [List.getElem?_map, hq]; rfl
      obtain ⟨blkS, offS, ccS, TS, frS, esS, hbS, hcS, hcS0, hcS1⟩ := sp_two hSb hS
      have hvn : v < t.fr.length := hO3.1 v (List.mem_of_getElem? hv)
      obtain ⟨blkF, offF, ccF, TF, frF, esF, hbF, hcF, hcF0, hcF1⟩ := sp_two hTA5.f (sp0_get hvn)
      have hlow := str_low2 (s := s) (ps := ps) (d := k % 1441) (od := od) (q := q) (by omega) (by rw [← ht]; exact hO3) (by rw [← ht]; exact List.mem_of_getElem? hq)
      have hfb := fr_bd (s := s) (ps := ps) (d := k % 1441) (v := v) (by omega)
      rw [← ht] at hlow hfb
      rw [hqv] at hlow
      refine sy_quiet (C := Hp _ _ _) Tryz.follows (by kernel_rfl) (hh.drawn _) ?_
      refine oq_v hf (yv_move rfl) ?_; clear hf a; intro a hf
      refine oq_v hf (yv_move rfl) ?_; clear hf a; intro a hf
      refine oq_v hf (y_ix Tryz.se_22 (congrArg (fun z => some (Value.slice z od.length cb)) esS) rfl) ?_; clear hf a; intro a hf
      refine oq_v hf (yv_fieldAddr Tryz.fo_49_0 rfl) ?_; clear hf a; intro a hf
      refine oq_v hf (y_ld Tryz.sc_3 rfl) ?_; clear hf a; intro a hf
      refine oq_v hf (yv_fieldAddr Tryz.fo_25_0 rfl) ?_; clear hf a; intro a hf
      refine oq_v hf (y_ld Tryz.sc_3 rfl) ?_; clear hf a; intro a hf
      refine oq_v hf (yv_fieldAddr Tryz.fo_25_1 rfl) ?_; clear hf a; intro a hf
      refine oq_v hf (y_ld Tryz.sc_22 rfl) ?_; clear hf a; intro a hf
      refine oq_v hf (yv_move rfl) ?_; clear hf a; intro a hf
      refine oq_v hf (y_ix Tryz.se_22 (congrArg (fun z => some (Value.slice z t.fr.length p.cf)) esF) rfl) ?_; clear hf a; intro a hf
      refine oq_v hf (yv_fieldAddr Tryz.fo_49_0 rfl) ?_; clear hf a; intro a hf
      refine oq_v hf (y_ld Tryz.sc_3 rfl) ?_; clear hf a; intro a hf
      refine oq_v hf (y_add rfl rfl) ?_; clear hf a; intro a hf
      refine oq_v hf (yv_cast (yv_bin rfl rfl rfl) (show _ = Value.bool false by refine congrArg Value.bool ?_; simp only [decide_eq_false_iff_not, Bool.not_eq_false', decide_eq_true_eq] <;> omega)) ?_; clear hf a; intro a hf
      refine oq_v hf (yv_move rfl) ?_; clear hf a; intro a hf
      refine oq_v hf (yv_move rfl) ?_; clear hf a; intro a hf
      refine oq_v hf (yv_move rfl) ?_; clear hf a; intro a hf
      refine oq_v hf (y_ix Tryz.se_22 (congrArg (fun z => some (Value.slice z od.length cb)) esS) rfl) ?_; clear hf a; intro a hf
      refine oq_v hf (yv_fieldAddr Tryz.fo_49_0 rfl) ?_; clear hf a; intro a hf
      refine oq_v hf (y_ld Tryz.sc_3 rfl) ?_; clear hf a; intro a hf
      refine oq_v hf (yv_move rfl) ?_; clear hf a; intro a hf
      refine oq_v hf (yv_move rfl) ?_; clear hf a; intro a hf
      refine oq_v hf (y_ix Tryz.se_22 (congrArg (fun z => some (Value.slice z od.length cb)) esS) rfl) ?_; clear hf a; intro a hf
      refine oq_v hf (yv_fieldAddr Tryz.fo_49_1 rfl) ?_; clear hf a; intro a hf
      refine oq_v hf (y_ld Tryz.sc_3 rfl) ?_; clear hf a; intro a hf
      refine oq_v hf (yv_cast (yv_bin rfl rfl rfl) (show _ = Value.bool false by refine congrArg Value.bool ?_; simp only [decide_eq_false_iff_not, Bool.not_eq_false', decide_eq_true_eq] <;> omega)) ?_; clear hf a; intro a hf
      refine oq_v hf (y_pf rfl rfl) ?_; clear hf a; intro a hf
      refine q_end fun w hh => ?_
      refine then_n ?_
      refine c_f hf ?_
      refine sy_skip ?_
      refine blk_n ?_
      refine then_n ?_
      refine sy_ops ?_
      refine o_v hf hh (y_add rfl rfl) ?_; clear hf a; intro a hf
      refine o_v hf hh (yv_move rfl) ?_; clear hf a; intro a hf
      refine ops_end ?_
      refine then_n ?_
      exact ⟨j + 1, ⟨⟨by omega, hh⟩, (hf.head (by repeat' (first | exact True.intro | refine And.intro rfl ?_)) (Keep.cons rfl (Keep.cons rfl (Keep.cons rfl (Keep.cons rfl (Keep.cons rfl (Keep.cons rfl (Keep.cons rfl (Keep.cons rfl (Keep.cons rfl (Keep.cons rfl (Keep.cons rfl (Keep.cons rfl (Keep.cons rfl (Keep.cons rfl (Keep.cons rfl (Keep.cons rfl (Keep.cons rfl (Keep.cons rfl (Keep.cons rfl (Keep.cons rfl (Keep.cons rfl (Keep.cons rfl (Keep.cons rfl (Keep.cons rfl (Keep.cons rfl (Keep.cons rfl (Keep.cons rfl (Keep.cons rfl (Keep.cons rfl (Keep.cons rfl (Keep.cons rfl (Keep.cons rfl (Keep.cons rfl (Keep.cons rfl (Keep.cons rfl (Keep.cons rfl (Keep.app rfl (Keep.rm rfl Keep.base)))))))))))))))))))))))))))))))))))))))⟩, by omega⟩
     ·have hG18 := hg18; try simp only [gS] at hG18
      refine sy_exit ?_
      refine then_e ?_
      refine then_e ?_
      refine blk_e ?_
      refine blk_n ?_
      refine then_n ?_
      refine sy_ops ?_
      refine o_v hf hh (y_add rfl rfl) ?_; clear hf a; intro a hf
      refine o_v hf hh (yv_move rfl) ?_; clear hf a; intro a hf
      refine ops_end ?_
      refine then_n ?_
      exact ⟨i + 1, ⟨⟨by omega, hh0.more hh.ext⟩, (hf.head (by repeat' (first | exact True.intro | refine And.intro rfl ?_)) (Keep.cons rfl (Keep.cons rfl (Keep.cons rfl (Keep.app rfl (Keep.rm rfl (Keep.cons rfl (Keep.cons rfl (Keep.cons rfl (Keep.cons rfl (Keep.cons rfl (Keep.cons rfl (Keep.cons rfl (Keep.cons rfl (Keep.cons rfl (Keep.cons rfl (Keep.cons rfl (Keep.cons rfl (Keep.cons rfl (Keep.cons rfl (Keep.cons rfl (Keep.cons rfl (Keep.cons rfl (Keep.cons rfl (Keep.cons rfl (Keep.cons rfl (Keep.cons rfl (Keep.cons rfl (Keep.cons rfl (Keep.cons rfl (Keep.cons rfl (Keep.cons rfl (Keep.app rfl (Keep.rm rfl Keep.base))))))))))))))))))))))))))))))))))⟩, by omega⟩
   ·have hG12 := hg12; try simp only [gS] at hG12
    refine sy_exit ?_
    refine then_e ?_
    refine then_e ?_
    refine blk_e ?_
    refine then_n ?_
    refine sy_sq ?_
    refine o_v hf hh (yv_assign rfl) ?_; clear hf a; intro a hf
    refine o_end ?_
    refine sy_seq ?_
    refine sy_sq ?_
    refine o_v hf hh (yv_fieldAddr Tryz.fo_25_1 rfl) ?_; clear hf a; intro a hf
    refine o_v hf hh (y_ld Tryz.sc_22 rfl) ?_; clear hf a; intro a hf
    refine o_v hf hh (yv_len Tryz.se_22 rfl) ?_; clear hf a; intro a hf
    refine o_v hf hh (yv_move rfl) ?_; clear hf a; intro a hf
    refine o_end ?_
    refine sy_block ?_
    refine sy_loopH (σ := Nat) [4, 19, 20, 21, 22, 23, 24, 189, 190, 191, 192, 193, 194, 195, 196, 197, 198, 199, 200, 201, 202, 203, 204, 205, 206, 207, 208, 209, 210, 211, 212, 213, 214, 215, 216, 217, 218, 219, 220, 221, 222, 223, 224, 225, 226, 227, 228, 229, 230, 231, 232, 233, 234, 235, 236, 237, 238] (fun v => [(189, .int .i64 (v : Nat)), (19, .int .i64 (allW t v))]) (fun v => fun w' => v ≤ t.fr.length ∧ Hp u4 [] [] w') (fun v => t.fr.length - v) (0) hf ?_ ?_ ?_
    · repeat' (first | exact True.intro | refine And.intro rfl ?_)
    · exact ⟨Nat.zero_le _, hh.less (.cons _ (.refl _))⟩
    ·rintro v a w ⟨hv, hh⟩ hf
     refine sy_sq ?_
     refine o_v hf hh (yv_bin rfl rfl rfl) ?_; clear hf a; intro a hf
     refine o_end ?_
     refine sy_seq ?_
     refine sy_cond hf rfl (fun hg25 => ?_) (fun hg25 => ?_)
     ·have hG25 := hg25; try simp only [gS] at hG25
      refine sy_skip ?_
      refine then_n ?_
      refine sy_seq ?_
      refine sy_block ?_
      refine sy_seq ?_
      have hvn : v < t.fr.length := by omega
      obtain ⟨blkF, offF, ccF, TF, frF, esF, hbF, hcF, hcF0, hcF1⟩ := sp_two hTA.f (sp0_get hvn)
      have hfb := fr_bd (s := s) (ps := ps) (d := k % 1441) (v := v) (by omega)
      have hal := allW_nn (s := s) (ps := ps) (dawn := k % 1441) (n := v) (by omega)
      have hau := allW_le (s := s) (ps := ps) (d := k % 1441) (n := v) (by omega)
      have h1 := str_one (s := s) (ps := ps) (dawn := k % 1441) (by omega) (v := v) (by omega)
      rw [← ht] at hfb hal hau h1
      rw [← htd] at h1
      have hO1v : OrdB t [v] := ⟨fun x hx => by rw [List.mem_singleton.1 hx]; exact hvn, by simp⟩
      refine sy_ops ?_
      refine o_v hf hh (yv_move rfl) ?_; clear hf a; intro a hf
      refine o_v hf hh (y_ix Tryz.se_22 (congrArg (fun z => some (Value.slice z t.fr.length p.cf)) esF) rfl) ?_; clear hf a; intro a hf
      refine o_v hf hh (y_lds Tryz.ag_49 rfl) ?_; clear hf a; intro a hf
      refine o_alloc hf hh Tryz.ze_49 ?_; clear hf hh a; intro B21 a w hf hh
      refine o_v hf hh (yv_assign rfl) ?_; clear hf a; intro a hf
      refine o_store hf hh Tryz.sz_49 fun w hh => ?_
      refine o_end ?_
      refine sy_sq ?_
      refine o_v hf hh (y_lds Tryz.ag_25 rfl) ?_; clear hf a; intro a hf
      refine o_v hf hh (yv_move rfl) ?_; clear hf a; intro a hf
      refine ops_buildSl hf hh Tryz.bl_28_1 rfl rfl (.inl rfl) rfl ?_; clear hf hh; clear a; intro B197 a w hf hh
      refine o_call hf Tryz.en_22 rfl rfl rfl (k22 t p _ (hTA.ext hh.ext) hok [v] (some ⟨B197, 0, none⟩) 1 (vw1 (hh.at (i := 0) rfl)) (ords_iff.2 hO1v) hO1v.1 (Nat.le_of_ble_eq_true rfl)) ?_; clear hf a; intro v a w hR hf
      obtain ⟨ob, cb, Xb, rfl, hSb, hXb⟩ := hR; replace hh := hh.more hXb.ext
      replace hSb : SpAt w ob [dup (t.dawn + (sp0 t.fr v).1)] := by have := hSb w hXb.get; rw [h1.1] at this; exact this
      rw [h1.2] at hf
      have hb21 : w.heap[B21]? = some (.cells #[.int .i64 (sp0 t.fr v).1, .int .i64 (sp0 t.fr v).2] 49 (0, 0)) := hh.at (i := 1) rfl
      have hh0 : Hp u4 [] [] w := hh.less (.cons _ (.cons _ (.refl _)))
      have hb75 := hh.ext.get hb7
      obtain ⟨u5, rfl⟩ : ∃ z, z = w := ⟨_, rfl⟩
      replace hh := Hp.init u5 []
      obtain ⟨blkS, offS, ccS, TS, frS, esS, hbS, hcS, hcS0, hcS1⟩ := sp_two (i := 0) hSb rfl
      obtain ⟨m, hm⟩ : ∃ m, m = t.dawn + (sp0 t.fr v).1 := ⟨_, rfl⟩
      refine o_v hf hh (yv_move rfl) ?_; clear hf a; intro a hf
      refine o_v hf hh (yv_extract rfl rfl) ?_; clear hf a; intro a hf
      refine o_v hf hh (yv_extract rfl rfl) ?_; clear hf a; intro a hf
      refine o_v hf hh (yv_extract rfl rfl) ?_; clear hf a; intro a hf
      refine o_alloc hf hh Tryz.ze_49 ?_; clear hf hh a; intro B23 a w hf hh
      refine o_v hf hh (yv_assign rfl) ?_; clear hf a; intro a hf
      refine o_store hf hh Tryz.sz_49 fun w hh => ?_
      refine o_v hf hh (yv_assign rfl) ?_; clear hf a; intro a hf
      refine o_end ?_
      refine sy_seq ?_
      refine sy_seq ?_
      refine sy_tree1 (.p 0 (.p 1 (.p 2 (.p 3 (.p 4 (.p 5 (.p 6 (.p 7 (.p 8 (.p 9 (.q 0 10 (.p 11 (.q 0 12 (.p 13 (.q 0 14 (.p 15 (.p 16 (.q 0 17 (.p 18 (.q 0 19 (.p 20 (.e1 21 (.p 22 (.p 23 (.p 24 (.q 0 25 (.p 26 (.p 27 (.q 0 28 (.p 29 (.p 30 (.fin)))))))))))))))))))))))))))))))) [] Tryz.follows (by kernel_rfl) hh (fun w hh => ?_)
      refine mc_p rfl   hf (yv_move rfl) (.inl rfl) rfl rfl ?_; clear hf a; intro a hf
      refine mc_p rfl   hf (yv_cast (yv_bin rfl rfl rfl) (show _ = Value.bool false by refine congrArg Value.bool ?_; simp only [decide_eq_false_iff_not, Bool.not_eq_false', decide_eq_true_eq] <;> omega)) (.inl rfl) rfl rfl ?_; clear hf a; intro a hf
      refine mc_p rfl   hf (yv_move rfl) (.inl rfl) rfl rfl ?_; clear hf a; intro a hf
      refine mc_p rfl   hf (yv_move rfl) (gon rfl rfl rfl (by first | assumption | rfl | (simp; done) | (simp; omega))) rfl rfl ?_; clear hf a; intro a hf
      refine mc_p rfl   hf (yv_len Tryz.se_22 rfl) (gon rfl rfl rfl (by first | assumption | rfl | (simp; done) | (simp; omega))) rfl rfl ?_; clear hf a; intro a hf
      refine mc_p rfl   hf (yv_cast (yv_bin rfl rfl rfl) (show _ = Value.bool false by rfl)) (gon rfl rfl rfl (by first | assumption | rfl | (simp; done) | (simp; omega))) rfl rfl ?_; clear hf a; intro a hf
      refine mc_p rfl   hf (y_pf rfl rfl) (.inl rfl) rfl rfl ?_; clear hf a; intro a hf
      refine mc_p rfl   hf (yv_move rfl) (.inl rfl) rfl rfl ?_; clear hf a; intro a hf
      refine mc_p rfl   hf (yv_move rfl) (gon rfl rfl rfl (by first | assumption | rfl | (simp; done) | (simp; omega))) rfl rfl ?_; clear hf a; intro a hf
      refine mc_p rfl   hf (y_ix Tryz.se_22 (congrArg (fun z => some (Value.slice z 1 cb)) esS) rfl) (gon rfl rfl rfl (by first | assumption | rfl | (simp; done) | (simp; omega))) rfl rfl ?_; clear hf a; intro a hf
      refine mc_q rfl rfl hh hf (y_lds Tryz.ag_49 rfl) (gon rfl rfl rfl (by first | assumption | rfl | (simp; done) | (simp; omega))) rfl rfl ?_; clear hf a; intro a hf
      refine mc_p rfl   hf (yv_fieldAddr Tryz.fo_25_0 rfl) (gon rfl rfl rfl (by first | assumption | rfl | (simp; done) | (simp; omega))) rfl rfl ?_; clear hf a; intro a hf
      refine mc_q rfl rfl hh hf (y_ld Tryz.sc_3 rfl) (gon rfl rfl rfl (by first | assumption | rfl | (simp; done) | (simp; omega))) rfl rfl ?_; clear hf a; intro a hf
      refine mc_p rfl   hf (yv_fieldAddr Tryz.fo_49_0 rfl) (gon rfl rfl rfl (by first | assumption | rfl | (simp; done) | (simp; omega))) rfl rfl ?_; clear hf a; intro a hf
      refine mc_q rfl rfl hh hf (y_ld Tryz.sc_3 rfl) (gon rfl rfl rfl (by first | assumption | rfl | (simp; done) | (simp; omega))) rfl rfl ?_; clear hf a; intro a hf
      refine mc_p rfl   hf (y_add rfl rfl) (gon rfl rfl rfl (by first | assumption | rfl | (simp; done) | (simp; omega))) rfl rfl ?_; clear hf a; intro a hf
      refine mc_p rfl   hf (yv_fieldAddr Tryz.fo_25_0 rfl) (gon rfl rfl rfl (by first | assumption | rfl | (simp; done) | (simp; omega))) rfl rfl ?_; clear hf a; intro a hf
      refine mc_q rfl rfl hh hf (y_ld Tryz.sc_3 rfl) (gon rfl rfl rfl (by first | assumption | rfl | (simp; done) | (simp; omega))) rfl rfl ?_; clear hf a; intro a hf
      refine mc_p rfl   hf (yv_fieldAddr Tryz.fo_49_0 rfl) (gon rfl rfl rfl (by first | assumption | rfl | (simp; done) | (simp; omega))) rfl rfl ?_; clear hf a; intro a hf
      refine mc_q rfl rfl hh hf (y_ld Tryz.sc_3 rfl) (gon rfl rfl rfl (by first | assumption | rfl | (simp; done) | (simp; omega))) rfl rfl ?_; clear hf a; intro a hf
      refine mc_p rfl   hf (y_add rfl rfl) (gon rfl rfl rfl (by first | assumption | rfl | (simp; done) | (simp; omega))) rfl rfl ?_; clear hf a; intro a hf
      refine mc_e rfl fun Q1 => ?_
      refine o_call hf Tryz.en_15 rfl rfl rfl (k15 (t.dawn + (sp0 t.fr v).1) (t.dawn + (sp0 t.fr v).1) _) ?_; clear hf a; intro v a w hR hf
      obtain ⟨rfl, hx⟩ := hR; replace hh := hh.more hx; clear hx
      refine ops_end ?_
      refine then_n ⟨⟨fun _ _ => hh, trivial⟩, ?_⟩
      refine mc_p rfl   hf (yv_cast (yv_neF [t.dawn + (sp0 t.fr v).1, t.dawn + (sp0 t.fr v).1] [t.dawn + (sp0 t.fr v).1, t.dawn + (sp0 t.fr v).1] (n := 2) (by kernel_rfl) rfl rfl) (show _ = Value.bool false by simp)) (gon rfl rfl rfl (by first | assumption | rfl | (simp; done) | (simp; omega))) rfl rfl ?_; clear hf a; intro a hf
      refine mc_p rfl   hf (y_pf rfl rfl) (.inl rfl) rfl rfl ?_; clear hf a; intro a hf
      refine mc_p rfl   hf (yv_move rfl) (.inl rfl) rfl rfl ?_; clear hf a; intro a hf
      refine mc_q rfl rfl hh hf (y_lds Tryz.ag_49 rfl) (gon rfl rfl rfl (by first | assumption | rfl | (simp; done) | (simp; omega))) rfl rfl ?_; clear hf a; intro a hf
      refine mc_p rfl   hf (yv_move rfl) (gon rfl rfl rfl (by first | assumption | rfl | (simp; done) | (simp; omega))) rfl rfl ?_; clear hf a; intro a hf
      refine mc_p rfl   hf (y_ix Tryz.se_22 (congrArg (fun z => some (Value.slice z 1 cb)) esS) rfl) (gon rfl rfl rfl (by first | assumption | rfl | (simp; done) | (simp; omega))) rfl rfl ?_; clear hf a; intro a hf
      refine mc_q rfl rfl hh hf (y_lds Tryz.ag_49 rfl) (gon rfl rfl rfl (by first | assumption | rfl | (simp; done) | (simp; omega))) rfl rfl ?_; clear hf a; intro a hf
      refine mc_p rfl   hf (yv_cast (yv_neF [t.dawn + (sp0 t.fr v).1, t.dawn + (sp0 t.fr v).1] [t.dawn + (sp0 t.fr v).1, t.dawn + (sp0 t.fr v).1] (n := 2) (by kernel_rfl) rfl rfl) (show _ = Value.bool false by simp)) (gon rfl rfl rfl (by first | assumption | rfl | (simp; done) | (simp; omega))) rfl rfl ?_; clear hf a; intro a hf
      refine mc_p rfl   hf (y_pf rfl rfl) (.inl rfl) rfl rfl ?_; clear hf a; intro a hf
      refine mc_end ?_
      refine then_n ?_
      refine c_f hf ?_
      refine sy_skip ?_
      refine then_n ?_
      refine sy_ops ?_
      refine o_v hf hh (yv_move rfl) ?_; clear hf a; intro a hf
      refine o_v hf hh (yv_fieldAddr Tryz.fo_49_0 rfl) ?_; clear hf a; intro a hf
      refine o_v hf hh (y_ld Tryz.sc_3 rfl) ?_; clear hf a; intro a hf
      refine o_v hf hh (y_mul rfl rfl) ?_; clear hf a; intro a hf
      refine o_v hf hh (y_add rfl rfl) ?_; clear hf a; intro a hf
      refine o_v hf hh (yv_assign rfl) ?_; clear hf a; intro a hf
      refine ops_end ?_
      refine blk_n ?_
      refine then_n ?_
      refine sy_ops ?_
      refine o_v hf hh (y_add rfl rfl) ?_; clear hf a; intro a hf
      refine o_v hf hh (yv_move rfl) ?_; clear hf a; intro a hf
      refine ops_end ?_
      refine then_n ?_
      exact ⟨v + 1, ⟨⟨by omega, hh0.more hh.ext⟩, (hf.head (by repeat' (first | exact True.intro | refine And.intro rfl ?_)) (Keep.cons rfl (Keep.cons rfl (Keep.cons rfl (Keep.cons rfl (Keep.cons rfl (Keep.cons rfl (Keep.cons rfl (Keep.cons rfl (Keep.cons rfl (Keep.cons rfl (Keep.cons rfl (Keep.cons rfl (Keep.cons rfl (Keep.cons rfl (Keep.cons rfl (Keep.cons rfl (Keep.cons rfl (Keep.cons rfl (Keep.cons rfl (Keep.cons rfl (Keep.cons rfl (Keep.cons rfl (Keep.cons rfl (Keep.cons rfl (Keep.cons rfl (Keep.cons rfl (Keep.cons rfl (Keep.cons rfl (Keep.cons rfl (Keep.cons rfl (Keep.cons rfl (Keep.cons rfl (Keep.cons rfl (Keep.cons rfl (Keep.cons rfl (Keep.cons rfl (Keep.cons rfl (Keep.cons rfl (Keep.cons rfl (Keep.cons rfl (Keep.cons rfl (Keep.cons rfl (Keep.cons rfl (Keep.cons rfl (Keep.cons rfl (Keep.cons rfl (Keep.cons rfl (Keep.cons rfl (Keep.cons rfl (Keep.cons rfl (Keep.cons rfl (Keep.cons rfl (Keep.cons rfl (Keep.cons rfl (Keep.cons rfl (Keep.cons rfl (Keep.app rfl (Keep.rm rfl Keep.base)))))))))))))))))))))))))))))))))))))))))))))))))))))))))))⟩, by omega⟩
     ·have hG25 := hg25; try simp only [gS] at hG25
      refine sy_exit ?_
      refine then_e ?_
      refine then_e ?_
      refine blk_e ?_
      refine then_n ?_
      refine sy_seq ?_
      have hvv : v = ps.length := by omega
      have hal := allW_nn (s := s) (ps := ps) (dawn := k % 1441) (n := v) (by omega)
      have hau := allW_le (s := s) (ps := ps) (d := k % 1441) (n := v) (by omega)
      rw [← ht] at hal hau
      refine sy_ops ?_
      refine o_v hf hh (yv_move rfl) ?_; clear hf a; intro a hf
      refine o_v hf hh (yv_cast (yv_bin rfl rfl rfl) (show _ = Value.bool true by refine congrArg Value.bool ?_; simp only [decide_eq_false_iff_not, Bool.not_eq_true', decide_eq_true_eq] <;> omega)) ?_; clear hf a; intro a hf
      refine o_v hf hh (yv_move rfl) ?_; clear hf a; intro a hf
      refine o_off hf ?_; clear hf a; intro a hf
      refine o_off hf ?_; clear hf a; intro a hf
      refine o_off hf ?_; clear hf a; intro a hf
      refine o_off hf ?_; clear hf a; intro a hf
      refine o_off hf ?_; clear hf a; intro a hf
      refine o_v hf hh (y_pt rfl rfl) ?_; clear hf a; intro a hf
      refine o_v hf hh (yv_move rfl) ?_; clear hf a; intro a hf
      refine o_call hf Tryz.en_18 rfl rfl rfl (k18 _) ?_; clear hf a; intro v a w hR hf
      obtain ⟨rfl, hx⟩ := hR; replace hh := hh.more hx; clear hx
      refine o_v hf hh (y_pt rfl rfl) ?_; clear hf a; intro a hf
      refine o_v hf hh (yv_assign rfl) ?_; clear hf a; intro a hf
      refine o_end ?_
      refine sy_ret ?_
      refine ret_r hf rfl rfl ?_
      exact ⟨rfl, hE4.trans hh.ext⟩
set_option maxRecDepth 100000 in
theorem k4d (c : ChD) (sa : Option Addr) (cp : Nat) (k : Int) (u : World) (hI : ChIn u c sa) (hL : c.si.length ≤ 10) (hb : chB c = true) (hn2 : 2 ≤ c.n) (hn7 : c.n ≤ 7) (hk0 : 0 ≤ k) (hk1 : k ≤ 65535) (he : drwE c = 0) (s : Int × Int) (ps : List (Int × Int)) (hsp : drwL c = s :: ps) (hpl : ps.length + 1 = c.n.toNat) (hsB : ∀ x ∈ s :: ps, SpotB x) (hfull : (mostP (strT s ps (k % 1441))).1.length ≠ ps.length) : Calls Tryz.prog 4 #[.agg (chC c sa cp), .int .u16 k] u (Ret fun v w' => v = .bool true ∧ Ext [] u w') := by
  refine calls_of Tryz.func4 rfl rfl (fun a hf => ?_)
  have hh := Hp.init u []
  have hA : ChAt u c sa := hI.at (by omega)
  refine sy_sq ?_
  refine o_box hf hh ?_; clear hf hh a; intro B2 a w hf hh
  refine o_v hf hh (yv_assign rfl) ?_; clear hf a; intro a hf
  refine o_end ?_
  refine sy_seq ?_
  refine sy_sq ?_
  refine o_v hf hh (yv_fieldAddr Tryz.fo_57_1 rfl) ?_; clear hf a; intro a hf
  refine o_v hf hh (y_ld Tryz.sc_55 rfl) ?_; clear hf a; intro a hf
  refine o_v hf hh (yv_len Tryz.se_55 rfl) ?_; clear hf a; intro a hf
  refine o_v hf hh (yv_cast (yv_bin rfl rfl rfl) (show _ = Value.bool false by refine congrArg Value.bool ?_; simp only [decide_eq_false_iff_not, Bool.not_eq_false', decide_eq_true_eq] <;> omega)) ?_; clear hf a; intro a hf
  refine o_v hf hh (yv_move rfl) ?_; clear hf a; intro a hf
  refine o_v hf hh (y_lds Tryz.ag_57 rfl) ?_; clear hf a; intro a hf
  refine o_call hf Tryz.en_17 rfl rfl rfl (k17 c sa cp w (hA.ext hh.ext)) ?_; clear hf a; intro v a w hR hf
  rw [hb] at hR
  obtain ⟨rfl, hx⟩ := hR; replace hh := hh.more hx; clear hx
  refine o_v hf hh (yv_not rfl) ?_; clear hf a; intro a hf
  refine o_v hf hh (y_pf rfl rfl) ?_; clear hf a; intro a hf
  refine o_v hf hh (yv_move rfl) ?_; clear hf a; intro a hf
  refine o_v hf hh (yv_fieldAddr Tryz.fo_57_0 rfl) ?_; clear hf a; intro a hf
  refine o_v hf hh (y_ld Tryz.sc_3 rfl) ?_; clear hf a; intro a hf
  refine o_v hf hh (yv_cast (yv_bin rfl rfl rfl) (show _ = Value.bool false by refine congrArg Value.bool ?_; simp only [decide_eq_false_iff_not, Bool.not_eq_false', decide_eq_true_eq] <;> omega)) ?_; clear hf a; intro a hf
  refine o_v hf hh (y_pf rfl rfl) ?_; clear hf a; intro a hf
  refine o_v hf hh (yv_move rfl) ?_; clear hf a; intro a hf
  refine o_v hf hh (yv_fieldAddr Tryz.fo_57_0 rfl) ?_; clear hf a; intro a hf
  refine o_v hf hh (y_ld Tryz.sc_3 rfl) ?_; clear hf a; intro a hf
  refine o_v hf hh (yv_cast (yv_bin rfl rfl rfl) (show _ = Value.bool false by refine congrArg Value.bool ?_; simp only [decide_eq_false_iff_not, Bool.not_eq_false', decide_eq_true_eq] <;> omega)) ?_; clear hf a; intro a hf
  refine o_v hf hh (y_pf rfl rfl) ?_; clear hf a; intro a hf
  refine o_end ?_
  refine c_f hf ?_
  refine sy_skip ?_
  refine then_n ?_
  refine sy_sq ?_
  refine o_v hf hh (y_lds Tryz.ag_57 rfl) ?_; clear hf a; intro a hf
  refine o_call hf Tryz.en_19 rfl rfl rfl (p19 c sa cp w (hA.ext hh.ext)) ?_; clear hf a; intro v a w hR hf
  obtain ⟨so, co, rfl, hle, hT, hx⟩ := hR; replace hh := hh.more hx; clear hx
  have hE1 := hh.ext
  have hb2 : w.heap[B2]? = some (.cells (chC c sa cp) 57 (0, 0)) := hh.at (i := 0) rfl
  obtain ⟨u1, rfl⟩ : ∃ z, z = w := ⟨_, rfl⟩
  replace hh := Hp.init u1 []
  refine o_v hf hh (yv_move rfl) ?_; clear hf a; intro a hf
  refine o_v hf hh (yv_extract rfl rfl) ?_; clear hf a; intro a hf
  refine o_v hf hh (yv_extract rfl rfl) ?_; clear hf a; intro a hf
  refine o_v hf hh (yv_assign rfl) ?_; clear hf a; intro a hf
  refine o_v hf hh (yv_assign rfl) ?_; clear hf a; intro a hf
  refine o_end ?_
  refine sy_seq ?_
  refine sy_sq ?_
  refine o_v hf hh (yv_move rfl) ?_; clear hf a; intro a hf
  refine o_v hf hh (yv_cast (yv_bin rfl rfl rfl) (show _ = Value.bool false by refine congrArg Value.bool ?_; simp only [decide_eq_false_iff_not, Bool.not_eq_false', decide_eq_true_eq] <;> omega)) ?_; clear hf a; intro a hf
  refine o_end ?_
  refine c_f hf ?_
  refine sy_skip ?_
  refine then_n ?_
  refine sy_seq ?_
  refine sy_seq ?_
  have hlen : (drwL c).length = ps.length + 1 := by rw [hsp]; rfl
  have hT2 : SpAt u1 so (s :: ps) := by rw [← hsp]; exact hT
  refine sy_ops ?_
  refine o_v hf hh (yv_move rfl) ?_; clear hf a; intro a hf
  refine o_v hf hh (yv_len Tryz.se_60 rfl) ?_; clear hf a; intro a hf
  refine o_v hf hh (yv_fieldAddr Tryz.fo_57_0 rfl) ?_; clear hf a; intro a hf
  refine o_v hf hh (y_ld Tryz.sc_3 rfl) ?_; clear hf a; intro a hf
  refine o_v hf hh (yv_cast (yv_bin rfl rfl rfl) (show _ = Value.bool false by refine congrArg Value.bool ?_; simp only [decide_eq_false_iff_not, Bool.not_eq_false', decide_eq_true_eq] <;> omega)) ?_; clear hf a; intro a hf
  refine o_end ?_
  refine c_f hf ?_
  refine sy_skip ?_
  refine then_n ?_
  refine sy_sq ?_
  refine o_v hf hh (yv_move rfl) ?_; clear hf a; intro a hf
  refine o_v hf hh (yv_move rfl) ?_; clear hf a; intro a hf
  first | refine o_v hf hh (yv_convx (.inl rfl) (by kernel_rfl) Tryz.un_3 rfl (by omega) (by simp only [IntKind.top]; omega)) ?_; clear hf a; intro a hf | refine o_v hf hh (yv_conv (by kernel_rfl) Tryz.un_3 rfl) ?_; clear hf a; intro a hf
  refine o_v hf hh (yv_rem rfl rfl (by omega) (by omega)) ?_; clear hf a; intro a hf
  refine o_call hf Tryz.en_20 rfl rfl rfl (k20 s ps so _ co (k % 1441) _ hlen (by omega) (hT2.ext hh.ext) hsB (by omega)) ?_; clear hf a; intro v a w hR hf
  obtain ⟨p, X, rfl, hTo, hX⟩ := hR; replace hh := hh.more hX.ext
  have hTA := hTo w hX.get
  have hE2 := hE1.trans hh.ext
  obtain ⟨t, ht⟩ : ∃ t, t = strT s ps (k % 1441) := ⟨_, rfl⟩
  rw [← ht] at hTA hf hfull
  have hok : touB t = true := touB_iff.2 (by rw [ht]; exact str_ok (by omega) ⟨by omega, by omega⟩)
  have htn : t.fr.length = ps.length := by rw [ht]; exact str_n _ _ _
  have htd : t.dawn = k % 1441 := by rw [ht]; rfl
  obtain ⟨u2, rfl⟩ : ∃ z, z = w := ⟨_, rfl⟩
  replace hh := Hp.init u2 []
  refine o_alloc hf hh Tryz.ze_25 ?_; clear hf hh a; intro B7 a w hf hh
  refine o_store hf hh Tryz.sz_25 fun w hh => ?_
  refine o_end ?_
  refine sy_sq ?_
  refine o_v hf hh (y_lds Tryz.ag_25 rfl) ?_; clear hf a; intro a hf
  refine o_call hf Tryz.en_21 rfl rfl rfl (k21 t p _ (hTA.ext hh.ext) hok) ?_; clear hf a; intro v a w hR hf
  obtain ⟨l1, oa1, cp1, K1, e1, rfl, h21, hV1⟩ := hR; replace hh := hh.more hV1.2.ext
  have hVa := hV1.1 w hV1.2.get
  have hE3 := hE2.trans hh.ext
  have hb7 : w.heap[B7]? = some (.cells (touC t p) 25 (0, 0)) := hh.at (i := 0) rfl
  replace hTA := hTA.ext hh.ext
  obtain ⟨u3, rfl⟩ : ∃ z, z = w := ⟨_, rfl⟩
  replace hh := Hp.init u3 []
  obtain ⟨rfl, hl1⟩ : e1 = 4 ∧ l1 = [] := by
    rcases h21 with h | h
    · exact absurd ((congrArg List.length h.2.1).symm.trans (h.2.2.trans htn)) hfull
    · exact ⟨h.1, h.2.1⟩
  have hl10 : l1.length = 0 := by rw [hl1]; rfl
  refine o_v hf hh (yv_move rfl) ?_; clear hf a; intro a hf
  refine o_v hf hh (yv_extract rfl rfl) ?_; clear hf a; intro a hf
  refine o_v hf hh (yv_extract rfl rfl) ?_; clear hf a; intro a hf
  refine o_v hf hh (yv_assign rfl) ?_; clear hf a; intro a hf
  refine o_v hf hh (yv_assign rfl) ?_; clear hf a; intro a hf
  refine o_end ?_
  refine sy_sq ?_
  refine o_v hf hh (y_lds Tryz.ag_25 rfl) ?_; clear hf a; intro a hf
  refine o_call hf Tryz.en_9 rfl rfl rfl (k9 t p _ (hTA.ext hh.ext)) ?_; clear hf a; intro v a w hR hf
  obtain ⟨l2, oa2, cp2, K2, rfl, hl2, -, hV2⟩ := hR; replace hh := hh.more hV2.2.ext
  have hVb := hV2.1 w hV2.2.get
  replace hVa := hVa.ext hh.ext
  have hE4 := hE3.trans hh.ext
  replace hb7 := hh.ext.get hb7
  replace hTA := hTA.ext hh.ext
  replace hl2 := hl2 hok
  rw [opnE_zero.2 ⟨hok, rfl⟩] at hf
  have hO2 : OrdB t l2 := by rw [hl2]; exact most_ord t
  have hO1 : OrdB t l1 := by rw [hl1]; exact ⟨fun v hv => (by cases hv), List.nodup_nil⟩
  have ho2 := ords_iff.2 hO2
  have ho1 := ords_iff.2 hO1
  have hm1 := ord_le hO1
  have hm2 := ord_le hO2
  obtain ⟨u4, rfl⟩ : ∃ z, z = w := ⟨_, rfl⟩
  replace hh := Hp.init u4 []
  refine o_v hf hh (yv_move rfl) ?_; clear hf a; intro a hf
  refine o_v hf hh (yv_extract rfl rfl) ?_; clear hf a; intro a hf
  refine o_v hf hh (yv_extract rfl rfl) ?_; clear hf a; intro a hf
  refine o_v hf hh (yv_assign rfl) ?_; clear hf a; intro a hf
  refine o_v hf hh (yv_assign rfl) ?_; clear hf a; intro a hf
  refine o_end ?_
  refine sy_seq ?_
  refine sy_sq ?_
  refine o_v hf hh (yv_move rfl) ?_; clear hf a; intro a hf
  refine o_v hf hh (yv_cast (yv_bin rfl rfl rfl) (show _ = Value.bool false by refine congrArg Value.bool ?_; simp only [decide_eq_false_iff_not, Bool.not_eq_false', decide_eq_true_eq] <;> omega)) ?_; clear hf a; intro a hf
  refine o_v hf hh (yv_move rfl) ?_; clear hf a; intro a hf
  refine o_v hf hh (y_lds Tryz.ag_25 rfl) ?_; clear hf a; intro a hf
  refine o_v hf hh (yv_move rfl) ?_; clear hf a; intro a hf
  refine o_call hf Tryz.en_10 rfl rfl rfl (k10 t p (ints l2) l2.length (ints_len _).symm oa2 cp2 _ (by omega) (hVb.ext hh.ext) (by rw [ints_len]; omega)) ?_; clear hf a; intro v a w hR hf
  rw [ho2] at hR
  obtain ⟨rfl, hx⟩ := hR; replace hh := hh.more hx; clear hx
  refine o_v hf hh (yv_not rfl) ?_; clear hf a; intro a hf
  refine o_v hf hh (y_pf rfl rfl) ?_; clear hf a; intro a hf
  refine o_v hf hh (yv_move rfl) ?_; clear hf a; intro a hf
  refine o_v hf hh (yv_move rfl) ?_; clear hf a; intro a hf
  refine o_v hf hh (yv_cast (yv_bin rfl rfl rfl) (show _ = Value.bool true by refine congrArg Value.bool ?_; simp only [decide_eq_false_iff_not, Bool.not_eq_true', decide_eq_true_eq] <;> omega)) ?_; clear hf a; intro a hf
  refine o_v hf hh (yv_move rfl) ?_; clear hf a; intro a hf
  refine o_v hf hh (yv_move rfl) ?_; clear hf a; intro a hf
  refine o_v hf hh (yv_cast (yv_bin rfl rfl rfl) (show _ = Value.bool false by refine congrArg Value.bool ?_; simp only [decide_eq_false_iff_not, Bool.not_eq_false', decide_eq_true_eq] <;> omega)) ?_; clear hf a; intro a hf
  refine o_v hf hh (yv_move rfl) ?_; clear hf a; intro a hf
  refine o_v hf hh (yv_move rfl) ?_; clear hf a; intro a hf
  refine o_v hf hh (yv_len Tryz.se_28 rfl) ?_; clear hf a; intro a hf
  refine o_v hf hh (yv_cast (yv_bin rfl rfl rfl) (show _ = Value.bool false by refine congrArg Value.bool ?_; simp only [decide_eq_false_iff_not, Bool.not_eq_false', decide_eq_true_eq] <;> omega)) ?_; clear hf a; intro a hf
  refine o_v hf hh (y_pf rfl rfl) ?_; clear hf a; intro a hf
  refine o_v hf hh (y_pt rfl rfl) ?_; clear hf a; intro a hf
  refine o_v hf hh (y_pf rfl rfl) ?_; clear hf a; intro a hf
  refine o_v hf hh (yv_move rfl) ?_; clear hf a; intro a hf
  refine o_v hf hh (yv_move rfl) ?_; clear hf a; intro a hf
  refine o_v hf hh (yv_cast (yv_bin rfl rfl rfl) (show _ = Value.bool false by refine congrArg Value.bool ?_; simp only [decide_eq_false_iff_not, Bool.not_eq_false', decide_eq_true_eq] <;> omega)) ?_; clear hf a; intro a hf
  refine o_v hf hh (yv_move rfl) ?_; clear hf a; intro a hf
  refine o_off hf ?_; clear hf a; intro a hf
  refine o_off hf ?_; clear hf a; intro a hf
  refine o_off hf ?_; clear hf a; intro a hf
  refine o_off hf ?_; clear hf a; intro a hf
  refine o_off hf ?_; clear hf a; intro a hf
  refine o_off hf ?_; clear hf a; intro a hf
  refine o_off hf ?_; clear hf a; intro a hf
  refine o_off hf ?_; clear hf a; intro a hf
  refine o_off hf ?_; clear hf a; intro a hf
  refine o_off hf ?_; clear hf a; intro a hf
  refine o_off hf ?_; clear hf a; intro a hf
  refine o_off hf ?_; clear hf a; intro a hf
  refine o_v hf hh (y_pf rfl rfl) ?_; clear hf a; intro a hf
  refine o_v hf hh (y_pf rfl rfl) ?_; clear hf a; intro a hf
  refine o_end ?_
  refine c_f hf ?_
  refine sy_skip ?_
  refine then_n ?_
  refine sy_seq ?_
  refine sy_sq ?_
  refine o_v hf hh (yv_move rfl) ?_; clear hf a; intro a hf
  refine o_v hf hh (yv_move rfl) ?_; clear hf a; intro a hf
  refine ops_buildSl hf hh Tryz.bl_42_2 rfl rfl (.inl rfl) rfl ?_; clear hf hh; clear a; intro B127 a w hf hh
  refine o_v hf hh (yv_len Tryz.se_42 rfl) ?_; clear hf a; intro a hf
  refine o_v hf hh (yv_move rfl) ?_; clear hf a; intro a hf
  refine o_end ?_
  refine sy_block ?_
  refine sy_loopH (σ := Nat) [4, 13, 14, 15, 16, 17, 18, 129, 130, 131, 132, 133, 134, 135, 136, 137, 138, 139, 140, 141, 142, 143, 144, 145, 146, 147, 148, 149, 150, 151, 152, 153, 154, 155, 156, 157, 158, 159, 160, 161, 162, 163, 164, 165, 166, 167, 168, 169, 170, 171, 172, 173, 174, 175, 176, 177, 178, 179, 180, 181, 182, 183, 184, 185] (fun i => [(129, .int .i64 (i : Nat))]) (fun i => fun w' => i ≤ 2 ∧ Hp u4 [] [(B127, .cells #[.slice oa1 l1.length cp1, .slice oa2 l2.length cp2] 28)] w') (fun i => 2 - i) (0) hf ?_ ?_ ?_
  · repeat' (first | exact True.intro | refine And.intro rfl ?_)
  · exact ⟨Nat.zero_le _, hh⟩
  ·rintro i a w ⟨hi, hh⟩ hf
   refine sy_sq ?_
   refine o_v hf hh (yv_bin rfl rfl rfl) ?_; clear hf a; intro a hf
   refine o_end ?_
   refine sy_seq ?_
   refine sy_cond hf rfl (fun hg12 => ?_) (fun hg12 => ?_)
   ·have hG12 := hg12; try simp only [gS] at hG12
    refine sy_skip ?_
    refine then_n ?_
    refine sy_seq ?_
    refine sy_block ?_
    refine sy_seq ?_
    obtain ⟨od, oo, co2, e3, hV3, hO3⟩ : ∃ od oo co2, (#[Value.slice oa1 l1.length cp1, Value.slice oa2 l2.length cp2] : Array Value)[0 + ((i : Nat) : Int).toNat * 1]? = some (.slice oo od.length co2) ∧ VwAt u4 oo (ints od) ∧ OrdB t od := by
      rcases (by omega : i = 0 ∨ i = 1) with rfl | rfl
      · exact ⟨l1, oa1, cp1, rfl, hVa, hO1⟩
      · exact ⟨l2, oa2, cp2, rfl, hVb, hO2⟩
    have hm3 := ord_le hO3
    refine sy_ops ?_
    refine o_v hf hh (y_ix Tryz.se_42 rfl rfl) ?_; clear hf a; intro a hf
    refine o_v hf hh (y_ld Tryz.sc_28 rfl) ?_; clear hf a; intro a hf
    refine o_v hf hh (yv_assign rfl) ?_; clear hf a; intro a hf
    refine o_end ?_
    refine sy_sq ?_
    refine o_v hf hh (y_lds Tryz.ag_25 rfl) ?_; clear hf a; intro a hf
    refine o_v hf hh (yv_move rfl) ?_; clear hf a; intro a hf
    refine o_call hf Tryz.en_22 rfl rfl rfl (k22 t p _ (hTA.ext hh.ext) hok od oo co2 (hV3.ext hh.ext) (ords_iff.2 hO3) hO3.1 (by omega)) ?_; clear hf a; intro v a w hR hf
    obtain ⟨ob, cb, Xb, rfl, hSb, hXb⟩ := hR; replace hh := hh.more hXb.ext
    replace hSb := hSb w hXb.get
    have hh0 := hh
    have hb75 := hh.ext.get hb7
    have hTA5 := hTA.ext hh.ext
    have hV35 := hV3.ext hh.ext
    obtain ⟨u5, rfl⟩ : ∃ z, z = w := ⟨_, rfl⟩
    replace hh := Hp.init u5 []
    refine o_v hf hh (yv_move rfl) ?_; clear hf a; intro a hf
    refine o_v hf hh (yv_extract rfl rfl) ?_; clear hf a; intro a hf
    refine o_v hf hh (yv_extract rfl rfl) ?_; clear hf a; intro a hf
    refine o_v hf hh (yv_extract rfl rfl) ?_; clear hf a; intro a hf
    refine o_alloc hf hh Tryz.ze_49 ?_; clear hf hh a; intro B15 a w hf hh
    refine o_v hf hh (yv_assign rfl) ?_; clear hf a; intro a hf
    refine o_store hf hh Tryz.sz_49 fun w hh => ?_
    refine o_v hf hh (yv_assign rfl) ?_; clear hf a; intro a hf
    refine o_end ?_
    refine sy_seq ?_
    refine sy_sq ?_
    refine o_v hf hh (yv_move rfl) ?_; clear hf a; intro a hf
    refine o_v hf hh (yv_cast (yv_bin rfl rfl rfl) (show _ = Value.bool false by refine congrArg Value.bool ?_; simp only [decide_eq_false_iff_not, Bool.not_eq_false', decide_eq_true_eq] <;> omega)) ?_; clear hf a; intro a hf
    refine o_v hf hh (yv_move rfl) ?_; clear hf a; intro a hf
    refine o_v hf hh (yv_move rfl) ?_; clear hf a; intro a hf
    refine o_v hf hh (yv_len Tryz.se_22 rfl) ?_; clear hf a; intro a hf
    refine o_v hf hh (yv_move rfl) ?_; clear hf a; intro a hf
    refine o_v hf hh (yv_len Tryz.se_28 rfl) ?_; clear hf a; intro a hf
    refine o_v hf hh (yv_cast (yv_bin rfl rfl rfl) (show _ = Value.bool false by refine congrArg Value.bool ?_; simp only [decide_eq_false_iff_not, Bool.not_eq_false', decide_eq_true_eq] <;> omega)) ?_; clear hf a; intro a hf
    refine o_v hf hh (y_pf rfl rfl) ?_; clear hf a; intro a hf
    refine o_end ?_
    refine c_f hf ?_
    refine sy_skip ?_
    refine then_n ?_
    refine sy_sq ?_
    refine o_v hf hh (yv_move rfl) ?_; clear hf a; intro a hf
    refine o_v hf hh (yv_len Tryz.se_28 rfl) ?_; clear hf a; intro a hf
    refine o_v hf hh (yv_move rfl) ?_; clear hf a; intro a hf
    refine o_end ?_
    refine sy_block ?_
    refine sy_loopH (σ := Nat) [4, 17, 18, 151, 152, 153, 154, 155, 156, 157, 158, 159, 160, 161, 162, 163, 164, 165, 166, 167, 168, 169, 170, 171, 172, 173, 174, 175, 176, 177, 178, 179, 180, 181, 182, 183, 184] (fun j => [(151, .int .i64 (j : Nat))]) (fun j => fun w' => j ≤ od.length ∧ Hp u5 [] [] w') (fun j => od.length - j) (0) hf ?_ ?_ ?_
    · repeat' (first | exact True.intro | refine And.intro rfl ?_)
    · exact ⟨Nat.zero_le _, hh.less (.cons _ (.refl _))⟩
    ·rintro j a w ⟨hj, hh⟩ hf
     refine sy_sq ?_
     refine o_v hf hh (yv_bin rfl rfl rfl) ?_; clear hf a; intro a hf
     refine o_end ?_
     refine sy_seq ?_
     refine sy_cond hf rfl (fun hg18 => ?_) (fun hg18 => ?_)
     ·have hG18 := hg18; try simp only [gS] at hG18
      refine sy_skip ?_
      refine then_n ?_
      refine sy_seq ?_
      refine sy_block ?_
      refine sy_seq ?_
      obtain ⟨v, hv⟩ := ex_ofW (l := od) (i := j) (by omega)
      obtain ⟨blkO, offO, ccO, TO, frO, esO, hbO, hcO⟩ := hV35 j _ (Go.WalM.ints_at hv)
      refine sy_ops ?_
      refine o_v hf hh (yv_move rfl) ?_; clear hf a; intro a hf
      refine o_v hf hh (y_ix Tryz.se_28 (congrArg (fun z => some (Value.slice z od.length co2)) esO) rfl) ?_; clear hf a; intro a hf
      refine o_v hf hh (y_ld Tryz.sc_3 rfl) ?_; clear hf a; intro a hf
      refine o_v hf hh (yv_assign rfl) ?_; clear hf a; intro a hf
      refine o_v hf hh (yv_assign rfl) ?_; clear hf a; intro a hf
      refine o_end ?_
      refine sy_seq ?_
      obtain ⟨q, hq, hqv⟩ := beg_get (t := t) hv
      have hS : ((begL t od).map Prod.snd)[j]? = some q.2 := by rw [List.getElem?_map, hq]; rfl
      obtain ⟨blkS, offS, ccS, TS, frS, esS, hbS, hcS, hcS0, hcS1⟩ := sp_two hSb hS
      have hvn : v < t.fr.length := hO3.1 v (List.mem_of_getElem? hv)
      obtain ⟨blkF, offF, ccF, TF, frF, esF, hbF, hcF, hcF0, hcF1⟩ := sp_two hTA5.f (sp0_get hvn)
      have hlow := str_low2 (s := s) (ps := ps) (d := k % 1441) (od := od) (q := q) (by omega) (by rw [← ht]; exact hO3) (by rw [← ht]; exact List.mem_of_getElem? hq)
      have hfb := fr_bd (s := s) (ps := ps) (d := k % 1441) (v := v) (by omega)
      rw [← ht] at hlow hfb
      rw [hqv] at hlow
      refine sy_quiet (C := Hp _ _ _) Tryz.follows (by kernel_rfl) (hh.drawn _) ?_
      refine oq_v hf (yv_move rfl) ?_; clear hf a; intro a hf
      refine oq_v hf (yv_move rfl) ?_; clear hf a; intro a hf
      refine oq_v hf (y_ix Tryz.se_22 (congrArg (fun z => some (Value.slice z od.length cb)) esS) rfl) ?_; clear hf a; intro a hf
      refine oq_v hf (yv_fieldAddr Tryz.fo_49_0 rfl) ?_; clear hf a; intro a hf
      refine oq_v hf (y_ld Tryz.sc_3 rfl) ?_; clear hf a; intro a hf
      refine oq_v hf (yv_fieldAddr Tryz.fo_25_0 rfl) ?_; clear hf a; intro a hf
      refine oq_v hf (y_ld Tryz.sc_3 rfl) ?_; clear hf a; intro a hf
      refine oq_v hf (yv_fieldAddr Tryz.fo_25_1 rfl) ?_; clear hf a; intro a hf
      refine oq_v hf (y_ld Tryz.sc_22 rfl) ?_; clear hf a; intro a hf
      refine oq_v hf (yv_move rfl) ?_; clear hf a; intro a hf
      refine oq_v hf (y_ix Tryz.se_22 (congrArg (fun z => some (Value.slice z t.fr.length p.cf)) esF) rfl) ?_; clear hf a; intro a hf
      refine oq_v hf (yv_fieldAddr Tryz.fo_49_0 rfl) ?_; clear hf a; intro a hf
      refine oq_v hf (y_ld Tryz.sc_3 rfl) ?_; clear hf a; intro a hf
      refine oq_v hf (y_add rfl rfl) ?_; clear hf a; intro a hf
      refine oq_v hf (yv_cast (yv_bin rfl rfl rfl) (show _ = Value.bool false by refine congrArg Value.bool ?_; simp only [decide_eq_false_iff_not, Bool.not_eq_false', decide_eq_true_eq] <;> omega)) ?_; clear hf a; intro a hf
      refine oq_v hf (yv_move rfl) ?_; clear hf a; intro a hf
      refine oq_v hf (yv_move rfl) ?_; clear hf a; intro a hf
      refine oq_v hf (yv_move rfl) ?_; clear hf a; intro a hf
      refine oq_v hf (y_ix Tryz.se_22 (congrArg (fun z => some (Value.slice z od.length cb)) esS) rfl) ?_; clear hf a; intro a hf
      refine oq_v hf (yv_fieldAddr Tryz.fo_49_0 rfl) ?_; clear hf a; intro a hf
      refine oq_v hf (y_ld Tryz.sc_3 rfl) ?_; clear hf a; intro a hf
      refine oq_v hf (yv_move rfl) ?_; clear hf a; intro a hf
      refine oq_v hf (yv_move rfl) ?_; clear hf a; intro a hf
      refine oq_v hf (y_ix Tryz.se_22 (congrArg (fun z => some (Value.slice z od.length cb)) esS) rfl) ?_; clear hf a; intro a hf
      refine oq_v hf (yv_fieldAddr Tryz.fo_49_1 rfl) ?_; clear hf a; intro a hf
      refine oq_v hf (y_ld Tryz.sc_3 rfl) ?_; clear hf a; intro a hf
      refine oq_v hf (yv_cast (yv_bin rfl rfl rfl) (show _ = Value.bool false by refine congrArg Value.bool ?_; simp only [decide_eq_false_iff_not, Bool.not_eq_false', decide_eq_true_eq] <;> omega)) ?_; clear hf a; intro a hf
      refine oq_v hf (y_pf rfl rfl) ?_; clear hf a; intro a hf
      refine q_end fun w hh => ?_
      refine then_n ?_
      refine c_f hf ?_
      refine sy_skip ?_
      refine blk_n ?_
      refine then_n ?_
      refine sy_ops ?_
      refine o_v hf hh (y_add rfl rfl) ?_; clear hf a; intro a hf
      refine o_v hf hh (yv_move rfl) ?_; clear hf a; intro a hf
      refine ops_end ?_
      refine then_n ?_
      exact ⟨j + 1, ⟨⟨by omega, hh⟩, (hf.head (by repeat' (first | exact True.intro | refine And.intro rfl ?_)) (Keep.cons rfl (Keep.cons rfl (Keep.cons rfl (Keep.cons rfl (Keep.cons rfl (Keep.cons rfl (Keep.cons rfl (Keep.cons rfl (Keep.cons rfl (Keep.cons rfl (Keep.cons rfl (Keep.cons rfl (Keep.cons rfl (Keep.cons rfl (Keep.cons rfl (Keep.cons rfl (Keep.cons rfl (Keep.cons rfl (Keep.cons rfl (Keep.cons rfl (Keep.cons rfl (Keep.cons rfl (Keep.cons rfl (Keep.cons rfl (Keep.cons rfl (Keep.cons rfl (Keep.cons rfl (Keep.cons rfl (Keep.cons rfl (Keep.cons rfl (Keep.cons rfl (Keep.cons rfl (Keep.cons rfl (Keep.cons rfl (Keep.cons rfl (Keep.cons rfl (Keep.app rfl (Keep.rm rfl Keep.base)))))))))))))))))))))))))))))))))))))))⟩, by omega⟩
     ·have hG18 := hg18; try simp only [gS] at hG18
      refine sy_exit ?_
      refine then_e ?_
      refine then_e ?_
      refine blk_e ?_
      refine blk_n ?_
      refine then_n ?_
      refine sy_ops ?_
      refine o_v hf hh (y_add rfl rfl) ?_; clear hf a; intro a hf
      refine o_v hf hh (yv_move rfl) ?_; clear hf a; intro a hf
      refine ops_end ?_
      refine then_n ?_
      exact ⟨i + 1, ⟨⟨by omega, hh0.more hh.ext⟩, (hf.head (by repeat' (first | exact True.intro | refine And.intro rfl ?_)) (Keep.cons rfl (Keep.cons rfl (Keep.cons rfl (Keep.app rfl (Keep.rm rfl (Keep.cons rfl (Keep.cons rfl (Keep.cons rfl (Keep.cons rfl (Keep.cons rfl (Keep.cons rfl (Keep.cons rfl (Keep.cons rfl (Keep.cons rfl (Keep.cons rfl (Keep.cons rfl (Keep.cons rfl (Keep.cons rfl (Keep.cons rfl (Keep.cons rfl (Keep.cons rfl (Keep.cons rfl (Keep.cons rfl (Keep.cons rfl (Keep.cons rfl (Keep.cons rfl (Keep.cons rfl (Keep.cons rfl (Keep.cons rfl (Keep.cons rfl (Keep.cons rfl (Keep.app rfl (Keep.rm rfl Keep.base))))))))))))))))))))))))))))))))))⟩, by omega⟩
   ·have hG12 := hg12; try simp only [gS] at hG12
    refine sy_exit ?_
    refine then_e ?_
    refine then_e ?_
    refine blk_e ?_
    refine then_n ?_
    refine sy_sq ?_
    refine o_v hf hh (yv_assign rfl) ?_; clear hf a; intro a hf
    refine o_end ?_
    refine sy_seq ?_
    refine sy_sq ?_
    refine o_v hf hh (yv_fieldAddr Tryz.fo_25_1 rfl) ?_; clear hf a; intro a hf
    refine o_v hf hh (y_ld Tryz.sc_22 rfl) ?_; clear hf a; intro a hf
    refine o_v hf hh (yv_len Tryz.se_22 rfl) ?_; clear hf a; intro a hf
    refine o_v hf hh (yv_move rfl) ?_; clear hf a; intro a hf
    refine o_end ?_
    refine sy_block ?_
    refine sy_loopH (σ := Nat) [4, 19, 20, 21, 22, 23, 24, 189, 190, 191, 192, 193, 194, 195, 196, 197, 198, 199, 200, 201, 202, 203, 204, 205, 206, 207, 208, 209, 210, 211, 212, 213, 214, 215, 216, 217, 218, 219, 220, 221, 222, 223, 224, 225, 226, 227, 228, 229, 230, 231, 232, 233, 234, 235, 236, 237, 238] (fun v => [(189, .int .i64 (v : Nat)), (19, .int .i64 (allW t v))]) (fun v => fun w' => v ≤ t.fr.length ∧ Hp u4 [] [] w') (fun v => t.fr.length - v) (0) hf ?_ ?_ ?_
    · repeat' (first | exact True.intro | refine And.intro rfl ?_)
    · exact ⟨Nat.zero_le _, hh.less (.cons _ (.refl _))⟩
    ·rintro v a w ⟨hv, hh⟩ hf
     refine sy_sq ?_
     refine o_v hf hh (yv_bin rfl rfl rfl) ?_; clear hf a; intro a hf
     refine o_end ?_
     refine sy_seq ?_
     refine sy_cond hf rfl (fun hg25 => ?_) (fun hg25 => ?_)
     ·have hG25 := hg25; try simp only [gS] at hG25
      refine sy_skip ?_
      refine then_n ?_
      refine sy_seq ?_
      refine sy_block ?_
      refine sy_seq ?_
      have hvn : v < t.fr.length := by omega
      obtain ⟨blkF, offF, ccF, TF, frF, esF, hbF, hcF, hcF0, hcF1⟩ := sp_two hTA.f (sp0_get hvn)
      have hfb := fr_bd (s := s) (ps := ps) (d := k % 1441) (v := v) (by omega)
      have hal := allW_nn (s := s) (ps := ps) (dawn := k % 1441) (n := v) (by omega)
      have hau := allW_le (s := s) (ps := ps) (d := k % 1441) (n := v) (by omega)
      have h1 := str_one (s := s) (ps := ps) (dawn := k % 1441) (by omega) (v := v) (by omega)
      rw [← ht] at hfb hal hau h1
      rw [← htd] at h1
      have hO1v : OrdB t [v] := ⟨fun x hx => by rw [List.mem_singleton.1 hx]; exact hvn, by simp⟩
      refine sy_ops ?_
      refine o_v hf hh (yv_move rfl) ?_; clear hf a; intro a hf
      refine o_v hf hh (y_ix Tryz.se_22 (congrArg (fun z => some (Value.slice z t.fr.length p.cf)) esF) rfl) ?_; clear hf a; intro a hf
      refine o_v hf hh (y_lds Tryz.ag_49 rfl) ?_; clear hf a; intro a hf
      refine o_alloc hf hh Tryz.ze_49 ?_; clear hf hh a; intro B21 a w hf hh
      refine o_v hf hh (yv_assign rfl) ?_; clear hf a; intro a hf
      refine o_store hf hh Tryz.sz_49 fun w hh => ?_
      refine o_end ?_
      refine sy_sq ?_
      refine o_v hf hh (y_lds Tryz.ag_25 rfl) ?_; clear hf a; intro a hf
      refine o_v hf hh (yv_move rfl) ?_; clear hf a; intro a hf
      refine ops_buildSl hf hh Tryz.bl_28_1 rfl rfl (.inl rfl) rfl ?_; clear hf hh; clear a; intro B197 a w hf hh
      refine o_call hf Tryz.en_22 rfl rfl rfl (k22 t p _ (hTA.ext hh.ext) hok [v] (some ⟨B197, 0, none⟩) 1 (vw1 (hh.at (i := 0) rfl)) (ords_iff.2 hO1v) hO1v.1 (Nat.le_of_ble_eq_true rfl)) ?_; clear hf a; intro v a w hR hf
      obtain ⟨ob, cb, Xb, rfl, hSb, hXb⟩ := hR; replace hh := hh.more hXb.ext
      replace hSb : SpAt w ob [dup (t.dawn + (sp0 t.fr v).1)] := by have := hSb w hXb.get; rw [h1.1] at this; exact this
      rw [h1.2] at hf
      have hb21 : w.heap[B21]? = some (.cells #[.int .i64 (sp0 t.fr v).1, .int .i64 (sp0 t.fr v).2] 49 (0, 0)) := hh.at (i := 1) rfl
      have hh0 : Hp u4 [] [] w := hh.less (.cons _ (.cons _ (.refl _)))
      have hb75 := hh.ext.get hb7
      obtain ⟨u5, rfl⟩ : ∃ z, z = w := ⟨_, rfl⟩
      replace hh := Hp.init u5 []
      obtain ⟨blkS, offS, ccS, TS, frS, esS, hbS, hcS, hcS0, hcS1⟩ := sp_two (i := 0) hSb rfl
      obtain ⟨m, hm⟩ : ∃ m, m = t.dawn + (sp0 t.fr v).1 := ⟨_, rfl⟩
      refine o_v hf hh (yv_move rfl) ?_; clear hf a; intro a hf
      refine o_v hf hh (yv_extract rfl rfl) ?_; clear hf a; intro a hf
      refine o_v hf hh (yv_extract rfl rfl) ?_; clear hf a; intro a hf
      refine o_v hf hh (yv_extract rfl rfl) ?_; clear hf a; intro a hf
      refine o_alloc hf hh Tryz.ze_49 ?_; clear hf hh a; intro B23 a w hf hh
      refine o_v hf hh (yv_assign rfl) ?_; clear hf a; intro a hf
      refine o_store hf hh Tryz.sz_49 fun w hh => ?_
      refine o_v hf hh (yv_assign rfl) ?_; clear hf a; intro a hf
      refine o_end ?_
      refine sy_seq ?_
      refine sy_seq ?_
      refine sy_tree1 (.p 0 (.p 1 (.p 2 (.p 3 (.p 4 (.p 5 (.p 6 (.p 7 (.p 8 (.p 9 (.q 0 10 (.p 11 (.q 0 12 (.p 13 (.q 0 14 (.p 15 (.p 16 (.q 0 17 (.p 18 (.q 0 19 (.p 20 (.e1 21 (.p 22 (.p 23 (.p 24 (.q 0 25 (.p 26 (.p 27 (.q 0 28 (.p 29 (.p 30 (.fin)))))))))))))))))))))))))))))))) [] Tryz.follows (by kernel_rfl) hh (fun w hh => ?_)
      refine mc_p rfl   hf (yv_move rfl) (.inl rfl) rfl rfl ?_; clear hf a; intro a hf
      refine mc_p rfl   hf (yv_cast (yv_bin rfl rfl rfl) (show _ = Value.bool false by refine congrArg Value.bool ?_; simp only [decide_eq_false_iff_not, Bool.not_eq_false', decide_eq_true_eq] <;> omega)) (.inl rfl) rfl rfl ?_; clear hf a; intro a hf
      refine mc_p rfl   hf (yv_move rfl) (.inl rfl) rfl rfl ?_; clear hf a; intro a hf
      refine mc_p rfl   hf (yv_move rfl) (gon rfl rfl rfl (by first | assumption | rfl | (simp; done) | (simp; omega))) rfl rfl ?_; clear hf a; intro a hf
      refine mc_p rfl   hf (yv_len Tryz.se_22 rfl) (gon rfl rfl rfl (by first | assumption | rfl | (simp; done) | (simp; omega))) rfl rfl ?_; clear hf a; intro a hf
      refine mc_p rfl   hf (yv_cast (yv_bin rfl rfl rfl) (show _ = Value.bool false by rfl)) (gon rfl rfl rfl (by first | assumption | rfl | (simp; done) | (simp; omega))) rfl rfl ?_; clear hf a; intro a hf
      refine mc_p rfl   hf (y_pf rfl rfl) (.inl rfl) rfl rfl ?_; clear hf a; intro a hf
      refine mc_p rfl   hf (yv_move rfl) (.inl rfl) rfl rfl ?_; clear hf a; intro a hf
      refine mc_p rfl   hf (yv_move rfl) (gon rfl rfl rfl (by first | assumption | rfl | (simp; done) | (simp; omega))) rfl rfl ?_; clear hf a; intro a hf
      refine mc_p rfl   hf (y_ix Tryz.se_22 (congrArg (fun z => some (Value.slice z 1 cb)) esS) rfl) (gon rfl rfl rfl (by first | assumption | rfl | (simp; done) | (simp; omega))) rfl rfl ?_; clear hf a; intro a hf
      refine mc_q rfl rfl hh hf (y_lds Tryz.ag_49 rfl) (gon rfl rfl rfl (by first | assumption | rfl | (simp; done) | (simp; omega))) rfl rfl ?_; clear hf a; intro a hf
      refine mc_p rfl   hf (yv_fieldAddr Tryz.fo_25_0 rfl) (gon rfl rfl rfl (by first | assumption | rfl | (simp; done) | (simp; omega))) rfl rfl ?_; clear hf a; intro a hf
      refine mc_q rfl rfl hh hf (y_ld Tryz.sc_3 rfl) (gon rfl rfl rfl (by first | assumption | rfl | (simp; done) | (simp; omega))) rfl rfl ?_; clear hf a; intro a hf
      refine mc_p rfl   hf (yv_fieldAddr Tryz.fo_49_0 rfl) (gon rfl rfl rfl (by first | assumption | rfl | (simp; done) | (simp; omega))) rfl rfl ?_; clear hf a; intro a hf
      refine mc_q rfl rfl hh hf (y_ld Tryz.sc_3 rfl) (gon rfl rfl rfl (by first | assumption | rfl | (simp; done) | (simp; omega))) rfl rfl ?_; clear hf a; intro a hf
      refine mc_p rfl   hf (y_add rfl rfl) (gon rfl rfl rfl (by first | assumption | rfl | (simp; done) | (simp; omega))) rfl rfl ?_; clear hf a; intro a hf
      refine mc_p rfl   hf (yv_fieldAddr Tryz.fo_25_0 rfl) (gon rfl rfl rfl (by first | assumption | rfl | (simp; done) | (simp; omega))) rfl rfl ?_; clear hf a; intro a hf
      refine mc_q rfl rfl hh hf (y_ld Tryz.sc_3 rfl) (gon rfl rfl rfl (by first | assumption | rfl | (simp; done) | (simp; omega))) rfl rfl ?_; clear hf a; intro a hf
      refine mc_p rfl   hf (yv_fieldAddr Tryz.fo_49_0 rfl) (gon rfl rfl rfl (by first | assumption | rfl | (simp; done) | (simp; omega))) rfl rfl ?_; clear hf a; intro a hf
      refine mc_q rfl rfl hh hf (y_ld Tryz.sc_3 rfl) (gon rfl rfl rfl (by first | assumption | rfl | (simp; done) | (simp; omega))) rfl rfl ?_; clear hf a; intro a hf
      refine mc_p rfl   hf (y_add rfl rfl) (gon rfl rfl rfl (by first | assumption | rfl | (simp; done) | (simp; omega))) rfl rfl ?_; clear hf a; intro a hf
      refine mc_e rfl fun Q1 => ?_
      refine o_call hf Tryz.en_15 rfl rfl rfl (k15 (t.dawn + (sp0 t.fr v).1) (t.dawn + (sp0 t.fr v).1) _) ?_; clear hf a; intro v a w hR hf
      obtain ⟨rfl, hx⟩ := hR; replace hh := hh.more hx; clear hx
      refine ops_end ?_
      refine then_n ⟨⟨fun _ _ => hh, trivial⟩, ?_⟩
      refine mc_p rfl   hf (yv_cast (yv_neF [t.dawn + (sp0 t.fr v).1, t.dawn + (sp0 t.fr v).1] [t.dawn + (sp0 t.fr v).1, t.dawn + (sp0 t.fr v).1] (n := 2) (by kernel_rfl) rfl rfl) (show _ = Value.bool false by simp)) (gon rfl rfl rfl (by first | assumption | rfl | (simp; done) | (simp; omega))) rfl rfl ?_; clear hf a; intro a hf
      refine mc_p rfl   hf (y_pf rfl rfl) (.inl rfl) rfl rfl ?_; clear hf a; intro a hf
      refine mc_p rfl   hf (yv_move rfl) (.inl rfl) rfl rfl ?_; clear hf a; intro a hf
      refine mc_q rfl rfl hh hf (y_lds Tryz.ag_49 rfl) (gon rfl rfl rfl (by first | assumption | rfl | (simp; done) | (simp; omega))) rfl rfl ?_; clear hf a; intro a hf
      refine mc_p rfl   hf (yv_move rfl) (gon rfl rfl rfl (by first | assumption | rfl | (simp; done) | (simp; omega))) rfl rfl ?_; clear hf a; intro a hf
      refine mc_p rfl   hf (y_ix Tryz.se_22 (congrArg (fun z => some (Value.slice z 1 cb)) esS) rfl) (gon rfl rfl rfl (by first | assumption | rfl | (simp; done) | (simp; omega))) rfl rfl ?_; clear hf a; intro a hf
      refine mc_q rfl rfl hh hf (y_lds Tryz.ag_49 rfl) (gon rfl rfl rfl (by first | assumption | rfl | (simp; done) | (simp; omega))) rfl rfl ?_; clear hf a; intro a hf
      refine mc_p rfl   hf (yv_cast (yv_neF [t.dawn + (sp0 t.fr v).1, t.dawn + (sp0 t.fr v).1] [t.dawn + (sp0 t.fr v).1, t.dawn + (sp0 t.fr v).1] (n := 2) (by kernel_rfl) rfl rfl) (show _ = Value.bool false by simp)) (gon rfl rfl rfl (by first | assumption | rfl | (simp; done) | (simp; omega))) rfl rfl ?_; clear hf a; intro a hf
      refine mc_p rfl   hf (y_pf rfl rfl) (.inl rfl) rfl rfl ?_; clear hf a; intro a hf
      refine mc_end ?_
      refine then_n ?_
      refine c_f hf ?_
      refine sy_skip ?_
      refine then_n ?_
      refine sy_ops ?_
      refine o_v hf hh (yv_move rfl) ?_; clear hf a; intro a hf
      refine o_v hf hh (yv_fieldAddr Tryz.fo_49_0 rfl) ?_; clear hf a; intro a hf
      refine o_v hf hh (y_ld Tryz.sc_3 rfl) ?_; clear hf a; intro a hf
      refine o_v hf hh (y_mul rfl rfl) ?_; clear hf a; intro a hf
      refine o_v hf hh (y_add rfl rfl) ?_; clear hf a; intro a hf
      refine o_v hf hh (yv_assign rfl) ?_; clear hf a; intro a hf
      refine ops_end ?_
      refine blk_n ?_
      refine then_n ?_
      refine sy_ops ?_
      refine o_v hf hh (y_add rfl rfl) ?_; clear hf a; intro a hf
      refine o_v hf hh (yv_move rfl) ?_; clear hf a; intro a hf
      refine ops_end ?_
      refine then_n ?_
      exact ⟨v + 1, ⟨⟨by omega, hh0.more hh.ext⟩, (hf.head (by repeat' (first | exact True.intro | refine And.intro rfl ?_)) (Keep.cons rfl (Keep.cons rfl (Keep.cons rfl (Keep.cons rfl (Keep.cons rfl (Keep.cons rfl (Keep.cons rfl (Keep.cons rfl (Keep.cons rfl (Keep.cons rfl (Keep.cons rfl (Keep.cons rfl (Keep.cons rfl (Keep.cons rfl (Keep.cons rfl (Keep.cons rfl (Keep.cons rfl (Keep.cons rfl (Keep.cons rfl (Keep.cons rfl (Keep.cons rfl (Keep.cons rfl (Keep.cons rfl (Keep.cons rfl (Keep.cons rfl (Keep.cons rfl (Keep.cons rfl (Keep.cons rfl (Keep.cons rfl (Keep.cons rfl (Keep.cons rfl (Keep.cons rfl (Keep.cons rfl (Keep.cons rfl (Keep.cons rfl (Keep.cons rfl (Keep.cons rfl (Keep.cons rfl (Keep.cons rfl (Keep.cons rfl (Keep.cons rfl (Keep.cons rfl (Keep.cons rfl (Keep.cons rfl (Keep.cons rfl (Keep.cons rfl (Keep.cons rfl (Keep.cons rfl (Keep.cons rfl (Keep.cons rfl (Keep.cons rfl (Keep.cons rfl (Keep.cons rfl (Keep.cons rfl (Keep.cons rfl (Keep.cons rfl (Keep.app rfl (Keep.rm rfl Keep.base)))))))))))))))))))))))))))))))))))))))))))))))))))))))))))⟩, by omega⟩
     ·have hG25 := hg25; try simp only [gS] at hG25
      refine sy_exit ?_
      refine then_e ?_
      refine then_e ?_
      refine blk_e ?_
      refine then_n ?_
      refine sy_seq ?_
      have hvv : v = ps.length := by omega
      have hal := allW_nn (s := s) (ps := ps) (dawn := k % 1441) (n := v) (by omega)
      have hau := allW_le (s := s) (ps := ps) (d := k % 1441) (n := v) (by omega)
      rw [← ht] at hal hau
      have hbig : 1440 < t.dawn + allW t v := by
        rw [hvv]
        exact Int.not_le.1 fun h => hfull (by rw [ht]; exact str_all (by omega) (by rw [← ht, ← htd]; exact h))
      refine sy_ops ?_
      refine o_v hf hh (yv_move rfl) ?_; clear hf a; intro a hf
      refine o_v hf hh (yv_cast (yv_bin rfl rfl rfl) (show _ = Value.bool false by refine congrArg Value.bool ?_; simp only [decide_eq_false_iff_not, Bool.not_eq_false', decide_eq_true_eq] <;> omega)) ?_; clear hf a; intro a hf
      refine o_v hf hh (yv_move rfl) ?_; clear hf a; intro a hf
      refine o_v hf hh (yv_fieldAddr Tryz.fo_25_0 rfl) ?_; clear hf a; intro a hf
      refine o_v hf hh (y_ld Tryz.sc_3 rfl) ?_; clear hf a; intro a hf
      refine o_v hf hh (yv_move rfl) ?_; clear hf a; intro a hf
      refine o_v hf hh (y_add rfl rfl) ?_; clear hf a; intro a hf
      refine o_v hf hh (yv_cast (yv_bin rfl rfl rfl) (show _ = Value.bool true by refine congrArg Value.bool ?_; simp only [decide_eq_false_iff_not, Bool.not_eq_true', decide_eq_true_eq] <;> omega)) ?_; clear hf a; intro a hf
      refine o_v hf hh (y_pf rfl rfl) ?_; clear hf a; intro a hf
      refine o_v hf hh (yv_move rfl) ?_; clear hf a; intro a hf
      refine o_call hf Tryz.en_18 rfl rfl rfl (k18 _) ?_; clear hf a; intro v a w hR hf
      obtain ⟨rfl, hx⟩ := hR; replace hh := hh.more hx; clear hx
      refine o_v hf hh (y_pt rfl rfl) ?_; clear hf a; intro a hf
      refine o_v hf hh (yv_assign rfl) ?_; clear hf a; intro a hf
      refine o_end ?_
      refine sy_ret ?_
      refine ret_r hf rfl rfl ?_
      exact ⟨rfl, hE4.trans hh.ext⟩
end Go.Proofs.YtccpgpnekoncoaaGreat

namespace Go.Proofs.YtccpgpnekoncoaaGreat
open Go Go.Sy Go.WalM Go.ChaM
theorem k4 (c : ChD) (sa : Option Addr) (cp : Nat) (k : Int) (u : World) (hI : ChIn u c sa) (hlen : c.si.length ≤ 9223372036854775807) (hk : 0 ≤ k ∧ k ≤ 65535) : Calls Tryz.prog 4 #[.agg (chC c sa cp), .int .u16 k] u (Ret fun v w' => v = .bool true ∧ Ext [] u w') := by
  by_cases hno : c.si.length ≤ 10 ∧ chB c = true ∧ 2 ≤ c.n ∧ c.n ≤ 7
  · obtain ⟨h1, h2, h3, h4⟩ := hno
    by_cases he : drwE c = 0
    · obtain ⟨s, ps, hsp, hpl, hsB⟩ := str_setup h3 he
      by_cases hf : (mostP (strT s ps (k % 1441))).1.length = ps.length
      · exact k4c c sa cp k u hI h1 h2 h3 h4 hk.1 hk.2 he s ps hsp hpl hsB hf
      · exact k4d c sa cp k u hI h1 h2 h3 h4 hk.1 hk.2 he s ps hsp hpl hsB hf
    · exact k4b c sa cp k u hI h1 h2 h3 h4 he
  · exact k4a c sa cp k u hI hlen hno
end Go.Proofs.YtccpgpnekoncoaaGreat

namespace Go.Proofs.YtccpgpnekoncoaaGreat
open Go Go.Sy Go.ChaM Go.ChangeShapes Go.WideShapes Go.Deep Go.RowKit
theorem hs57 : Tryz.prog.underlying 57 = some (.struct (Tryz.prog.fieldsOf 57)) := by kernel_rfl
theorem fs57 : (Tryz.prog.fieldsOf 57).map (fun f => (f.offset, f.type)) = #[(0, 3), (1, 55)] := by kernel_rfl
theorem co57 : Tryz.prog.cellsOf 57 = 2 := by kernel_rfl
theorem co55 : Tryz.prog.cellsOf 55 = 1 := by kernel_rfl
theorem co3 : Tryz.prog.cellsOf 3 = 1 := by kernel_rfl
theorem un55 : Tryz.prog.underlying 55 = some (.slice 106) := by kernel_rfl
theorem un58 : Tryz.prog.underlying 58 = some (.int .u16) := by kernel_rfl
theorem fk106 : flK Tryz.prog .i64 9 106 = some 6 := by kernel_rfl
theorem un4 : Tryz.prog.underlying 4 = some .bool := by kernel_rfl
theorem own : ownKnob Tryz.prog.godebug = none := by kernel_rfl
def toSi (p : List Int) : SiD := match p with
  | [a, b, c, d, e, f] => ⟨a, b, c, d, e, f⟩
  | _ => ⟨0, 0, 0, 0, 0, 0⟩
theorem toSi_enc {p : List Int} (h : p.length = 6) : siC (toSi p) = p.map (Value.int .i64) := by
  match p, h with
  | [a, b, c, d, e, f], _ => rfl
theorem toSi_bd {p : List Int} (h : p.length = 6) (hb : ∀ z ∈ p, I64 z) : SiI (toSi p) := by
  match p, h with
  | [a, b, c, d, e, f], _ => exact ⟨hb a (by simp), hb b (by simp), hb c (by simp), hb d (by simp), hb e (by simp), hb f (by simp)⟩
theorem tAt_flat {α : Type} {W : World} {sa : Option Addr} {l : List (List Int)} {n : Nat} {enc : α → List Value} {f : List Int → α} (hf : ∀ p ∈ l, enc (f p) = p.map (Value.int .i64)) (h : FlatAt W .i64 sa n l) : TAt n enc W sa (l.map f) := fun i s hi => by
  rw [List.getElem?_map] at hi
  cases hp : l[i]? with
  | none => rw [hp] at hi; cases hi
  | some p =>
    rw [hp] at hi
    cases hi
    obtain ⟨blk, off, c, T, fr, h1, h2, h3⟩ := h i p hp
    exact ⟨blk, off, c, T, fr, h1, h2, by rw [hf p (List.mem_of_getElem? hp)]; exact h3⟩
theorem len2 {l : List Value} (h : l.length = 2) : ∃ a b, l = [a, b] := by
  match l, h with
  | [a, b], _ => exact ⟨a, b, rfl⟩
section
variable {H : Type} {enc : TypeId × Value → H} {W : World} {base : Nat} {spare : Nat → Bool} {held : Bool}
set_option maxRecDepth 100000 in
theorem openCha {r : Reach} {b0 : Nat} {v : Value} {d : DataW H} {p : List MemPlace} (hv : Value.okWide Tryz.prog W r b0 57 v) (h : DataW.Trod enc Tryz.prog W base spare held 57 v d p) : ∃ (c : ChD) (sa : Option Addr) (cp : Nat), v = .agg (chC c sa cp) ∧ ChIn W c sa ∧ c.si.length ≤ 9223372036854775807 := by
  obtain ⟨cs, rfl, hsz⟩ := okWide_struct hs57 hv
  obtain ⟨fuel, h⟩ := h
  obtain ⟨_, hf⟩ := trod_field hs57 h
  rw [fs57] at hf
  rw [co57] at hsz
  obtain ⟨l, rfl⟩ : ∃ l : List Value, cs = l.toArray := ⟨cs.toList, by simp⟩
  obtain ⟨c0, c1, rfl⟩ := len2 (by simpa using hsz)
  replace hf : ∀ (i o : Nat) (u : TypeId) (c : Nat), (#[(0, 3), (1, 55)] : Array (Nat × TypeId))[i]? = some (o, u) → Tryz.prog.cellsOf u = c → ∃ n y, DataW.trod enc Tryz.prog W base spare held n u (([c0, c1].drop o).take c) = some y := hf
  obtain ⟨_, y0, g0⟩ := hf 0 0 3 1 rfl co3
  obtain ⟨_, _, g1⟩ := hf 1 1 55 1 rfl co55
  obtain ⟨n, e1, _, hn⟩ := DataW.trod_int Tryz.un_3 g0
  obtain ⟨l1, s1, a1, e2, m1, b1, f1⟩ := trod_slices un55 fk106 (by omega) g1
  simp at e1 e2
  subst e1; subst e2
  refine ⟨⟨n, l1.map toSi⟩, s1, a1, by simp, ⟨tAt_flat (fun p hp => toSi_enc (b1 p hp).1) f1, wf64 hn, fun s hs => ?_⟩, by simp only [List.length_map]; exact Nat.le_trans m1 (by decide)⟩
  obtain ⟨p, hp, rfl⟩ := List.mem_map.1 hs
  exact toSi_bd (b1 p hp).1 (fun z hz => wf64 ((b1 p hp).2 z hz))
end
end Go.Proofs.YtccpgpnekoncoaaGreat

