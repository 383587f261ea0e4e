/- Lemmas, in order: The document's tour. What the document fixes of tours and agents. TopRound's law: both halves.. -/
import Derived.Test.YtccpgpnekoncoaaGreatQ24
namespace Go.Proofs.YtccpgpnekoncoaaGreat
open Go Go.Sy Go.WalM
theorem k15 (x y : Int) (u : World) : Calls Tryz.prog 15 #[.int .i64 x, .int .i64 y] u (Ret fun v w' => v = swV (x, y) ∧ Ext [] u w') := by
  refine calls_of Tryz.func15 rfl rfl (fun a hf => ?_)
  have hh := Hp.init u []
  refine sy_sq ?_
  refine o_alloc hf hh Tryz.ze_49 ?_; clear hf hh a; intro B4 a w hf hh
  refine o_end ?_
  refine sy_sq ?_
  refine o_v hf hh (yv_move rfl) ?_; clear hf a; intro a hf
  refine o_v hf hh (yv_move rfl) ?_; clear hf a; intro a hf
  refine o_v hf hh (yv_buildS Tryz.bs_49 rfl rfl) ?_; clear hf a; intro a hf
  refine o_store hf hh Tryz.sz_49 fun w hh => ?_
  refine o_end ?_
  refine sy_ret ?_
  refine ret_c (vs := [swV (x, y)]) hf ?_ ?_
  · exact ⟨⟨B4, 0, _, _, _, rfl, hh.at (i := 0) rfl, .inr ⟨2, _, Tryz.ag_49, rfl, rfl⟩⟩, True.intro⟩
  · exact ⟨rfl, hh.ext⟩
def dag26 (B1 B2 B3 B4 : Nat) : Nat → DOp
  | 0 => ⟨9, fun β => .agg #[.int .i64 30, .int .i64 40], fun _ => none, [], [], []⟩
  | 1 => ⟨10, fun β => .agg #[.int .i64 20, .int .i64 20], fun _ => none, [], [], []⟩
  | 2 => ⟨11, fun β => .agg #[.int .i64 60, .int .i64 70], fun _ => none, [], [], []⟩
  | 3 => ⟨12, fun β => .slice (some ⟨β 3, 0, none⟩) 3 3, fun β => some (.cells #[.int .i64 30, .int .i64 40, .int .i64 20, .int .i64 20, .int .i64 60, .int .i64 70] 49), [0, 1, 2], [3], []⟩
  | 4 => ⟨13, fun β => .agg #[.int .i64 0, .int .i64 0], fun _ => none, [], [], [(4, ptr B4 0)]⟩
  | 5 => ⟨14, fun β => .agg #[.int .i64 15, .int .i64 20], fun _ => none, [], [], [(1, ptr B1 0)]⟩
  | 6 => ⟨15, fun β => .agg #[.int .i64 45, .int .i64 50], fun _ => none, [], [], [(2, ptr B2 0)]⟩
  | 7 => ⟨16, fun β => .slice (some ⟨β 7, 0, none⟩) 3 3, fun β => some (.cells #[.int .i64 0, .int .i64 0, .int .i64 15, .int .i64 20, .int .i64 45, .int .i64 50] 49), [4, 5, 6], [7], []⟩
  | 8 => ⟨17, fun β => .agg #[.int .i64 15, .int .i64 20], fun _ => none, [], [], [(1, ptr B1 0)]⟩
  | 9 => ⟨18, fun β => .agg #[.int .i64 0, .int .i64 0], fun _ => none, [], [], [(4, ptr B4 0)]⟩
  | 10 => ⟨19, fun β => .agg #[.int .i64 30, .int .i64 35], fun _ => none, [], [], [(3, ptr B3 0)]⟩
  | 11 => ⟨20, fun β => .slice (some ⟨β 11, 0, none⟩) 3 3, fun β => some (.cells #[.int .i64 15, .int .i64 20, .int .i64 0, .int .i64 0, .int .i64 30, .int .i64 35] 49), [8, 9, 10], [11], []⟩
  | 12 => ⟨21, fun β => .agg #[.int .i64 45, .int .i64 50], fun _ => none, [], [], [(2, ptr B2 0)]⟩
  | 13 => ⟨22, fun β => .agg #[.int .i64 30, .int .i64 35], fun _ => none, [], [], [(3, ptr B3 0)]⟩
  | 14 => ⟨23, fun β => .agg #[.int .i64 0, .int .i64 0], fun _ => none, [], [], [(4, ptr B4 0)]⟩
  | 15 => ⟨24, fun β => .slice (some ⟨β 15, 0, none⟩) 3 3, fun β => some (.cells #[.int .i64 45, .int .i64 50, .int .i64 30, .int .i64 35, .int .i64 0, .int .i64 0] 49), [12, 13, 14], [15], []⟩
  | 16 => ⟨25, fun β => .slice (some ⟨β 16, 0, none⟩) 3 3, fun β => some (.cells #[.slice (some ⟨β 7, 0, none⟩) 3 3, .slice (some ⟨β 11, 0, none⟩) 3 3, .slice (some ⟨β 15, 0, none⟩) 3 3] 22), [7, 11, 15], [16, 7, 11, 15], []⟩
  | 17 => ⟨26, fun β => .agg #[.int .i64 10, .int .i64 15], fun _ => none, [], [], []⟩
  | 18 => ⟨27, fun β => .agg #[.int .i64 20, .int .i64 20], fun _ => none, [], [], []⟩
  | 19 => ⟨28, fun β => .agg #[.int .i64 5, .int .i64 10], fun _ => none, [], [], []⟩
  | 20 => ⟨29, fun β => .slice (some ⟨β 20, 0, none⟩) 3 3, fun β => some (.cells #[.int .i64 10, .int .i64 15, .int .i64 20, .int .i64 20, .int .i64 5, .int .i64 10] 49), [17, 18, 19], [20], []⟩
  | 21 => ⟨30, fun β => .agg #[.int .i64 420, .int .i64 480], fun _ => none, [], [], []⟩
  | 22 => ⟨31, fun β => .agg #[.int .i64 380, .int .i64 600], fun _ => none, [], [], []⟩
  | 23 => ⟨32, fun β => .agg #[.int .i64 500, .int .i64 540], fun _ => none, [], [], []⟩
  | 24 => ⟨33, fun β => .slice (some ⟨β 24, 0, none⟩) 3 3, fun β => some (.cells #[.int .i64 420, .int .i64 480, .int .i64 380, .int .i64 600, .int .i64 500, .int .i64 540] 49), [21, 22, 23], [24], []⟩
  | 25 => ⟨34, fun β => .agg #[.int .i64 360, .slice (some ⟨β 3, 0, none⟩) 3 3, .slice (some ⟨β 16, 0, none⟩) 3 3, .slice (some ⟨β 20, 0, none⟩) 3 3, .slice (some ⟨β 24, 0, none⟩) 3 3], fun _ => none, [3, 16, 20, 24], [3, 16, 7, 11, 15, 20, 24], []⟩
  | _ => ⟨0, fun _ => .bool false, fun _ => none, [], [], []⟩
def tour12 : TourD := ⟨360, [(30, 40), (20, 20), (60, 70)], [[(0, 0), (15, 20), (45, 50)], [(15, 20), (0, 0), (30, 35)], [(45, 50), (30, 35), (0, 0)]], [(10, 15), (20, 20), (5, 10)], [(420, 480), (380, 600), (500, 540)]⟩
set_option maxRecDepth 100000 in
theorem k26 (u : World) : Calls Tryz.prog 26 #[] u (Ret fun v w' => ∃ p : TPl, v = .agg (touC tour12 p) ∧ TouAt w' tour12 p ∧ Ext [] u w') := by
  refine calls_of Tryz.func26 rfl rfl (fun a hf => ?_)
  have hh := Hp.init u []
  refine sy_sq ?_
  refine o_alloc hf hh Tryz.ze_25 ?_; clear hf hh a; intro B0 a w hf hh
  refine o_end ?_
  refine sy_sq ?_
  refine o_call hf Tryz.en_15 rfl rfl rfl (k15 15 20 _) ?_; clear hf a; intro v a w hR hf
  obtain ⟨rfl, hx⟩ := hR; replace hh := hh.more hx; clear hx
  refine o_call hf Tryz.en_15 rfl rfl rfl (k15 45 50 _) ?_; clear hf a; intro v a w hR hf
  obtain ⟨rfl, hx⟩ := hR; replace hh := hh.more hx; clear hx
  refine o_call hf Tryz.en_15 rfl rfl rfl (k15 30 35 _) ?_; clear hf a; intro v a w hR hf
  obtain ⟨rfl, hx⟩ := hR; replace hh := hh.more hx; clear hx
  refine o_call hf Tryz.en_15 rfl rfl rfl (k15 0 0 _) ?_; clear hf a; intro v a w hR hf
  obtain ⟨rfl, hx⟩ := hR; replace hh := hh.more hx; clear hx
  refine o_alloc hf hh Tryz.ze_49 ?_; clear hf hh a; intro B1 a w hf hh
  refine o_alloc hf hh Tryz.ze_49 ?_; clear hf hh a; intro B2 a w hf hh
  refine o_alloc hf hh Tryz.ze_49 ?_; clear hf hh a; intro B3 a w hf hh
  refine o_alloc hf hh Tryz.ze_49 ?_; clear hf hh a; intro B4 a w hf hh
  refine o_store hf hh Tryz.sz_49 fun w hh => ?_
  refine o_store hf hh Tryz.sz_49 fun w hh => ?_
  refine o_store hf hh Tryz.sz_49 fun w hh => ?_
  refine o_store hf hh Tryz.sz_49 fun w hh => ?_
  refine o_end ?_
  refine sy_seq ?_
  replace hh : Hp u [] ([(B4, .cells #[.int .i64 0, .int .i64 0] 49), (B3, .cells #[.int .i64 30, .int .i64 35] 49), (B2, .cells #[.int .i64 45, .int .i64 50] 49), (B1, .cells #[.int .i64 15, .int .i64 20] 49)] ++ [(B0, .cells #[.int .i64 0, .slice none 0 0, .slice none 0 0, .slice none 0 0, .slice none 0 0] 25)]) w := hh
  refine sy_dag (A := 26) (C := AtE u [] [(B4, .cells #[.int .i64 0, .int .i64 0] 49), (B3, .cells #[.int .i64 30, .int .i64 35] 49), (B2, .cells #[.int .i64 45, .int .i64 50] 49), (B1, .cells #[.int .i64 15, .int .i64 20] 49)]) (dag26 B1 B2 B3 B4) Tryz.follows (by kernel_rfl) hf hh (fun H w h => AtE.of h (fun q hq => List.mem_append_right _ (List.mem_append_left _ hq))) ?_ (by show List.Nodup [9, 10, 11, 12, 13, 14, 15, 16, 17, 18, 19, 20, 21, 22, 23, 24, 25, 26, 27, 28, 29, 30, 31, 32, 33, 34]; decide) ?_
  ·intro i hi
   match i, hi with
   | 0, _ => exact ⟨⟨_, rfl, rfl, rfl, rfl, rfl, by kernel_rfl, drun_call (i := 0) Tryz.en_15 rfl (fun _ => rfl) (fun _ => rfl) (fun _ => rfl) (fun β w hC => k15 30 40 w)⟩, by kernel_rfl, fun β β' h => ⟨rfl, rfl⟩, by repeat' (first | exact True.intro | refine And.intro rfl ?_), by kernel_rfl⟩
   | 1, _ => exact ⟨⟨_, rfl, rfl, rfl, rfl, rfl, by kernel_rfl, drun_call (i := 1) Tryz.en_15 rfl (fun _ => rfl) (fun _ => rfl) (fun _ => rfl) (fun β w hC => k15 20 20 w)⟩, by kernel_rfl, fun β β' h => ⟨rfl, rfl⟩, by repeat' (first | exact True.intro | refine And.intro rfl ?_), by kernel_rfl⟩
   | 2, _ => exact ⟨⟨_, rfl, rfl, rfl, rfl, rfl, by kernel_rfl, drun_call (i := 2) Tryz.en_15 rfl (fun _ => rfl) (fun _ => rfl) (fun _ => rfl) (fun β w hC => k15 60 70 w)⟩, by kernel_rfl, fun β β' h => ⟨rfl, rfl⟩, by repeat' (first | exact True.intro | refine And.intro rfl ?_), by kernel_rfl⟩
   | 3, _ => exact ⟨⟨_, rfl, rfl, rfl, rfl, rfl, by kernel_rfl, drun_lay (i := 3) (v := fun β b => .slice (some ⟨b, 0, none⟩) 3 3) (obj := fun β => .cells #[.int .i64 30, .int .i64 40, .int .i64 20, .int .i64 20, .int .i64 60, .int .i64 70] 49) rfl rfl (fun β => lay_buildSl Tryz.bl_22_3 rfl rfl)⟩, by kernel_rfl, fun β β' h => ⟨(by show (.slice (some ⟨β 3, 0, none⟩) 3 3 : Value) = .slice (some ⟨β' 3, 0, none⟩) 3 3; rw [h 3 (by show 3 ∈ [3]; decide)]), rfl⟩, by repeat' (first | exact True.intro | refine And.intro rfl ?_), by kernel_rfl⟩
   | 4, _ => exact ⟨⟨_, rfl, rfl, rfl, rfl, rfl, by kernel_rfl, drun_val (i := 4) rfl (fun β => y_lds Tryz.ag_49 rfl)⟩, by kernel_rfl, fun β β' h => ⟨rfl, rfl⟩, by repeat' (first | exact True.intro | refine And.intro rfl ?_), by kernel_rfl⟩
   | 5, _ => exact ⟨⟨_, rfl, rfl, rfl, rfl, rfl, by kernel_rfl, drun_val (i := 5) rfl (fun β => y_lds Tryz.ag_49 rfl)⟩, by kernel_rfl, fun β β' h => ⟨rfl, rfl⟩, by repeat' (first | exact True.intro | refine And.intro rfl ?_), by kernel_rfl⟩
   | 6, _ => exact ⟨⟨_, rfl, rfl, rfl, rfl, rfl, by kernel_rfl, drun_val (i := 6) rfl (fun β => y_lds Tryz.ag_49 rfl)⟩, by kernel_rfl, fun β β' h => ⟨rfl, rfl⟩, by repeat' (first | exact True.intro | refine And.intro rfl ?_), by kernel_rfl⟩
   | 7, _ => exact ⟨⟨_, rfl, rfl, rfl, rfl, rfl, by kernel_rfl, drun_lay (i := 7) (v := fun β b => .slice (some ⟨b, 0, none⟩) 3 3) (obj := fun β => .cells #[.int .i64 0, .int .i64 0, .int .i64 15, .int .i64 20, .int .i64 45, .int .i64 50] 49) rfl rfl (fun β => lay_buildSl Tryz.bl_22_3 rfl rfl)⟩, by kernel_rfl, fun β β' h => ⟨(by show (.slice (some ⟨β 7, 0, none⟩) 3 3 : Value) = .slice (some ⟨β' 7, 0, none⟩) 3 3; rw [h 7 (by show 7 ∈ [7]; decide)]), rfl⟩, by repeat' (first | exact True.intro | refine And.intro rfl ?_), by kernel_rfl⟩
   | 8, _ => exact ⟨⟨_, rfl, rfl, rfl, rfl, rfl, by kernel_rfl, drun_val (i := 8) rfl (fun β => y_lds Tryz.ag_49 rfl)⟩, by kernel_rfl, fun β β' h => ⟨rfl, rfl⟩, by repeat' (first | exact True.intro | refine And.intro rfl ?_), by kernel_rfl⟩
   | 9, _ => exact ⟨⟨_, rfl, rfl, rfl, rfl, rfl, by kernel_rfl, drun_val (i := 9) rfl (fun β => y_lds Tryz.ag_49 rfl)⟩, by kernel_rfl, fun β β' h => ⟨rfl, rfl⟩, by repeat' (first | exact True.intro | refine And.intro rfl ?_), by kernel_rfl⟩
   | 10, _ => exact ⟨⟨_, rfl, rfl, rfl, rfl, rfl, by kernel_rfl, drun_val (i := 10) rfl (fun β => y_lds Tryz.ag_49 rfl)⟩, by kernel_rfl, fun β β' h => ⟨rfl, rfl⟩, by repeat' (first | exact True.intro | refine And.intro rfl ?_), by kernel_rfl⟩
   | 11, _ => exact ⟨⟨_, rfl, rfl, rfl, rfl, rfl, by kernel_rfl, drun_lay (i := 11) (v := fun β b => .slice (some ⟨b, 0, none⟩) 3 3) (obj := fun β => .cells #[.int .i64 15, .int .i64 20, .int .i64 0, .int .i64 0, .int .i64 30, .int .i64 35] 49) rfl rfl (fun β => lay_buildSl Tryz.bl_22_3 rfl rfl)⟩, by kernel_rfl, fun β β' h => ⟨(by show (.slice (some ⟨β 11, 0, none⟩) 3 3 : Value) = .slice (some ⟨β' 11, 0, none⟩) 3 3; rw [h 11 (by show 11 ∈ [11]; decide)]), rfl⟩, by repeat' (first | exact True.intro | refine And.intro rfl ?_), by kernel_rfl⟩
   | 12, _ => exact ⟨⟨_, rfl, rfl, rfl, rfl, rfl, by kernel_rfl, drun_val (i := 12) rfl (fun β => y_lds Tryz.ag_49 rfl)⟩, by kernel_rfl, fun β β' h => ⟨rfl, rfl⟩, by repeat' (first | exact True.intro | refine And.intro rfl ?_), by kernel_rfl⟩
   | 13, _ => exact ⟨⟨_, rfl, rfl, rfl, rfl, rfl, by kernel_rfl, drun_val (i := 13) rfl (fun β => y_lds Tryz.ag_49 rfl)⟩, by kernel_rfl, fun β β' h => ⟨rfl, rfl⟩, by repeat' (first | exact True.intro | refine And.intro rfl ?_), by kernel_rfl⟩
   | 14, _ => exact ⟨⟨_, rfl, rfl, rfl, rfl, rfl, by kernel_rfl, drun_val (i := 14) rfl (fun β => y_lds Tryz.ag_49 rfl)⟩, by kernel_rfl, fun β β' h => ⟨rfl, rfl⟩, by repeat' (first | exact True.intro | refine And.intro rfl ?_), by kernel_rfl⟩
   | 15, _ => exact ⟨⟨_, rfl, rfl, rfl, rfl, rfl, by kernel_rfl, drun_lay (i := 15) (v := fun β b => .slice (some ⟨b, 0, none⟩) 3 3) (obj := fun β => .cells #[.int .i64 45, .int .i64 50, .int .i64 30, .int .i64 35, .int .i64 0, .int .i64 0] 49) rfl rfl (fun β => lay_buildSl Tryz.bl_22_3 rfl rfl)⟩, by kernel_rfl, fun β β' h => ⟨(by show (.slice (some ⟨β 15, 0, none⟩) 3 3 : Value) = .slice (some ⟨β' 15, 0, none⟩) 3 3; rw [h 15 (by show 15 ∈ [15]; decide)]), rfl⟩, by repeat' (first | exact True.intro | refine And.intro rfl ?_), by kernel_rfl⟩
   | 16, _ => exact ⟨⟨_, rfl, rfl, rfl, rfl, rfl, by kernel_rfl, drun_lay (i := 16) (v := fun β b => .slice (some ⟨b, 0, none⟩) 3 3) (obj := fun β => .cells #[.slice (some ⟨β 7, 0, none⟩) 3 3, .slice (some ⟨β 11, 0, none⟩) 3 3, .slice (some ⟨β 15, 0, none⟩) 3 3] 22) rfl rfl (fun β => lay_buildSl Tryz.bl_23_3 rfl rfl)⟩, by kernel_rfl, fun β β' h => ⟨(by show (.slice (some ⟨β 16, 0, none⟩) 3 3 : Value) = .slice (some ⟨β' 16, 0, none⟩) 3 3; rw [h 16 (by show 16 ∈ [16, 7, 11, 15]; decide)]), (by show (some (.cells #[.slice (some ⟨β 7, 0, none⟩) 3 3, .slice (some ⟨β 11, 0, none⟩) 3 3, .slice (some ⟨β 15, 0, none⟩) 3 3] 22) : Option Obj) = some (.cells #[.slice (some ⟨β' 7, 0, none⟩) 3 3, .slice (some ⟨β' 11, 0, none⟩) 3 3, .slice (some ⟨β' 15, 0, none⟩) 3 3] 22); rw [h 7 (by show 7 ∈ [16, 7, 11, 15]; decide), h 11 (by show 11 ∈ [16, 7, 11, 15]; decide), h 15 (by show 15 ∈ [16, 7, 11, 15]; decide)])⟩, by repeat' (first | exact True.intro | refine And.intro rfl ?_), by kernel_rfl⟩
   | 17, _ => exact ⟨⟨_, rfl, rfl, rfl, rfl, rfl, by kernel_rfl, drun_call (i := 17) Tryz.en_15 rfl (fun _ => rfl) (fun _ => rfl) (fun _ => rfl) (fun β w hC => k15 10 15 w)⟩, by kernel_rfl, fun β β' h => ⟨rfl, rfl⟩, by repeat' (first | exact True.intro | refine And.intro rfl ?_), by kernel_rfl⟩
   | 18, _ => exact ⟨⟨_, rfl, rfl, rfl, rfl, rfl, by kernel_rfl, drun_call (i := 18) Tryz.en_15 rfl (fun _ => rfl) (fun _ => rfl) (fun _ => rfl) (fun β w hC => k15 20 20 w)⟩, by kernel_rfl, fun β β' h => ⟨rfl, rfl⟩, by repeat' (first | exact True.intro | refine And.intro rfl ?_), by kernel_rfl⟩
   | 19, _ => exact ⟨⟨_, rfl, rfl, rfl, rfl, rfl, by kernel_rfl, drun_call (i := 19) Tryz.en_15 rfl (fun _ => rfl) (fun _ => rfl) (fun _ => rfl) (fun β w hC => k15 5 10 w)⟩, by kernel_rfl, fun β β' h => ⟨rfl, rfl⟩, by repeat' (first | exact True.intro | refine And.intro rfl ?_), by kernel_rfl⟩
   | 20, _ => exact ⟨⟨_, rfl, rfl, rfl, rfl, rfl, by kernel_rfl, drun_lay (i := 20) (v := fun β b => .slice (some ⟨b, 0, none⟩) 3 3) (obj := fun β => .cells #[.int .i64 10, .int .i64 15, .int .i64 20, .int .i64 20, .int .i64 5, .int .i64 10] 49) rfl rfl (fun β => lay_buildSl Tryz.bl_22_3 rfl rfl)⟩, by kernel_rfl, fun β β' h => ⟨(by show (.slice (some ⟨β 20, 0, none⟩) 3 3 : Value) = .slice (some ⟨β' 20, 0, none⟩) 3 3; rw [h 20 (by show 20 ∈ [20]; decide)]), rfl⟩, by repeat' (first | exact True.intro | refine And.intro rfl ?_), by kernel_rfl⟩
   | 21, _ => exact ⟨⟨_, rfl, rfl, rfl, rfl, rfl, by kernel_rfl, drun_call (i := 21) Tryz.en_15 rfl (fun _ => rfl) (fun _ => rfl) (fun _ => rfl) (fun β w hC => k15 420 480 w)⟩, by kernel_rfl, fun β β' h => ⟨rfl, rfl⟩, by repeat' (first | exact True.intro | refine And.intro rfl ?_), by kernel_rfl⟩
   | 22, _ => exact ⟨⟨_, rfl, rfl, rfl, rfl, rfl, by kernel_rfl, drun_call (i := 22) Tryz.en_15 rfl (fun _ => rfl) (fun _ => rfl) (fun _ => rfl) (fun β w hC => k15 380 600 w)⟩, by kernel_rfl, fun β β' h => ⟨rfl, rfl⟩, by repeat' (first | exact True.intro | refine And.intro rfl ?_), by kernel_rfl⟩
   | 23, _ => exact ⟨⟨_, rfl, rfl, rfl, rfl, rfl, by kernel_rfl, drun_call (i := 23) Tryz.en_15 rfl (fun _ => rfl) (fun _ => rfl) (fun _ => rfl) (fun β w hC => k15 500 540 w)⟩, by kernel_rfl, fun β β' h => ⟨rfl, rfl⟩, by repeat' (first | exact True.intro | refine And.intro rfl ?_), by kernel_rfl⟩
   | 24, _ => exact ⟨⟨_, rfl, rfl, rfl, rfl, rfl, by kernel_rfl, drun_lay (i := 24) (v := fun β b => .slice (some ⟨b, 0, none⟩) 3 3) (obj := fun β => .cells #[.int .i64 420, .int .i64 480, .int .i64 380, .int .i64 600, .int .i64 500, .int .i64 540] 49) rfl rfl (fun β => lay_buildSl Tryz.bl_22_3 rfl rfl)⟩, by kernel_rfl, fun β β' h => ⟨(by show (.slice (some ⟨β 24, 0, none⟩) 3 3 : Value) = .slice (some ⟨β' 24, 0, none⟩) 3 3; rw [h 24 (by show 24 ∈ [24]; decide)]), rfl⟩, by repeat' (first | exact True.intro | refine And.intro rfl ?_), by kernel_rfl⟩
   | 25, _ => exact ⟨⟨_, rfl, rfl, rfl, rfl, rfl, by kernel_rfl, drun_val (i := 25) rfl (fun β => yv_buildS Tryz.bs_25 rfl rfl)⟩, by kernel_rfl, fun β β' h => ⟨(by show (.agg #[.int .i64 360, .slice (some ⟨β 3, 0, none⟩) 3 3, .slice (some ⟨β 16, 0, none⟩) 3 3, .slice (some ⟨β 20, 0, none⟩) 3 3, .slice (some ⟨β 24, 0, none⟩) 3 3] : Value) = .agg #[.int .i64 360, .slice (some ⟨β' 3, 0, none⟩) 3 3, .slice (some ⟨β' 16, 0, none⟩) 3 3, .slice (some ⟨β' 20, 0, none⟩) 3 3, .slice (some ⟨β' 24, 0, none⟩) 3 3]; rw [h 3 (by show 3 ∈ [3, 16, 7, 11, 15, 20, 24]; decide), h 16 (by show 16 ∈ [3, 16, 7, 11, 15, 20, 24]; decide), h 20 (by show 20 ∈ [3, 16, 7, 11, 15, 20, 24]; decide), h 24 (by show 24 ∈ [3, 16, 7, 11, 15, 20, 24]; decide)]), rfl⟩, by repeat' (first | exact True.intro | refine And.intro rfl ?_), by kernel_rfl⟩
   | n + 26, h => exact absurd h (by omega)
  ·intro β a w hf hh
   replace hf : Fr _ _ ([(9, .agg #[.int .i64 30, .int .i64 40]), (10, .agg #[.int .i64 20, .int .i64 20]), (11, .agg #[.int .i64 60, .int .i64 70]), (12, .slice (some ⟨β 3, 0, none⟩) 3 3), (13, .agg #[.int .i64 0, .int .i64 0]), (14, .agg #[.int .i64 15, .int .i64 20]), (15, .agg #[.int .i64 45, .int .i64 50]), (16, .slice (some ⟨β 7, 0, none⟩) 3 3), (17, .agg #[.int .i64 15, .int .i64 20]), (18, .agg #[.int .i64 0, .int .i64 0]), (19, .agg #[.int .i64 30, .int .i64 35]), (20, .slice (some ⟨β 11, 0, none⟩) 3 3), (21, .agg #[.int .i64 45, .int .i64 50]), (22, .agg #[.int .i64 30, .int .i64 35]), (23, .agg #[.int .i64 0, .int .i64 0]), (24, .slice (some ⟨β 15, 0, none⟩) 3 3), (25, .slice (some ⟨β 16, 0, none⟩) 3 3), (26, .agg #[.int .i64 10, .int .i64 15]), (27, .agg #[.int .i64 20, .int .i64 20]), (28, .agg #[.int .i64 5, .int .i64 10]), (29, .slice (some ⟨β 20, 0, none⟩) 3 3), (30, .agg #[.int .i64 420, .int .i64 480]), (31, .agg #[.int .i64 380, .int .i64 600]), (32, .agg #[.int .i64 500, .int .i64 540]), (33, .slice (some ⟨β 24, 0, none⟩) 3 3), (34, .agg #[.int .i64 360, .slice (some ⟨β 3, 0, none⟩) 3 3, .slice (some ⟨β 16, 0, none⟩) 3 3, .slice (some ⟨β 20, 0, none⟩) 3 3, .slice (some ⟨β 24, 0, none⟩) 3 3])] ++ _) a := hf
   replace hh : Hp _ _ ([(β 3, (.cells #[.int .i64 30, .int .i64 40, .int .i64 20, .int .i64 20, .int .i64 60, .int .i64 70] 49)), (β 7, (.cells #[.int .i64 0, .int .i64 0, .int .i64 15, .int .i64 20, .int .i64 45, .int .i64 50] 49)), (β 11, (.cells #[.int .i64 15, .int .i64 20, .int .i64 0, .int .i64 0, .int .i64 30, .int .i64 35] 49)), (β 15, (.cells #[.int .i64 45, .int .i64 50, .int .i64 30, .int .i64 35, .int .i64 0, .int .i64 0] 49)), (β 16, (.cells #[.slice (some ⟨β 7, 0, none⟩) 3 3, .slice (some ⟨β 11, 0, none⟩) 3 3, .slice (some ⟨β 15, 0, none⟩) 3 3] 22)), (β 20, (.cells #[.int .i64 10, .int .i64 15, .int .i64 20, .int .i64 20, .int .i64 5, .int .i64 10] 49)), (β 24, (.cells #[.int .i64 420, .int .i64 480, .int .i64 380, .int .i64 600, .int .i64 500, .int .i64 540] 49))] ++ _) w := hh
   simp only [List.cons_append, List.nil_append] at hf hh
   obtain ⟨B12, hB12⟩ : ∃ b, b = β 3 := ⟨_, rfl⟩
   rw [← hB12] at hf hh; clear hB12
   obtain ⟨B16, hB16⟩ : ∃ b, b = β 7 := ⟨_, rfl⟩
   rw [← hB16] at hf hh; clear hB16
   obtain ⟨B20, hB20⟩ : ∃ b, b = β 11 := ⟨_, rfl⟩
   rw [← hB20] at hf hh; clear hB20
   obtain ⟨B24, hB24⟩ : ∃ b, b = β 15 := ⟨_, rfl⟩
   rw [← hB24] at hf hh; clear hB24
   obtain ⟨B25, hB25⟩ : ∃ b, b = β 16 := ⟨_, rfl⟩
   rw [← hB25] at hf hh; clear hB25
   obtain ⟨B29, hB29⟩ : ∃ b, b = β 20 := ⟨_, rfl⟩
   rw [← hB29] at hf hh; clear hB29
   obtain ⟨B33, hB33⟩ : ∃ b, b = β 24 := ⟨_, rfl⟩
   rw [← hB33] at hf hh; clear hB33
   refine mc_e rfl fun Q1 => ?_
   refine o_store hf hh Tryz.sz_25 fun w hh => ?_
   refine ops_end ?_
   refine then_n ⟨trivial, ?_⟩
   refine then_n ?_
   refine sy_ret ?_
   refine ret_c (vs := [.agg #[.int .i64 360, .slice (some ⟨B12, 0, none⟩) 3 3, .slice (some ⟨B25, 0, none⟩) 3 3, .slice (some ⟨B29, 0, none⟩) 3 3, .slice (some ⟨B33, 0, none⟩) 3 3]]) hf ?_ ?_
   · exact ⟨⟨B0, 0, _, _, _, rfl, hh.at (i := 11) rfl, .inr ⟨5, _, Tryz.ag_25, rfl, rfl⟩⟩, True.intro⟩
   · refine ⟨⟨some ⟨B12, 0, none⟩, some ⟨B25, 0, none⟩, some ⟨B29, 0, none⟩, some ⟨B33, 0, none⟩, 3, 3, 3, 3, [([(0, 0), (15, 20), (45, 50)], some ⟨B16, 0, none⟩, 3), ([(15, 20), (0, 0), (30, 35)], some ⟨B20, 0, none⟩, 3), ([(45, 50), (30, 35), (0, 0)], some ⟨B24, 0, none⟩, 3)]⟩, rfl, ⟨sp3 (hh.at (i := 0) rfl), rows3 (hh.at (i := 4) rfl), fun r hr => ?_, rfl, sp3 (hh.at (i := 5) rfl), sp3 (hh.at (i := 6) rfl), by decide, by decide, by decide, by decide, fun r hr => ?_⟩, hh.ext⟩
     simp only [List.mem_cons, List.not_mem_nil, or_false] at hr
     rcases hr with rfl | rfl | rfl
     · exact sp3 (hh.at (i := 1) rfl)
     · exact sp3 (hh.at (i := 2) rfl)
     · exact sp3 (hh.at (i := 3) rfl)
     simp only [List.mem_cons, List.not_mem_nil, or_false] at hr
     rcases hr with rfl | rfl | rfl <;> exact Nat.le_of_ble_eq_true rfl
end Go.Proofs.YtccpgpnekoncoaaGreat

namespace Go.Proofs.YtccpgpnekoncoaaGreat
open Go Go.Sy Go.WalM
theorem k27 (l m : List Int) (sa sb : Option Addr) (ca cb : Nat) (u : World) (hA : VwAt u sa l) (hB : VwAt u sb m) (hl : l.length ≤ 1000) (hm : m.length ≤ 1000) : Calls Tryz.prog 27 #[.slice sa l.length ca, .slice sb m.length cb] u (Ret fun v w' => v = .bool (decide (l = m)) ∧ Ext [] u w') := by
  refine calls_of Tryz.func27 rfl rfl (fun a hf => ?_)
  have hh := Hp.init u []
  refine sy_sq ?_
  refine o_v hf hh (yv_assign rfl) ?_; clear hf a; intro a hf
  refine o_end ?_
  refine sy_seq ?_
  refine sy_sq ?_
  refine o_v hf hh (yv_move rfl) ?_; clear hf a; intro a hf
  refine o_v hf hh (yv_len Tryz.se_28 rfl) ?_; clear hf a; intro a hf
  refine o_v hf hh (yv_move rfl) ?_; clear hf a; intro a hf
  refine o_v hf hh (yv_len Tryz.se_28 rfl) ?_; clear hf a; intro a hf
  refine o_v hf hh (yv_bin rfl rfl rfl) ?_; clear hf a; intro a hf
  refine o_end ?_
  refine sy_cond hf rfl (fun hg2 => ?_) (fun hg2 => ?_)
  ·have hG2 := hg2; try simp only [gS] at hG2
   refine sy_sq ?_
   refine o_v hf hh (yv_assign rfl) ?_; clear hf a; intro a hf
   refine o_end ?_
   refine sy_ret ?_
   refine then_r ?_
   refine ret_r hf rfl rfl ?_
   exact ⟨congrArg Value.bool (decide_eq_false fun e => by have := congrArg List.length e; omega).symm, hh.ext⟩
  ·have hG2 := hg2; try simp only [gS] at hG2
   refine sy_skip ?_
   refine then_n ?_
   refine sy_seq ?_
   refine sy_sq ?_
   refine o_v hf hh (yv_assign rfl) ?_; clear hf a; intro a hf
   refine o_end ?_
   refine sy_block ?_
   refine sy_loopF (σ := Nat) [4, 5, 11, 12, 13, 14, 15, 16, 17, 18, 19, 20, 21, 22, 23, 24, 25] (fun i => [(5, .int .i64 (i : Nat))]) (fun i => i ≤ l.length ∧ l.length = m.length ∧ l.take i = m.take i) (fun i => l.length - i) (0) hf hh ?_ ?_ ?_
   · repeat' (first | exact True.intro | refine And.intro rfl ?_)
   · exact ⟨Nat.zero_le _, by omega, rfl⟩
   ·rintro i a w ⟨hi, hlm, hta⟩ hf hh
    refine sy_seq ?_
    refine sy_sq ?_
    refine o_v hf hh (yv_move rfl) ?_; clear hf a; intro a hf
    refine o_v hf hh (yv_move rfl) ?_; clear hf a; intro a hf
    refine o_v hf hh (yv_len Tryz.se_28 rfl) ?_; clear hf a; intro a hf
    refine o_v hf hh (yv_bin rfl rfl rfl) ?_; clear hf a; intro a hf
    refine o_end ?_
    refine sy_cond hf rfl (fun hg4 => ?_) (fun hg4 => ?_)
    ·have hG4 := hg4; try simp only [gS] at hG4
     refine sy_skip ?_
     refine then_n ?_
     refine sy_seq ?_
     refine sy_block ?_
     refine sy_seq ?_
     obtain ⟨x, hx⟩ := ex_ofW (l := l) (i := i) (by omega)
     obtain ⟨y, hy⟩ := ex_ofW (l := m) (i := i) (by omega)
     obtain ⟨blk1, off1, cc1, T1, fr1, es1, hb1, hc1⟩ := hA i x hx; subst es1
     obtain ⟨blk2, off2, cc2, T2, fr2, es2, hb2, hc2⟩ := hB i y hy; subst es2
     refine sy_quiet (C := Hp _ _ _) Tryz.follows (by kernel_rfl) (hh.drawn _) ?_
     refine oq_v hf (yv_move rfl) ?_; clear hf a; intro a hf
     refine oq_v hf (yv_move rfl) ?_; clear hf a; intro a hf
     refine oq_v hf (y_ix Tryz.se_28 rfl rfl) ?_; clear hf a; intro a hf
     refine oq_v hf (y_ld Tryz.sc_3 rfl) ?_; clear hf a; intro a hf
     refine oq_v hf (yv_move rfl) ?_; clear hf a; intro a hf
     refine oq_v hf (yv_move rfl) ?_; clear hf a; intro a hf
     refine oq_v hf (y_ix Tryz.se_28 rfl rfl) ?_; clear hf a; intro a hf
     refine oq_v hf (y_ld Tryz.sc_3 rfl) ?_; clear hf a; intro a hf
     refine oq_v hf (yv_bin rfl rfl rfl) ?_; clear hf a; intro a hf
     refine q_end fun w hh => ?_
     refine then_n ?_
     refine sy_cond hf rfl (fun hg6 => ?_) (fun hg6 => ?_)
     ·have hG6 := hg6; try simp only [gS] at hG6
      refine sy_sq ?_
      refine o_v hf hh (yv_assign rfl) ?_; clear hf a; intro a hf
      refine o_end ?_
      refine sy_ret ?_
      refine blk_r ?_
      refine then_r ?_
      refine then_r ?_
      refine blk_r ?_
      refine then_r ?_
      refine ret_r hf rfl rfl ?_
      exact ⟨congrArg Value.bool (decide_eq_false fun e => by
        rw [e] at hx
        rw [hx] at hy
        simp only [Option.some.injEq] at hy
        omega).symm, hh.ext⟩
     ·have hG6 := hg6; try simp only [gS] at hG6
      refine sy_skip ?_
      refine blk_n ?_
      refine then_n ?_
      refine sy_ops ?_
      refine o_v hf hh (yv_move rfl) ?_; clear hf a; intro a hf
      refine o_v hf hh (y_add rfl rfl) ?_; clear hf a; intro a hf
      refine o_v hf hh (yv_assign rfl) ?_; clear hf a; intro a hf
      refine ops_end ?_
      refine then_n ?_
      exact ⟨i + 1, ⟨⟨by omega, hlm, by rw [take_snoc hx, take_snoc hy, hta, show x = y by omega]⟩, (hf.head (by repeat' (first | exact True.intro | refine And.intro rfl ?_)) (Keep.cons rfl (Keep.cons rfl (Keep.cons rfl (Keep.cons rfl (Keep.cons rfl (Keep.cons rfl (Keep.cons rfl (Keep.cons rfl (Keep.cons rfl (Keep.cons rfl (Keep.cons rfl (Keep.cons rfl (Keep.cons rfl (Keep.cons rfl (Keep.cons rfl (Keep.cons rfl (Keep.app rfl (Keep.rm rfl Keep.base))))))))))))))))))), hh⟩, by omega⟩
    ·have hG4 := hg4; try simp only [gS] at hG4
     refine sy_exit ?_
     refine then_e ?_
     refine then_e ?_
     refine blk_e ?_
     refine then_n ?_
     refine sy_sq ?_
     refine o_v hf hh (yv_assign rfl) ?_; clear hf a; intro a hf
     refine o_end ?_
     refine sy_ret ?_
     refine ret_r hf rfl rfl ?_
     have e : l = m := by
       rw [← List.take_length (l := l), ← List.take_length (l := m), ← hlm, show l.length = i by omega]
       exact hta
     exact ⟨congrArg Value.bool (decide_eq_true e).symm, hh.ext⟩
theorem tour12_ok : touB tour12 = true := by kernel_rfl
theorem tour12_most : (mostP tour12).1 = [1, 0, 2] := by kernel_rfl
theorem com12 : RoyM.comW ⟨20, 3, 30⟩ 99 4 = 89 ∧ RoyM.comE ⟨20, 3, 30⟩ 99 4 = 0 := ⟨by kernel_rfl, by kernel_rfl⟩
theorem in12 {w : World} {B : Nat} (h : w.heap[B]? = some (.cells #[.int .i64 1, .int .i64 0, .int .i64 2] 3 (0, 0))) : VwAt w (some ⟨B, 0, none⟩) [1, 0, 2] := fun i s hi => by
  refine ⟨B, 0, _, 3, _, rfl, h, ?_⟩
  match i, hi with
  | 0, hi => cases hi; rfl
  | 1, hi => cases hi; rfl
  | 2, hi => cases hi; rfl
  | n + 3, hi => cases hi
theorem k8 (u : World) : Calls Tryz.prog 8 #[] u (Ret fun v w' => v = .bool true ∧ Ext [] u w') := by
  refine calls_of Tryz.func8 rfl rfl (fun a hf => ?_)
  have hh := Hp.init u []
  refine sy_sq ?_
  refine o_v hf hh (yv_assign rfl) ?_; clear hf a; intro a hf
  refine o_end ?_
  refine sy_sq ?_
  refine o_call hf Tryz.en_26 rfl rfl rfl (k26 _) ?_; clear hf a; intro v a w hR hf
  obtain ⟨p, rfl, hA, hx⟩ := hR; replace hh := hh.more hx; clear hx
  refine o_call hf Tryz.en_9 rfl rfl rfl (k9 tour12 p _ (hA.ext (Ext.refl _ _))) ?_; clear hf a; intro v a w hR hf
  obtain ⟨l, oa, cp, K, rfl, hl, -, hV, hx⟩ := hR; replace hl : l = [1, 0, 2] := (hl tour12_ok).trans tour12_most
  subst hl
  replace hh := (hh.join hx)
  have eo : opnE tour12 true = 0 := opnE_zero.2 ⟨tour12_ok, rfl⟩
  rw [eo] at hf
  clear eo
  refine o_v hf hh (yv_move rfl) ?_; clear hf a; intro a hf
  refine o_v hf hh (yv_extract rfl rfl) ?_; clear hf a; intro a hf
  refine o_v hf hh (yv_extract rfl rfl) ?_; clear hf a; intro a hf
  refine o_v hf hh (yv_assign rfl) ?_; clear hf a; intro a hf
  refine o_v hf hh (yv_assign rfl) ?_; clear hf a; intro a hf
  refine o_end ?_
  refine sy_sq ?_
  refine o_v hf hh (yv_buildS Tryz.bs_27 rfl rfl) ?_; clear hf a; intro a hf
  refine o_call hf Tryz.en_11 rfl rfl rfl (p17 ⟨20, 3, 30⟩ 99 4 _) ?_; clear hf a; intro v a w hR hf
  obtain ⟨rfl, hx⟩ := hR; rw [com12.1, com12.2] at hf; replace hh := hh.more hx; clear hx
  refine o_v hf hh (yv_move rfl) ?_; clear hf a; intro a hf
  refine o_v hf hh (yv_extract rfl rfl) ?_; clear hf a; intro a hf
  refine o_v hf hh (yv_extract rfl rfl) ?_; clear hf a; intro a hf
  refine o_v hf hh (yv_assign rfl) ?_; clear hf a; intro a hf
  refine o_v hf hh (yv_assign rfl) ?_; clear hf a; intro a hf
  refine o_end ?_
  refine sy_sq ?_
  refine o_v hf hh (yv_move rfl) ?_; clear hf a; intro a hf
  refine ops_buildSl hf hh Tryz.bl_28_3 rfl rfl (.inl rfl) rfl ?_; clear hf hh; clear a; intro B16 a w hf hh
  refine o_call hf Tryz.en_27 rfl rfl rfl (k27 (ints [1, 0, 2]) [1, 0, 2] oa _ cp 3 _ (hV w (fun q hq => hh.get q (by simp [hq]))) (in12 (hh.at (i := 0) rfl)) (by decide) (by decide)) ?_; clear hf a; intro v a w hR hf
  obtain ⟨rfl, hx⟩ := hR; replace hh := hh.more hx; clear hx
  refine o_v hf hh (yv_move rfl) ?_; clear hf a; intro a hf
  refine o_v hf hh (yv_move rfl) ?_; clear hf a; intro a hf
  refine o_v hf hh (yv_bin rfl rfl rfl) ?_; clear hf a; intro a hf
  refine o_v hf hh (y_pt rfl rfl) ?_; clear hf a; intro a hf
  refine o_v hf hh (yv_move rfl) ?_; clear hf a; intro a hf
  refine o_v hf hh (yv_move rfl) ?_; clear hf a; intro a hf
  refine o_v hf hh (yv_bin rfl rfl rfl) ?_; clear hf a; intro a hf
  refine o_v hf hh (y_pt rfl rfl) ?_; clear hf a; intro a hf
  refine o_v hf hh (yv_move rfl) ?_; clear hf a; intro a hf
  refine o_v hf hh (yv_move rfl) ?_; clear hf a; intro a hf
  refine o_v hf hh (yv_bin rfl rfl rfl) ?_; clear hf a; intro a hf
  refine o_v hf hh (y_pt rfl rfl) ?_; clear hf a; intro a hf
  refine o_v hf hh (yv_assign rfl) ?_; clear hf a; intro a hf
  refine o_end ?_
  refine sy_ret ?_
  refine ret_r hf rfl rfl ?_
  exact ⟨rfl, hh.ext⟩
end Go.Proofs.YtccpgpnekoncoaaGreat

namespace Go.WalM
open Go Go.Sy Go.RoyM
/-- Bytes lie in memory. -/
def U8At (w : World) (sa : Option Addr) (l : List Int) : Prop :=
  ∀ i x, l[i]? = some x → ∃ blk off c T fr, sa = some ⟨blk, off, none⟩ ∧ w.heap[blk]? = some (.cells c T fr) ∧ c[off + ((i : Nat) : Int).toNat * 1]? = some (.int .u8 x)
theorem ords_iff {t : TourD} {l : List Nat} : ordB t.fr.length (ints l) = true ↔ OrdB t l := by
  rw [ordB_iff]
  unfold OrdB ints
  constructor
  · rintro ⟨h1, h2⟩
    refine ⟨fun v hv => by have := (h1 _ (List.mem_map_of_mem hv)).2; show v < t.fr.length; omega, List.Pairwise.of_map _ (fun a b h e => h (by rw [e])) h2⟩
  · rintro ⟨h1, h2⟩
    refine ⟨fun v hv => ?_, ?_⟩
    · obtain ⟨x, hx, rfl⟩ := List.mem_map.1 hv
      have h3 : x < t.fr.length := h1 x hx
      omega
    · exact List.Pairwise.map _ (fun a b h e => h (by omega)) h2
theorem ord_len {t : TourD} (hO : TourOk t) {l : List Nat} (h : OrdB t l) : l.length ≤ 6 := by
  have := nodup_le h.1 h.2
  have := hO.n6
  omega
theorem ord_lt {t : TourD} {l : List Nat} (h : OrdB t l) : ∀ v ∈ l, v < t.fr.length := fun v hv => h.1 v hv
/-- Another order that is sure has no greater a commission. -/
theorem com_sure {t : TourD} {tm : TermD} {price : Int} (ht : TermOk tm) (hp : 0 ≤ price ∧ price ≤ 1048576) {sh : List Int} (hs : ShOk sh) (hO : TourOk t) {l : List Nat} (h : OrdB t l) (hsu : surB t l = true) :
    comV tm price ((l.length : Nat) : Int) ≤ comV tm price (((mostP t).1.length : Nat) : Int) :=
  rnd_more (m := (mostP t).1.length) ht hp (ord_len hO (most_ord t)) hs (most_all t h hsu)
theorem comE_ok {tm : TermD} {price : Int} (ht : termB tm = true) (hp : 0 ≤ price ∧ price ≤ 1048576) {n : Nat} (hn : n ≤ 6) : comE tm price n = 0 ∧ comW tm price n = comV tm price n := by
  have e : comB tm price n = true := by
    unfold comB
    rw [ht, decide_eq_true hp.1, decide_eq_true hp.2, decide_eq_true (show (0 : Int) ≤ (n : Nat) by omega), decide_eq_true (show ((n : Nat) : Int) ≤ 12 by omega)]; rfl
  unfold comE comW
  rw [e]
  exact ⟨rfl, rfl⟩
/-- Reports, as cells. -/
abbrev rpsC (m : Nat) : List Value := ((List.range m).map rndR).flatMap rpC
theorem rps_len (m : Nat) : (rpsC m).length = m * 4 := by
  unfold rpsC
  induction m with
  | zero => rfl
  | succ m ih => rw [List.range_succ, List.map_append, List.flatMap_append, List.length_append, ih]; show m * 4 + 4 = _; omega
theorem rps_snoc (m : Nat) : rpsC (m + 1) = rpsC m ++ rpC (rndR m) := by
  unfold rpsC
  rw [List.range_succ, List.map_append, List.flatMap_append]; simp
theorem rps_at {m : Nat} : ∀ {i : Nat}, i < m → ∀ j v, (rpC (rndR i))[j]? = some v → (rpsC m)[i * 4 + j]? = some v := by
  induction m with
  | zero => intro i h; omega
  | succ m ih =>
    intro i h j v hv
    have hj := (List.getElem?_eq_some_iff.1 hv).1
    have hj4 : j < 4 := hj
    rw [rps_snoc]
    rcases (show i < m ∨ i = m by omega) with h1 | rfl
    · rw [List.getElem?_append_left (by rw [rps_len]; omega)]
      exact ih h1 j v hv
    · rw [List.getElem?_append_right (by rw [rps_len]; omega), rps_len, Nat.add_sub_cancel_left]
      exact hv
theorem own_rps {v : Value} {m : Nat} {X : List (Nat × Obj)} {T : TypeId} (h : OwnSl T 4 v m (rpsC m) X) : ∃ oa cap, v = .slice oa m cap ∧ m ≤ cap ∧ ∀ w : World, (∀ q ∈ X, w.heap[q.1]? = some q.2) → TAt 4 rpC w oa ((List.range m).map rndR) := by
  obtain ⟨hl, h⟩ := h
  rcases h with ⟨rfl, rfl, rfl⟩ | ⟨B, cap, cur, rfl, rfl, h1, h2, h3, h4⟩
  · exact ⟨none, 0, rfl, Nat.le_refl _, fun w _ i s hi => by cases hi⟩
  · refine ⟨_, cap, rfl, h1, fun w hX i s hi => ⟨B, 0, cur, T, _, rfl, hX _ (.head _), ?_⟩⟩
    have hi2 := (List.getElem?_eq_some_iff.1 hi).1
    rw [List.length_map, List.length_range] at hi2
    have hs : s = rndR i := by
      rw [List.getElem?_map, List.getElem?_range hi2] at hi
      exact (Option.some.inj hi).symm
    subst hs
    have key : ∀ j u, (rpC (rndR i))[j]? = some u → cur[i * 4 + j]? = some u := fun j u hu => by
      have hj4 : j < 4 := (List.getElem?_eq_some_iff.1 hu).1
      have := rps_at hi2 j u hu
      rw [← h4, List.getElem?_take, if_pos (by omega), Array.getElem?_toList] at this
      exact this
    rw [Int.toNat_natCast, Nat.zero_add]
    have k0 := key 0 _ rfl
    have k1 := key 1 _ rfl
    have k2 := key 2 _ rfl
    have k3 := key 3 _ rfl
    simp [cellsAt, k1, k2, k3]
    rw [Nat.add_zero] at k0
    simp [k0]
theorem tat_cells {w : World} {B : Nat} {t : TermD} {T : TypeId} {fr : Nat × Nat} (h : w.heap[B]? = some (.cells (tmV t).cells T fr)) : TAt 3 tmC w (some ⟨B, 0, none⟩) [t] := fun i s hi => by
  match i, hi with
  | 0, hi => cases hi; exact ⟨B, 0, _, T, fr, rfl, h, rfl⟩
  | n + 1, hi => cases hi
theorem iat_cells {w : World} {B : Nat} {x : Int} {T : TypeId} {fr : Nat × Nat} (h : w.heap[B]? = some (.cells #[.int .i64 x] T fr)) : IAt w (some ⟨B, 0, none⟩) [x] := fun i s hi => by
  match i, hi with
  | 0, hi => cases hi; exact ⟨B, 0, _, T, fr, rfl, h, rfl⟩
  | n + 1, hi => cases hi
theorem lat_cells {w : World} {B : Nat} {x : List Int} {sa : Option Addr} {c : Nat} {T : TypeId} {fr : Nat × Nat} (h : w.heap[B]? = some (.cells #[.slice sa x.length c] T fr)) (hx : IAt w sa x) : LAt w (some ⟨B, 0, none⟩) [x] := fun i s hi => by
  match i, hi with
  | 0, hi => cases hi; exact ⟨B, 0, _, T, fr, sa, c, rfl, h, rfl, hx⟩
  | n + 1, hi => cases hi
theorem sumI_takeW {l : List Int} {i : Nat} (h : i < l.length) : sumI (l.take (i + 1)) = sumI (l.take i) + l.getD i 0 := by
  have e : l[i]? = some (l.getD i 0) := by rw [List.getD_eq_getElem?_getD, List.getElem?_eq_getElem h]; rfl
  exact RoyM.sumI_take e
end Go.WalM

