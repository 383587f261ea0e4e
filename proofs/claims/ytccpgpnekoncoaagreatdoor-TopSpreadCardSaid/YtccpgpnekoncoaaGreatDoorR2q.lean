/- TopSpread: the row, and the tied card: the law returns true for every input. Condition: the library's two tables of math/bits lie as the program's text lays them. -/
import Derived.Test.YtccpgpnekoncoaaGreatDoorQ13
import Derived.Test.YtccpgpnekoncoaaGreatDoorCards
import Derived.Test.YtccpgpnekoncoaaGreatDoorTie
import Derived.SevenTiedAt
namespace Go.Proofs.YtccpgpnekoncoaaGreatDoor
open Go Go.Sy Go.PaiM Go.BarM Go.ChangeShapes Go.WideShapes Go.Deep Go.RowKit
theorem par4 : Tryz.f4.params.toList = [24, 3, 3, 3, 51, 25, 26, 26] := by kernel_rfl
theorem res4 : Tryz.f4.resultTypes = #[4] := by kernel_rfl
theorem rdl4_24 : Tryz.prog.readableRec 24 = true ∧ 24 < Tryz.prog.types.size := ⟨by kernel_rfl, of_decide_eq_true (by kernel_rfl)⟩
theorem rdl4_3 : Tryz.prog.readableRec 3 = true ∧ 3 < Tryz.prog.types.size := ⟨by kernel_rfl, of_decide_eq_true (by kernel_rfl)⟩
theorem rdl4_51 : Tryz.prog.readableRec 51 = true ∧ 51 < Tryz.prog.types.size := ⟨by kernel_rfl, of_decide_eq_true (by kernel_rfl)⟩
theorem rdl4_25 : Tryz.prog.readableRec 25 = true ∧ 25 < Tryz.prog.types.size := ⟨by kernel_rfl, of_decide_eq_true (by kernel_rfl)⟩
theorem rdl4_26 : Tryz.prog.readableRec 26 = true ∧ 26 < Tryz.prog.types.size := ⟨by kernel_rfl, of_decide_eq_true (by kernel_rfl)⟩
theorem rd4 : ∀ t ∈ Tryz.f4.params.toList, Tryz.prog.readableRec t = true ∧ t < Tryz.prog.types.size := by
  rw [par4]
  intro t ht
  simp only [List.mem_cons, List.not_mem_nil, or_false] at ht
  rcases ht with rfl | rfl | rfl | rfl | rfl | rfl | rfl | rfl
  · exact rdl4_24
  · exact rdl4_3
  · exact rdl4_3
  · exact rdl4_3
  · exact rdl4_51
  · exact rdl4_25
  · exact rdl4_26
  · exact rdl4_26
theorem ok4 {W' : World} : ∀ (j : Nat) (t : TypeId) (r : Value), Tryz.f4.resultTypes[j]? = some t → ((Value.bool true).resultList Tryz.f4.resultTypes.size)[j]? = some r → Value.okWide Tryz.prog W' .any 0 t r := by
  rw [res4]
  intro j t r h1 h2
  match j, h1, h2 with
  | 0, h1, h2 =>
    cases h1; cases h2
    simp [Value.okWide, un4, Cell.okWide, Cell.ok]
  | j + 1, h1, _ => simp at h1
set_option maxRecDepth 100000 in
theorem topSpread_lifted (os : Os) (started : os.Started) (H : Type) (enc : TypeId × Value → H) :
    ReturnsInHanded Rows.topSpreadRow.assume Tryz.checked os 4 .any (fun w args => (Rows.topSpreadSpec.pre enc Tryz.prog Tryz.f4 [] false w args ∧ laidMetH Tryz.prog Rows.topSpreadRow.laid w) ∧ sizedMet enc Tryz.prog Tryz.f4 (OpenSpec.ofChange Rows.topSpreadSpec) false w args)
      (Rows.topSpreadSpec.post enc Tryz.prog Tryz.f4 Rows.topSpreadRow.apart Rows.topSpreadRow.fresh Rows.topSpreadRow.handsOn Rows.topSpreadRow.again) := by
  refine returnsInHanded_of_change_and (C := Tryz.checked) (X := fun w _ => laidMetH Tryz.prog Rows.topSpreadRow.laid w) (fun _ _ _ hh h => h.of_heap hh) own started (by kernel_rfl) Tryz.func4
    (ChangeSpec.witness_at (enc := enc) (C := Tryz.checked) (os := os) (X := fun w _ => laidMetH Tryz.prog Rows.topSpreadRow.laid w) false (World.laidAll Tryz.prog os Rows.topSpreadRow.laid) #[.agg #[.int .i64 0, .int .i64 0, .int .i64 0, .int .i64 0, .slice none 0 0], .int .i64 0, .int .i64 0, .int .i64 0, .agg #[.int .i64 0, .int .i64 0, .int .i64 0, .int .i64 0, .int .i64 0, .int .i64 0, .int .i64 0, .slice none 0 0, .int .i64 0, .int .i64 0, .int .i64 0, .int .i64 0, .int .i64 0, .int .i64 0, .int .i64 0, .int .i64 0, .int .i64 0], .int .u16 0, .int .u32 0, .int .u32 0] 8 rfl (by kernel_rfl) (by kernel_rfl) (by kernel_rfl) (by kernel_rfl) (by kernel_rfl) (laidWorld_met os _)) ?_
  intro W base args ds gs before hval0 hW _ _ hL _
  have hval : ∀ (j : Nat) t v, Tryz.f4.params[j]? = some t → args[j]? = some v → Value.okWide Tryz.prog W .any base t v := hval0
  have hW1 : DataW.Whole enc Tryz.prog Tryz.f4.params.toList Rows.topSpreadSpec.vars false W args.toList ds gs before := hW
  obtain ⟨p, q, hA0, hVq, hpq, hz, hn⟩ := hW
  obtain ⟨args⟩ := args
  obtain ⟨v1, vs1, d1, ds1, p1, q1, e1a, e1b, e1c, h1, hA1⟩ := trodAll_cons hA0
  obtain ⟨v2, vs2, d2, ds2, p2, q2, e2a, e2b, e2c, h2, hA2⟩ := trodAll_cons hA1
  obtain ⟨v3, vs3, d3, ds3, p3, q3, e3a, e3b, e3c, h3, hA3⟩ := trodAll_cons hA2
  obtain ⟨v4, vs4, d4, ds4, p4, q4, e4a, e4b, e4c, h4, hA4⟩ := trodAll_cons hA3
  obtain ⟨v5, vs5, d5, ds5, p5, q5, e5a, e5b, e5c, h5, hA5⟩ := trodAll_cons hA4
  obtain ⟨v6, vs6, d6, ds6, p6, q6, e6a, e6b, e6c, h6, hA6⟩ := trodAll_cons hA5
  obtain ⟨v7, vs7, d7, ds7, p7, q7, e7a, e7b, e7c, h7, hA7⟩ := trodAll_cons hA6
  obtain ⟨v8, vs8, d8, ds8, p8, q8, e8a, e8b, e8c, h8, hA8⟩ := trodAll_cons hA7
  obtain ⟨e10, e11, e12⟩ := trodAll_nil hA8
  subst e10; subst e11; subst e8a; subst e8b; subst e7a; subst e7b; subst e6a; subst e6b; subst e5a; subst e5b; subst e4a; subst e4b; subst e3a; subst e3b; subst e2a; subst e2b
  have e1a : args = [v1, v2, v3, v4, v5, v6, v7, v8] := e1a
  subst e1a; subst e1b
  obtain rfl : gs = [] := by
    cases gs with
    | nil => rfl
    | cons g r => exact absurd hVq (by intro h; cases h)
  obtain ⟨b1, sa1, sc1, rfl, hS1, hsl1⟩ := openBar (hval 0 24 v1 rfl rfl) h1
  obtain ⟨n2, rfl, rfl, rfl, hw2⟩ := open_int Tryz.un_3 (hval 1 3 v2 rfl rfl) h2
  have hb2 := wf64 (show wfI .i64 n2 from hw2)
  obtain ⟨n3, rfl, rfl, rfl, hw3⟩ := open_int Tryz.un_3 (hval 2 3 v3 rfl rfl) h3
  have hb3 := wf64 (show wfI .i64 n3 from hw3)
  obtain ⟨n4, rfl, rfl, rfl, hw4⟩ := open_int Tryz.un_3 (hval 3 3 v4 rfl rfl) h4
  have hb4 := wf64 (show wfI .i64 n4 from hw4)
  obtain ⟨c5, sa5, cp5, rfl, hC5, hcl5⟩ := openCard (hval 4 51 v5 rfl rfl) h5
  obtain ⟨n6, rfl, rfl, rfl, hw6⟩ := open_int unU16 (hval 5 25 v6 rfl rfl) h6
  have hb6 := wf16 (show wfI .u16 n6 from hw6)
  obtain ⟨m6, rfl⟩ : ∃ m : Nat, n6 = ((m : Nat) : Int) := ⟨n6.toNat, by omega⟩
  obtain ⟨n7, rfl, rfl, rfl, hw7⟩ := open_int unU32 (hval 6 26 v7 rfl rfl) h7
  have hb7 := wf32 (show wfI .u32 n7 from hw7)
  obtain ⟨m7, rfl⟩ : ∃ m : Nat, n7 = ((m : Nat) : Int) := ⟨n7.toNat, by omega⟩
  obtain ⟨n8, rfl, rfl, rfl, hw8⟩ := open_int unU32 (hval 7 26 v8 rfl rfl) h8
  have hb8 := wf32 (show wfI .u32 n8 from hw8)
  obtain ⟨m8, rfl⟩ : ∃ m : Nat, n8 = ((m : Nat) : Int) := ⟨n8.toNat, by omega⟩
  have hLL : laidMet Tryz.prog Rows.topSpreadRow.laid W := hL
  have hT : GTab W := gTab_of_laid (l := Rows.topSpreadRow.laid) (.tail _ (.head _)) hLL
  refine (c_law5 b1 sa1 sc1 n2 n3 n4 hb2.2 c5 sa5 cp5 m6 m7 m8 (by omega) (by omega) (by omega) hsl1 hcl5 W hS1 hC5 hT).mono fun e W' he => ?_
  cases e with
  | returned v =>
    obtain ⟨rfl, hx⟩ := he
    exact ⟨_, rfl, post_ext (by kernel_rfl) rd4 rfl hx hW1 rfl rfl (fun b sp hd => trodAll_mk1 (shut_bool un4 true)) ok4⟩
  | panicked c => exact he.elim
  | outgrown => exact he.elim
theorem topSpread_holds : Rows.TopSpreadSaid :=
  OpenClaim.holds_of_wide 4 Tryz.f4 rfl rfl rfl rfl rfl rfl rfl ⟨rfl, rfl, rfl, rfl, rfl⟩ rfl rfl rfl rfl rfl (by kernel_rfl) Tryz.func4 (by kernel_rfl)
    (of_decide_eq_true (by kernel_rfl)) (by unfold Func.isWrapper; rw [if_neg (of_decide_eq_false (by kernel_rfl))]; exact ⟨rfl, rfl⟩)
    (fun os started H enc _ => topSpread_lifted os started H enc)
theorem ws4_24 : Tryz.prog.wantsStandIn 24 = false := by kernel_rfl
theorem ws4_3 : Tryz.prog.wantsStandIn 3 = false := by kernel_rfl
theorem ws4_51 : Tryz.prog.wantsStandIn 51 = false := by kernel_rfl
theorem ws4_25 : Tryz.prog.wantsStandIn 25 = false := by kernel_rfl
theorem ws4_26 : Tryz.prog.wantsStandIn 26 = false := by kernel_rfl
theorem topSpread_card : Rows.TopSpreadCardSaid :=
  Claim7.holds_tied_plain_at .later [] [.data, .data] true (true, "d9e7219c6019eed1fcb7fcd6a4a057fc378af7a11557a708d4f840fdd6a73640") true
    topSpread_holds (fun _ h => by cases h) (by kernel_rfl) (fun _ h => by cases h) topSpread_row_tie rfl ⟨rfl, rfl⟩ (by kernel_rfl) rfl
    (fun f fn hf hfn => by
      obtain rfl : f = 4 := Option.some.inj ((show Tryz.prog.funcNamed "pairworks/pairworkstop.TopSpread" = some 4 by kernel_rfl).symm.trans hf) |>.symm
      obtain rfl : fn = Tryz.f4 := (Option.some.inj (Tryz.func4.symm.trans hfn)).symm
      exact ⟨by kernel_rfl, fun j t ht => by
        have hm : t ∈ Tryz.f4.params.toList := by
          rw [Array.mem_toList_iff]; exact Array.mem_of_getElem? ht
        rw [par4] at hm
        simp at hm
        rcases hm with rfl | rfl | rfl | rfl | rfl
        · exact ws4_24
        · exact ws4_3
        · exact ws4_51
        · exact ws4_25
        · exact ws4_26⟩)
    (by kernel_rfl)
#print axioms topSpread_card
end Go.Proofs.YtccpgpnekoncoaaGreatDoor
