/- BarPlans: the row, and the tied card: the law returns true for every input. Condition: the library's two tables of math/bits lie as the program's text lays them. -/
import Derived.Test.YtkolcbjghphjeaaDoorB19
import Derived.Test.YtkolcbjghphjeaaDoorB24
import Derived.Test.YtkolcbjghphjeaaDoorCards
import Derived.Test.YtkolcbjghphjeaaDoorTie
import Derived.SevenTiedAt
namespace Go.Proofs.YtkolcbjghphjeaaDoor
open Go Go.Sy Go.BarM Go.ChangeShapes Go.WideShapes Go.Deep Go.RowKit
theorem par4 : Tryd.f4.params.toList = [24] := by kernel_rfl
theorem res4 : Tryd.f4.resultTypes = #[4] := by kernel_rfl
theorem rd4 : ∀ t ∈ Tryd.f4.params.toList, Tryd.prog.readableRec t = true ∧ t < Tryd.prog.types.size := by
  rw [par4]
  intro t ht
  simp at ht
  subst ht
  exact ⟨rd24, sz24⟩
theorem ok4 {W' : World} : ∀ (j : Nat) (t : TypeId) (r : Value), Tryd.f4.resultTypes[j]? = some t → ((Value.bool true).resultList Tryd.f4.resultTypes.size)[j]? = some r → Value.okWide Tryd.prog W' .any 0 t r := by
  rw [res4]
  intro j t r h1 h2
  match j, h1, h2 with
  | 0, h1, h2 =>
    cases h1; cases h2
    simp [Value.okWide, un4, Cell.okWide, Cell.ok]
  | j + 1, h1, _ => simp at h1
set_option maxRecDepth 100000 in
theorem barPlans_lifted (os : Os) (started : os.Started) (H : Type) (enc : TypeId × Value → H) :
    ReturnsInHanded Rows.barPlansRow.assume Tryd.checked os 4 .any (fun w args => (Rows.barPlansSpec.pre enc Tryd.prog Tryd.f4 [] false w args ∧ laidMetH Tryd.prog Rows.barPlansRow.laid w) ∧ sizedMet enc Tryd.prog Tryd.f4 (OpenSpec.ofChange Rows.barPlansSpec) false w args)
      (Rows.barPlansSpec.post enc Tryd.prog Tryd.f4 Rows.barPlansRow.apart Rows.barPlansRow.fresh Rows.barPlansRow.handsOn Rows.barPlansRow.again) := by
  refine returnsInHanded_of_change_and (C := Tryd.checked) (X := fun w _ => laidMetH Tryd.prog Rows.barPlansRow.laid w) (fun _ _ _ hh h => h.of_heap hh) own started (by kernel_rfl) Tryd.func4
    (ChangeSpec.witness_at (enc := enc) (C := Tryd.checked) (os := os) (X := fun w _ => laidMetH Tryd.prog Rows.barPlansRow.laid w) false (World.laidAll Tryd.prog os Rows.barPlansRow.laid) #[.agg #[.int .i64 0, .int .i64 0, .int .i64 0, .int .i64 0, .slice none 0 0]] 8 rfl (by kernel_rfl) (by kernel_rfl) (by kernel_rfl) (by kernel_rfl) (by kernel_rfl) (laidWorld_met os _)) ?_
  intro W base args ds gs before hval0 hW _ _ hL _
  have hval : ∀ (j : Nat) t v, Tryd.f4.params[j]? = some t → args[j]? = some v → Value.okWide Tryd.prog W .any base t v := hval0
  have hW1 : DataW.Whole enc Tryd.prog Tryd.f4.params.toList Rows.barPlansSpec.vars false W args.toList ds gs before := hW
  obtain ⟨p, q, hA0, hVq, hpq, hz, hn⟩ := hW
  obtain ⟨args⟩ := args
  obtain ⟨v1, vs1, d1, ds1, p1, q1, e1a, e1b, e1c, h1, hA1⟩ := trodAll_cons hA0
  obtain ⟨e10, e11, e12⟩ := trodAll_nil hA1
  subst e10; subst e11
  have e1a : args = [v1] := e1a
  subst e1a; subst e1b
  obtain rfl : gs = [] := by
    cases gs with
    | nil => rfl
    | cons g r => exact absurd hVq (by intro h; cases h)
  obtain ⟨b, sa, sc, rfl, hS⟩ := openBar (hval 0 24 v1 rfl rfl) h1
  have hLL : laidMet Tryd.prog Rows.barPlansRow.laid W := hL
  have hT : GTab W := gTab_of_laid (l := Rows.barPlansRow.laid) (.tail _ (.head _)) hLL
  refine (c4 b sa sc W hS hT).mono fun e W' he => ?_
  cases e with
  | returned v =>
    obtain ⟨rfl, hx⟩ := he
    exact ⟨_, rfl, post_ext (by kernel_rfl) rd4 rfl hx hW1 rfl rfl (fun b sp hd => trodAll_mk1 (shut_bool un4 true)) ok4⟩
  | panicked c => exact he.elim
  | outgrown => exact he.elim
theorem barPlans_holds : Rows.BarPlansSaid :=
  OpenClaim.holds_of_wide 4 Tryd.f4 rfl rfl rfl rfl rfl rfl rfl ⟨rfl, rfl, rfl, rfl, rfl⟩ rfl rfl rfl rfl rfl (by kernel_rfl) Tryd.func4 (by kernel_rfl)
    (of_decide_eq_true (by kernel_rfl)) (by unfold Func.isWrapper; rw [if_neg (of_decide_eq_false (by kernel_rfl))]; exact ⟨rfl, rfl⟩)
    (fun os started H enc _ => barPlans_lifted os started H enc)
theorem ws24 : Tryd.prog.wantsStandIn 24 = false := by kernel_rfl
theorem barPlans_card : Rows.BarPlansCardSaid :=
  Claim7.holds_tied_plain_at .later [] [.data, .data] true (true, "59cffd2fd91c1c3493101edc0cb9f41b4e0de5edd00703c1601dea3dd60cc70b") false
    barPlans_holds (fun _ h => by cases h) (by kernel_rfl) (fun _ h => by cases h) barPlans_row_tie rfl ⟨rfl, rfl⟩ (by kernel_rfl) rfl
    (fun f fn hf hfn => by
      obtain rfl : f = 4 := Option.some.inj ((show Tryd.prog.funcNamed "pairworks/pairworkslaw04.BarPlans" = some 4 by kernel_rfl).symm.trans hf) |>.symm
      obtain rfl : fn = Tryd.f4 := (Option.some.inj (Tryd.func4.symm.trans hfn)).symm
      exact ⟨by kernel_rfl, fun j t ht => by
        have hm : t ∈ Tryd.f4.params.toList := by
          rw [Array.mem_toList_iff]; exact Array.mem_of_getElem? ht
        rw [par4] at hm
        simp at hm
        subst hm
        exact ws24⟩)
    (by kernel_rfl)
#print axioms barPlans_card
end Go.Proofs.YtkolcbjghphjeaaDoor
