/- BarCount: the row, and the tied card: the law returns true for every input. Condition: the library's two tables of math/bits lie as the program's text lays them. -/
import Derived.Test.YtkolcbjghphjeaaDoorB19
import Derived.Test.YtkolcbjghphjeaaDoorB28
import Derived.Test.YtkolcbjghphjeaaDoorCards
import Derived.Test.YtkolcbjghphjeaaDoorTie
import Derived.SevenTiedAt
namespace Go.Proofs.YtkolcbjghphjeaaDoor
open Go Go.Sy Go.BarM Go.ChangeShapes Go.WideShapes Go.Deep Go.RowKit
theorem par7 : Tryd.f7.params.toList = [24] := by kernel_rfl
theorem res7 : Tryd.f7.resultTypes = #[4] := by kernel_rfl
theorem rd7 : ∀ t ∈ Tryd.f7.params.toList, Tryd.prog.readableRec t = true ∧ t < Tryd.prog.types.size := by
  rw [par7]
  intro t ht
  simp at ht
  subst ht
  exact ⟨rd24, sz24⟩
theorem ok7 {W' : World} : ∀ (j : Nat) (t : TypeId) (r : Value), Tryd.f7.resultTypes[j]? = some t → ((Value.bool true).resultList Tryd.f7.resultTypes.size)[j]? = some r → Value.okWide Tryd.prog W' .any 0 t r := by
  rw [res7]
  intro j t r h1 h2
  match j, h1, h2 with
  | 0, h1, h2 =>
    cases h1; cases h2
    simp [Value.okWide, un4, Cell.okWide, Cell.ok]
  | j + 1, h1, _ => simp at h1
set_option maxRecDepth 100000 in
theorem barCount_lifted (os : Os) (started : os.Started) (H : Type) (enc : TypeId × Value → H) :
    ReturnsInHanded Rows.barCountRow.assume Tryd.checked os 7 .any (fun w args => (Rows.barCountSpec.pre enc Tryd.prog Tryd.f7 [] false w args ∧ laidMetH Tryd.prog Rows.barCountRow.laid w) ∧ sizedMet enc Tryd.prog Tryd.f7 (OpenSpec.ofChange Rows.barCountSpec) false w args)
      (Rows.barCountSpec.post enc Tryd.prog Tryd.f7 Rows.barCountRow.apart Rows.barCountRow.fresh Rows.barCountRow.handsOn Rows.barCountRow.again) := by
  refine returnsInHanded_of_change_and (C := Tryd.checked) (X := fun w _ => laidMetH Tryd.prog Rows.barCountRow.laid w) (fun _ _ _ hh h => h.of_heap hh) own started (by kernel_rfl) Tryd.func7
    (ChangeSpec.witness_at (enc := enc) (C := Tryd.checked) (os := os) (X := fun w _ => laidMetH Tryd.prog Rows.barCountRow.laid w) false (World.laidAll Tryd.prog os Rows.barCountRow.laid) #[.agg #[.int .i64 0, .int .i64 0, .int .i64 0, .int .i64 0, .slice none 0 0]] 8 rfl (by kernel_rfl) (by kernel_rfl) (by kernel_rfl) (by kernel_rfl) (by kernel_rfl) (laidWorld_met os _)) ?_
  intro W base args ds gs before hval0 hW _ _ hL _
  have hval : ∀ (j : Nat) t v, Tryd.f7.params[j]? = some t → args[j]? = some v → Value.okWide Tryd.prog W .any base t v := hval0
  have hW1 : DataW.Whole enc Tryd.prog Tryd.f7.params.toList Rows.barCountSpec.vars false W args.toList ds gs before := hW
  obtain ⟨p, q, hA0, hVq, hpq, hz, hn⟩ := hW
  obtain ⟨args⟩ := args
  obtain ⟨v1, vs1, d1, ds1, p1, q1, e1a, e1b, e1c, h1, hA1⟩ := trodAll_cons hA0
  obtain ⟨e10, e11, e12⟩ := trodAll_nil hA1
  subst e10; subst e11
  have e1a : args = [v1] := e1a
  subst e1a; subst e1b
  obtain rfl : gs = [] := by
    cases gs with
    | nil => rfl
    | cons g r => exact absurd hVq (by intro h; cases h)
  obtain ⟨b, sa, sc, rfl, hS⟩ := openBar (hval 0 24 v1 rfl rfl) h1
  have hLL : laidMet Tryd.prog Rows.barCountRow.laid W := hL
  have hT : GTab W := gTab_of_laid (l := Rows.barCountRow.laid) (.tail _ (.head _)) hLL
  refine (c7 b sa sc W hS hT).mono fun e W' he => ?_
  cases e with
  | returned v =>
    obtain ⟨rfl, hx⟩ := he
    exact ⟨_, rfl, post_ext (by kernel_rfl) rd7 rfl hx hW1 rfl rfl (fun b sp hd => trodAll_mk1 (shut_bool un4 true)) ok7⟩
  | panicked c => exact he.elim
  | outgrown => exact he.elim
theorem barCount_holds : Rows.BarCountSaid :=
  OpenClaim.holds_of_wide 7 Tryd.f7 rfl rfl rfl rfl rfl rfl rfl ⟨rfl, rfl, rfl, rfl, rfl⟩ rfl rfl rfl rfl rfl (by kernel_rfl) Tryd.func7 (by kernel_rfl)
    (of_decide_eq_true (by kernel_rfl)) (by unfold Func.isWrapper; rw [if_neg (of_decide_eq_false (by kernel_rfl))]; exact ⟨rfl, rfl⟩)
    (fun os started H enc _ => barCount_lifted os started H enc)
theorem ws24 : Tryd.prog.wantsStandIn 24 = false := by kernel_rfl
theorem barCount_card : Rows.BarCountCardSaid :=
  Claim7.holds_tied_plain_at .later [] [.data, .data] true (true, "59cffd2fd91c1c3493101edc0cb9f41b4e0de5edd00703c1601dea3dd60cc70b") false
    barCount_holds (fun _ h => by cases h) (by kernel_rfl) (fun _ h => by cases h) barCount_row_tie rfl ⟨rfl, rfl⟩ (by kernel_rfl) rfl
    (fun f fn hf hfn => by
      obtain rfl : f = 7 := Option.some.inj ((show Tryd.prog.funcNamed "pairworks/pairworkslaw04.BarCount" = some 7 by kernel_rfl).symm.trans hf) |>.symm
      obtain rfl : fn = Tryd.f7 := (Option.some.inj (Tryd.func7.symm.trans hfn)).symm
      exact ⟨by kernel_rfl, fun j t ht => by
        have hm : t ∈ Tryd.f7.params.toList := by
          rw [Array.mem_toList_iff]; exact Array.mem_of_getElem? ht
        rw [par7] at hm
        simp at hm
        subst hm
        exact ws24⟩)
    (by kernel_rfl)
#print axioms barCount_card
end Go.Proofs.YtkolcbjghphjeaaDoor
