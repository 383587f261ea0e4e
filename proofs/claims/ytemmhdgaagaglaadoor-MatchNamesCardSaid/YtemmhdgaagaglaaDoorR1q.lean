/- MatchNames: the row, and the tied card: the law returns true for every input. Condition: the library's two tables of math/bits lie as the program's text lays them. -/
import Derived.Test.YtemmhdgaagaglaaDoorQ14
import Derived.Test.YtemmhdgaagaglaaDoorCards
import Derived.Test.YtemmhdgaagaglaaDoorTie
import Derived.SevenTiedAt
namespace Go.Proofs.YtemmhdgaagaglaaDoor
open Go Go.Sy Go.MatM Go.ChangeShapes Go.WideShapes Go.Deep Go.RowKit
theorem par9 : Tryd.f9.params.toList = [] := by kernel_rfl
theorem res9 : Tryd.f9.resultTypes = #[4] := by kernel_rfl
theorem rd9 : ∀ t ∈ Tryd.f9.params.toList, Tryd.prog.readableRec t = true ∧ t < Tryd.prog.types.size := by
  rw [par9]
  intro t ht
  cases ht
theorem ok9 {W' : World} : ∀ (j : Nat) (t : TypeId) (r : Value), Tryd.f9.resultTypes[j]? = some t → ((Value.bool true).resultList Tryd.f9.resultTypes.size)[j]? = some r → Value.okWide Tryd.prog W' .any 0 t r := by
  rw [res9]
  intro j t r h1 h2
  match j, h1, h2 with
  | 0, h1, h2 =>
    cases h1; cases h2
    simp [Value.okWide, un4, Cell.okWide, Cell.ok]
  | j + 1, h1, _ => simp at h1
set_option maxRecDepth 100000 in
theorem matchNames_lifted (os : Os) (started : os.Started) (H : Type) (enc : TypeId × Value → H) :
    ReturnsInHanded Rows.matchNamesRow.assume Tryd.checked os 9 .any (fun w args => (Rows.matchNamesSpec.pre enc Tryd.prog Tryd.f9 [] false w args ∧ laidMetH Tryd.prog Rows.matchNamesRow.laid w) ∧ sizedMet enc Tryd.prog Tryd.f9 (OpenSpec.ofChange Rows.matchNamesSpec) false w args)
      (Rows.matchNamesSpec.post enc Tryd.prog Tryd.f9 Rows.matchNamesRow.apart Rows.matchNamesRow.fresh Rows.matchNamesRow.handsOn Rows.matchNamesRow.again) := by
  refine returnsInHanded_of_change_and (C := Tryd.checked) (X := fun w _ => laidMetH Tryd.prog Rows.matchNamesRow.laid w) (fun _ _ _ hh h => h.of_heap hh) own started (by kernel_rfl) Tryd.func9
    (ChangeSpec.witness_at (enc := enc) (C := Tryd.checked) (os := os) (X := fun w _ => laidMetH Tryd.prog Rows.matchNamesRow.laid w) false (World.laidAll Tryd.prog os Rows.matchNamesRow.laid) #[] 8 rfl (by kernel_rfl) (by kernel_rfl) (by kernel_rfl) (by kernel_rfl) (by kernel_rfl) (laidWorld_met os _)) ?_
  intro W base args ds gs before hval0 hW _ _ hL _
  have hval : ∀ (j : Nat) t v, Tryd.f9.params[j]? = some t → args[j]? = some v → Value.okWide Tryd.prog W .any base t v := hval0
  have hW1 : DataW.Whole enc Tryd.prog Tryd.f9.params.toList Rows.matchNamesSpec.vars false W args.toList ds gs before := hW
  obtain ⟨p, q, hA0, hVq, hpq, hz, hn⟩ := hW
  obtain ⟨args⟩ := args
  obtain ⟨e10, e11, e12⟩ := trodAll_nil hA0
  have e10 : args = [] := e10
  subst e10; subst e11
  obtain rfl : gs = [] := by
    cases gs with
    | nil => rfl
    | cons g r => exact absurd hVq (by intro h; cases h)
  have hLL : laidMet Tryd.prog Rows.matchNamesRow.laid W := hL
  have hT : GTab W := gTab_of_laid (l := Rows.matchNamesRow.laid) (.tail _ (.head _)) hLL
  refine (c9 W hT).mono fun e W' he => ?_
  cases e with
  | returned v =>
    obtain ⟨rfl, hx⟩ := he
    exact ⟨_, rfl, post_ext (by kernel_rfl) rd9 rfl hx hW1 rfl rfl (fun b sp hd => trodAll_mk1 (shut_bool un4 true)) ok9⟩
  | panicked c => exact he.elim
  | outgrown => exact he.elim
theorem matchNames_holds : Rows.MatchNamesSaid :=
  OpenClaim.holds_of_wide 9 Tryd.f9 rfl rfl rfl rfl rfl rfl rfl ⟨rfl, rfl, rfl, rfl, rfl⟩ rfl rfl rfl rfl rfl (by kernel_rfl) Tryd.func9 (by kernel_rfl)
    (of_decide_eq_true (by kernel_rfl)) (by unfold Func.isWrapper; rw [if_neg (of_decide_eq_false (by kernel_rfl))]; exact ⟨rfl, rfl⟩)
    (fun os started H enc _ => matchNames_lifted os started H enc)
theorem matchNames_card : Rows.MatchNamesCardSaid :=
  Claim7.holds_tied_plain_at .later [] [.data, .data] true (true, "48792c288456b3c281a84ad9e132e6e020a212101a00c0161a021b1306e88a2f") false
    matchNames_holds (fun _ h => by cases h) (by kernel_rfl) (fun _ h => by cases h) matchNames_row_tie rfl ⟨rfl, rfl⟩ (by kernel_rfl) rfl
    (fun f fn hf hfn => by
      obtain rfl : f = 9 := Option.some.inj ((show Tryd.prog.funcNamed "pairworks/pairworkslaw02.MatchNames" = some 9 by kernel_rfl).symm.trans hf) |>.symm
      obtain rfl : fn = Tryd.f9 := (Option.some.inj (Tryd.func9.symm.trans hfn)).symm
      exact ⟨by kernel_rfl, fun j t ht => by
        have hm : t ∈ Tryd.f9.params.toList := by
          rw [Array.mem_toList_iff]; exact Array.mem_of_getElem? ht
        rw [par9] at hm
        cases hm⟩)
    (by kernel_rfl)
#print axioms matchNames_card
end Go.Proofs.YtemmhdgaagaglaaDoor
