/- PaintNames: the row: the law returns true for every input. No condition. -/
import Derived.Test.YtidieepndphodaaQ22
import Derived.SevenTiedAt
namespace Go.Proofs.Ytidieepndphodaa
open Go Go.Sy Go.MatM Go.ChangeShapes Go.WideShapes Go.Deep Go.RowKit
theorem par3 : Try.f3.params.toList = [] := by kernel_rfl
theorem res3 : Try.f3.resultTypes = #[4] := by kernel_rfl
theorem rd3 : ∀ t ∈ Try.f3.params.toList, Try.prog.readableRec t = true ∧ t < Try.prog.types.size := by
  rw [par3]
  intro t ht
  cases ht
theorem ok3 {W' : World} : ∀ (j : Nat) (t : TypeId) (r : Value), Try.f3.resultTypes[j]? = some t → ((Value.bool true).resultList Try.f3.resultTypes.size)[j]? = some r → Value.okWide Try.prog W' .any 0 t r := by
  rw [res3]
  intro j t r h1 h2
  match j, h1, h2 with
  | 0, h1, h2 =>
    cases h1; cases h2
    simp [Value.okWide, un4, Cell.okWide, Cell.ok]
  | j + 1, h1, _ => simp at h1
set_option maxRecDepth 100000 in
theorem paintNames_lifted (os : Os) (started : os.Started) (H : Type) (enc : TypeId × Value → H) :
    ReturnsInHanded Rows.paintNamesRow.assume Try.checked os 3 .any (Rows.paintNamesSpec.pre6 enc Try.prog Try.f3 [] false)
      (Rows.paintNamesSpec.post enc Try.prog Try.f3 Rows.paintNamesRow.apart Rows.paintNamesRow.fresh Rows.paintNamesRow.handsOn Rows.paintNamesRow.again) := by
  refine returnsInHanded_of_change_sized (C := Try.checked) own started (by kernel_rfl) Try.func3
    (by
    obtain ⟨w, tape, i, h1, h2, h3, h4, ⟨⟨h5, _⟩, h6⟩, h7⟩ := ChangeSpec.witness_at (enc := enc) (C := Try.checked) (os := os) (X := fun _ _ => True) false (World.laidAll Try.prog os Rows.paintNamesRow.laid) #[] 8 rfl (by kernel_rfl) (by kernel_rfl) (by kernel_rfl) (by kernel_rfl) (by kernel_rfl) True.intro
    exact ⟨w, tape, i, h1, h2, h3, h4, ⟨h5, h6⟩, h7⟩) ?_
  intro W base args ds gs before hval0 hW _ _ _
  have hval : ∀ (j : Nat) t v, Try.f3.params[j]? = some t → args[j]? = some v → Value.okWide Try.prog W .any base t v := hval0
  have hW1 : DataW.Whole enc Try.prog Try.f3.params.toList Rows.paintNamesSpec.vars false W args.toList ds gs before := hW
  obtain ⟨p, q, hA0, hVq, hpq, hz, hn⟩ := hW
  obtain ⟨args⟩ := args
  obtain ⟨e10, e11, e12⟩ := trodAll_nil hA0
  have e10 : args = [] := e10
  subst e10; subst e11
  obtain rfl : gs = [] := by
    cases gs with
    | nil => rfl
    | cons g r => exact absurd hVq (by intro h; cases h)
  refine (p3 W).mono fun e W' he => ?_
  cases e with
  | returned v =>
    obtain ⟨rfl, hx⟩ := he
    exact ⟨_, rfl, post_ext (by kernel_rfl) rd3 rfl hx hW1 rfl rfl (fun b sp hd => trodAll_mk1 (shut_bool un4 true)) ok3⟩
  | panicked c => exact he.elim
  | outgrown => exact he.elim
theorem paintNames_holds : Rows.PaintNamesSaid :=
  OpenClaim.holds_of_wide 3 Try.f3 rfl rfl rfl rfl rfl rfl rfl ⟨rfl, rfl, rfl, rfl, rfl⟩ rfl rfl rfl rfl rfl (by kernel_rfl) Try.func3 (by kernel_rfl)
    (of_decide_eq_true (by kernel_rfl)) (by unfold Func.isWrapper; rw [if_neg (of_decide_eq_false (by kernel_rfl))]; exact ⟨rfl, rfl⟩)
    (fun os started H enc _ => paintNames_lifted os started H enc)
#print axioms paintNames_holds
end Go.Proofs.Ytidieepndphodaa
