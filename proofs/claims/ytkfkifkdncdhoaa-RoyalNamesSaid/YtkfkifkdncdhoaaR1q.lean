/- RoyalNames: the row: the law returns true for every input. No condition. -/
import Derived.Test.YtkfkifkdncdhoaaQ16
import Derived.SevenTiedAt
namespace Go.Proofs.Ytkfkifkdncdhoaa
open Go Go.Sy Go.RoyM Go.ChangeShapes Go.WideShapes Go.Deep Go.RowKit
theorem par6 : Try.f6.params.toList = [] := by kernel_rfl
theorem res6 : Try.f6.resultTypes = #[4] := by kernel_rfl
theorem rd6 : ∀ t ∈ Try.f6.params.toList, Try.prog.readableRec t = true ∧ t < Try.prog.types.size := by
  rw [par6]
  intro t ht
  cases ht
theorem ok6 {W' : World} : ∀ (j : Nat) (t : TypeId) (r : Value), Try.f6.resultTypes[j]? = some t → ((Value.bool true).resultList Try.f6.resultTypes.size)[j]? = some r → Value.okWide Try.prog W' .any 0 t r := by
  rw [res6]
  intro j t r h1 h2
  match j, h1, h2 with
  | 0, h1, h2 =>
    cases h1; cases h2
    simp [Value.okWide, un4, Cell.okWide, Cell.ok]
  | j + 1, h1, _ => simp at h1
set_option maxRecDepth 100000 in
theorem royalNames_lifted (os : Os) (started : os.Started) (H : Type) (enc : TypeId × Value → H) :
    ReturnsInHanded Rows.royalNamesRow.assume Try.checked os 6 .any (Rows.royalNamesSpec.pre6 enc Try.prog Try.f6 [] false)
      (Rows.royalNamesSpec.post enc Try.prog Try.f6 Rows.royalNamesRow.apart Rows.royalNamesRow.fresh Rows.royalNamesRow.handsOn Rows.royalNamesRow.again) := by
  refine returnsInHanded_of_change_sized (C := Try.checked) own started (by kernel_rfl) Try.func6
    (by
    obtain ⟨w, tape, i, h1, h2, h3, h4, ⟨⟨h5, _⟩, h6⟩, h7⟩ := ChangeSpec.witness_at (enc := enc) (C := Try.checked) (os := os) (X := fun _ _ => True) false (World.laidAll Try.prog os Rows.royalNamesRow.laid) #[] 8 rfl (by kernel_rfl) (by kernel_rfl) (by kernel_rfl) (by kernel_rfl) (by kernel_rfl) True.intro
    exact ⟨w, tape, i, h1, h2, h3, h4, ⟨h5, h6⟩, h7⟩) ?_
  intro W base args ds gs before hval0 hW _ _ _
  have hval : ∀ (j : Nat) t v, Try.f6.params[j]? = some t → args[j]? = some v → Value.okWide Try.prog W .any base t v := hval0
  have hW1 : DataW.Whole enc Try.prog Try.f6.params.toList Rows.royalNamesSpec.vars false W args.toList ds gs before := hW
  obtain ⟨p, q, hA0, hVq, hpq, hz, hn⟩ := hW
  obtain ⟨args⟩ := args
  obtain ⟨e10, e11, e12⟩ := trodAll_nil hA0
  have e10 : args = [] := e10
  subst e10; subst e11
  obtain rfl : gs = [] := by
    cases gs with
    | nil => rfl
    | cons g r => exact absurd hVq (by intro h; cases h)
  refine (p6 W).mono fun e W' he => ?_
  cases e with
  | returned v =>
    obtain ⟨rfl, hx⟩ := he
    exact ⟨_, rfl, post_ext (by kernel_rfl) rd6 rfl hx hW1 rfl rfl (fun b sp hd => trodAll_mk1 (shut_bool un4 true)) ok6⟩
  | panicked c => exact he.elim
  | outgrown => exact he.elim
theorem royalNames_holds : Rows.RoyalNamesSaid :=
  OpenClaim.holds_of_wide 6 Try.f6 rfl rfl rfl rfl rfl rfl rfl ⟨rfl, rfl, rfl, rfl, rfl⟩ rfl rfl rfl rfl rfl (by kernel_rfl) Try.func6 (by kernel_rfl)
    (of_decide_eq_true (by kernel_rfl)) (by unfold Func.isWrapper; rw [if_neg (of_decide_eq_false (by kernel_rfl))]; exact ⟨rfl, rfl⟩)
    (fun os started H enc _ => royalNames_lifted os started H enc)
#print axioms royalNames_holds
end Go.Proofs.Ytkfkifkdncdhoaa
