/- RoyalOnce: the row: the law returns true for every input. No condition. -/
import Derived.Test.YtkfkifkdncdhoaaQ19
import Derived.SevenTiedAt
namespace Go.Proofs.Ytkfkifkdncdhoaa
open Go Go.Sy Go.RoyM Go.ChangeShapes Go.WideShapes Go.Deep Go.RowKit
theorem par11 : Try.f11.params.toList = [37] := by kernel_rfl
theorem res11 : Try.f11.resultTypes = #[4] := by kernel_rfl
theorem rdl11_37 : Try.prog.readableRec 37 = true ∧ 37 < Try.prog.types.size := ⟨by kernel_rfl, of_decide_eq_true (by kernel_rfl)⟩
theorem rd11 : ∀ t ∈ Try.f11.params.toList, Try.prog.readableRec t = true ∧ t < Try.prog.types.size := by
  rw [par11]
  intro t ht
  simp at ht
  subst ht
  exact rdl11_37
theorem ok11 {W' : World} : ∀ (j : Nat) (t : TypeId) (r : Value), Try.f11.resultTypes[j]? = some t → ((Value.bool true).resultList Try.f11.resultTypes.size)[j]? = some r → Value.okWide Try.prog W' .any 0 t r := by
  rw [res11]
  intro j t r h1 h2
  match j, h1, h2 with
  | 0, h1, h2 =>
    cases h1; cases h2
    simp [Value.okWide, un4, Cell.okWide, Cell.ok]
  | j + 1, h1, _ => simp at h1
set_option maxRecDepth 100000 in
theorem royalOnce_lifted (os : Os) (started : os.Started) (H : Type) (enc : TypeId × Value → H) :
    ReturnsInHanded Rows.royalOnceRow.assume Try.checked os 11 .any (Rows.royalOnceSpec.pre6 enc Try.prog Try.f11 [] false)
      (Rows.royalOnceSpec.post enc Try.prog Try.f11 Rows.royalOnceRow.apart Rows.royalOnceRow.fresh Rows.royalOnceRow.handsOn Rows.royalOnceRow.again) := by
  refine returnsInHanded_of_change_sized (C := Try.checked) own started (by kernel_rfl) Try.func11
    (by
    obtain ⟨w, tape, i, h1, h2, h3, h4, ⟨⟨h5, _⟩, h6⟩, h7⟩ := ChangeSpec.witness_at (enc := enc) (C := Try.checked) (os := os) (X := fun _ _ => True) false (World.laidAll Try.prog os Rows.royalOnceRow.laid) #[.agg #[.slice none 0 0, .slice none 0 0, .slice none 0 0, .slice none 0 0, .slice none 0 0]] 8 rfl (by kernel_rfl) (by kernel_rfl) (by kernel_rfl) (by kernel_rfl) (by kernel_rfl) True.intro
    exact ⟨w, tape, i, h1, h2, h3, h4, ⟨h5, h6⟩, h7⟩) ?_
  intro W base args ds gs before hval0 hW _ _ _
  have hval : ∀ (j : Nat) t v, Try.f11.params[j]? = some t → args[j]? = some v → Value.okWide Try.prog W .any base t v := hval0
  have hW1 : DataW.Whole enc Try.prog Try.f11.params.toList Rows.royalOnceSpec.vars false W args.toList ds gs before := hW
  obtain ⟨p, q, hA0, hVq, hpq, hz, hn⟩ := hW
  obtain ⟨args⟩ := args
  obtain ⟨v1, vs1, d1, ds1, p1, q1, e1a, e1b, e1c, h1, hA1⟩ := trodAll_cons hA0
  obtain ⟨e10, e11, e12⟩ := trodAll_nil hA1
  subst e10; subst e11
  have e1a : args = [v1] := e1a
  subst e1a; subst e1b
  obtain rfl : gs = [] := by
    cases gs with
    | nil => rfl
    | cons g r => exact absurd hVq (by intro h; cases h)
  obtain ⟨r1, pl1, rfl, hR1⟩ := openRoy (hval 0 37 v1 rfl rfl) h1
  refine (p11 r1 pl1 W hR1).mono fun e W' he => ?_
  cases e with
  | returned v =>
    obtain ⟨rfl, hx⟩ := he
    exact ⟨_, rfl, post_ext (by kernel_rfl) rd11 rfl hx hW1 rfl rfl (fun b sp hd => trodAll_mk1 (shut_bool un4 true)) ok11⟩
  | panicked c => exact he.elim
  | outgrown => exact he.elim
theorem royalOnce_holds : Rows.RoyalOnceSaid :=
  OpenClaim.holds_of_wide 11 Try.f11 rfl rfl rfl rfl rfl rfl rfl ⟨rfl, rfl, rfl, rfl, rfl⟩ rfl rfl rfl rfl rfl (by kernel_rfl) Try.func11 (by kernel_rfl)
    (of_decide_eq_true (by kernel_rfl)) (by unfold Func.isWrapper; rw [if_neg (of_decide_eq_false (by kernel_rfl))]; exact ⟨rfl, rfl⟩)
    (fun os started H enc _ => royalOnce_lifted os started H enc)
#print axioms royalOnce_holds
end Go.Proofs.Ytkfkifkdncdhoaa
