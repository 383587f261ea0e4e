/- ChartTrue: the row: the law returns true for every input. No condition. -/
import Derived.Test.YtccjnjhlnpgocaaQ16
import Derived.SevenTiedAt
namespace Go.Proofs.Ytccjnjhlnpgocaa
open Go Go.Sy Go.ChaM Go.ChangeShapes Go.WideShapes Go.Deep Go.RowKit
theorem par5 : Try.f5.params.toList = [5, 42] := by kernel_rfl
theorem res5 : Try.f5.resultTypes = #[4] := by kernel_rfl
theorem rdl5_5 : Try.prog.readableRec 5 = true ∧ 5 < Try.prog.types.size := ⟨by kernel_rfl, of_decide_eq_true (by kernel_rfl)⟩
theorem rdl5_42 : Try.prog.readableRec 42 = true ∧ 42 < Try.prog.types.size := ⟨by kernel_rfl, of_decide_eq_true (by kernel_rfl)⟩
theorem rd5 : ∀ t ∈ Try.f5.params.toList, Try.prog.readableRec t = true ∧ t < Try.prog.types.size := by
  rw [par5]
  intro t ht
  simp only [List.mem_cons, List.not_mem_nil, or_false] at ht
  rcases ht with rfl | rfl
  · exact rdl5_5
  · exact rdl5_42
theorem ok5 {W' : World} : ∀ (j : Nat) (t : TypeId) (r : Value), Try.f5.resultTypes[j]? = some t → ((Value.bool true).resultList Try.f5.resultTypes.size)[j]? = some r → Value.okWide Try.prog W' .any 0 t r := by
  rw [res5]
  intro j t r h1 h2
  match j, h1, h2 with
  | 0, h1, h2 =>
    cases h1; cases h2
    simp [Value.okWide, un4, Cell.okWide, Cell.ok]
  | j + 1, h1, _ => simp at h1
set_option maxRecDepth 100000 in
theorem chartTrue_lifted (os : Os) (started : os.Started) (H : Type) (enc : TypeId × Value → H) :
    ReturnsInHanded Rows.chartTrueRow.assume Try.checked os 5 .any (Rows.chartTrueSpec.pre6 enc Try.prog Try.f5 [] false)
      (Rows.chartTrueSpec.post enc Try.prog Try.f5 Rows.chartTrueRow.apart Rows.chartTrueRow.fresh Rows.chartTrueRow.handsOn Rows.chartTrueRow.again) := by
  refine returnsInHanded_of_change_sized (C := Try.checked) own started (by kernel_rfl) Try.func5
    (by
    obtain ⟨w, tape, i, h1, h2, h3, h4, ⟨⟨h5, _⟩, h6⟩, h7⟩ := ChangeSpec.witness_at (enc := enc) (C := Try.checked) (os := os) (X := fun _ _ => True) false (World.laidAll Try.prog os Rows.chartTrueRow.laid) #[.int .u8 0, .slice none 0 0] 8 rfl (by kernel_rfl) (by kernel_rfl) (by kernel_rfl) (by kernel_rfl) (by kernel_rfl) True.intro
    exact ⟨w, tape, i, h1, h2, h3, h4, ⟨h5, h6⟩, h7⟩) ?_
  intro W base args ds gs before hval0 hW _ _ _
  have hval : ∀ (j : Nat) t v, Try.f5.params[j]? = some t → args[j]? = some v → Value.okWide Try.prog W .any base t v := hval0
  have hW1 : DataW.Whole enc Try.prog Try.f5.params.toList Rows.chartTrueSpec.vars false W args.toList ds gs before := hW
  obtain ⟨p, q, hA0, hVq, hpq, hz, hn⟩ := hW
  obtain ⟨args⟩ := args
  obtain ⟨v1, vs1, d1, ds1, p1, q1, e1a, e1b, e1c, h1, hA1⟩ := trodAll_cons hA0
  obtain ⟨v2, vs2, d2, ds2, p2, q2, e2a, e2b, e2c, h2, hA2⟩ := trodAll_cons hA1
  obtain ⟨e10, e11, e12⟩ := trodAll_nil hA2
  subst e10; subst e11; subst e2a; subst e2b
  have e1a : args = [v1, v2] := e1a
  subst e1a; subst e1b
  obtain rfl : gs = [] := by
    cases gs with
    | nil => rfl
    | cons g r => exact absurd hVq (by intro h; cases h)
  obtain ⟨n1, rfl, rfl, rfl, hw1⟩ := open_int un5 (hval 0 5 v1 rfl rfl) h1
  have hb1 := wf8 (show wfI .u8 n1 from hw1)
  obtain ⟨m2, sy2, cy2, rfl, hm2, hw2, hY2⟩ := openSl1 un42 fk56 (hval 1 42 v2 rfl rfl) h2
  refine (p5 n1 m2 sy2 cy2 W hb1 hY2 hm2 (fun z hz => wf16 (hw2 z hz))).mono fun e W' he => ?_
  cases e with
  | returned v =>
    obtain ⟨rfl, hx⟩ := he
    exact ⟨_, rfl, post_ext (by kernel_rfl) rd5 rfl hx hW1 rfl rfl (fun b sp hd => trodAll_mk1 (shut_bool un4 true)) ok5⟩
  | panicked c => exact he.elim
  | outgrown => exact he.elim
theorem chartTrue_holds : Rows.ChartTrueSaid :=
  OpenClaim.holds_of_wide 5 Try.f5 rfl rfl rfl rfl rfl rfl rfl ⟨rfl, rfl, rfl, rfl, rfl⟩ rfl rfl rfl rfl rfl (by kernel_rfl) Try.func5 (by kernel_rfl)
    (of_decide_eq_true (by kernel_rfl)) (by unfold Func.isWrapper; rw [if_neg (of_decide_eq_false (by kernel_rfl))]; exact ⟨rfl, rfl⟩)
    (fun os started H enc _ => chartTrue_lifted os started H enc)
#print axioms chartTrue_holds
end Go.Proofs.Ytccjnjhlnpgocaa
