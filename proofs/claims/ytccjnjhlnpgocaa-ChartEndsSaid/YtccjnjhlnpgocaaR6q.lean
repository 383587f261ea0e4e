/- ChartEnds: the row: the law returns true for every input. No condition. -/
import Derived.Test.YtccjnjhlnpgocaaQ16
import Derived.SevenTiedAt
namespace Go.Proofs.Ytccjnjhlnpgocaa
open Go Go.Sy Go.ChaM Go.ChangeShapes Go.WideShapes Go.Deep Go.RowKit
theorem par6 : Try.f6.params.toList = [24, 3, 3, 5] := by kernel_rfl
theorem res6 : Try.f6.resultTypes = #[4] := by kernel_rfl
theorem rdl6_24 : Try.prog.readableRec 24 = true ∧ 24 < Try.prog.types.size := ⟨by kernel_rfl, of_decide_eq_true (by kernel_rfl)⟩
theorem rdl6_3 : Try.prog.readableRec 3 = true ∧ 3 < Try.prog.types.size := ⟨by kernel_rfl, of_decide_eq_true (by kernel_rfl)⟩
theorem rdl6_5 : Try.prog.readableRec 5 = true ∧ 5 < Try.prog.types.size := ⟨by kernel_rfl, of_decide_eq_true (by kernel_rfl)⟩
theorem rd6 : ∀ t ∈ Try.f6.params.toList, Try.prog.readableRec t = true ∧ t < Try.prog.types.size := by
  rw [par6]
  intro t ht
  simp only [List.mem_cons, List.not_mem_nil, or_false] at ht
  rcases ht with rfl | rfl | rfl | rfl
  · exact rdl6_24
  · exact rdl6_3
  · exact rdl6_3
  · exact rdl6_5
theorem ok6 {W' : World} : ∀ (j : Nat) (t : TypeId) (r : Value), Try.f6.resultTypes[j]? = some t → ((Value.bool true).resultList Try.f6.resultTypes.size)[j]? = some r → Value.okWide Try.prog W' .any 0 t r := by
  rw [res6]
  intro j t r h1 h2
  match j, h1, h2 with
  | 0, h1, h2 =>
    cases h1; cases h2
    simp [Value.okWide, un4, Cell.okWide, Cell.ok]
  | j + 1, h1, _ => simp at h1
set_option maxRecDepth 100000 in
theorem chartEnds_lifted (os : Os) (started : os.Started) (H : Type) (enc : TypeId × Value → H) :
    ReturnsInHanded Rows.chartEndsRow.assume Try.checked os 6 .any (Rows.chartEndsSpec.pre6 enc Try.prog Try.f6 [] false)
      (Rows.chartEndsSpec.post enc Try.prog Try.f6 Rows.chartEndsRow.apart Rows.chartEndsRow.fresh Rows.chartEndsRow.handsOn Rows.chartEndsRow.again) := by
  refine returnsInHanded_of_change_sized (C := Try.checked) own started (by kernel_rfl) Try.func6
    (by
    obtain ⟨w, tape, i, h1, h2, h3, h4, ⟨⟨h5, _⟩, h6⟩, h7⟩ := ChangeSpec.witness_at (enc := enc) (C := Try.checked) (os := os) (X := fun _ _ => True) false (World.laidAll Try.prog os Rows.chartEndsRow.laid) #[.agg #[.int .i64 0, .slice none 0 0], .int .i64 0, .int .i64 0, .int .u8 0] 8 rfl (by kernel_rfl) (by kernel_rfl) (by kernel_rfl) (by kernel_rfl) (by kernel_rfl) True.intro
    exact ⟨w, tape, i, h1, h2, h3, h4, ⟨h5, h6⟩, h7⟩) ?_
  intro W base args ds gs before hval0 hW _ _ _
  have hval : ∀ (j : Nat) t v, Try.f6.params[j]? = some t → args[j]? = some v → Value.okWide Try.prog W .any base t v := hval0
  have hW1 : DataW.Whole enc Try.prog Try.f6.params.toList Rows.chartEndsSpec.vars false W args.toList ds gs before := hW
  obtain ⟨p, q, hA0, hVq, hpq, hz, hn⟩ := hW
  obtain ⟨args⟩ := args
  obtain ⟨v1, vs1, d1, ds1, p1, q1, e1a, e1b, e1c, h1, hA1⟩ := trodAll_cons hA0
  obtain ⟨v2, vs2, d2, ds2, p2, q2, e2a, e2b, e2c, h2, hA2⟩ := trodAll_cons hA1
  obtain ⟨v3, vs3, d3, ds3, p3, q3, e3a, e3b, e3c, h3, hA3⟩ := trodAll_cons hA2
  obtain ⟨v4, vs4, d4, ds4, p4, q4, e4a, e4b, e4c, h4, hA4⟩ := trodAll_cons hA3
  obtain ⟨e10, e11, e12⟩ := trodAll_nil hA4
  subst e10; subst e11; subst e4a; subst e4b; subst e3a; subst e3b; subst e2a; subst e2b
  have e1a : args = [v1, v2, v3, v4] := e1a
  subst e1a; subst e1b
  obtain rfl : gs = [] := by
    cases gs with
    | nil => rfl
    | cons g r => exact absurd hVq (by intro h; cases h)
  obtain ⟨c1, sa1, cp1, rfl, hC1, hcp1⟩ := openCha (hval 0 24 v1 rfl rfl) h1
  obtain ⟨n2, rfl, rfl, rfl, hw2⟩ := open_int Try.un_3 (hval 1 3 v2 rfl rfl) h2
  have hb2 := wf64 (show wfI .i64 n2 from hw2)
  obtain ⟨n3, rfl, rfl, rfl, hw3⟩ := open_int Try.un_3 (hval 2 3 v3 rfl rfl) h3
  have hb3 := wf64 (show wfI .i64 n3 from hw3)
  obtain ⟨n4, rfl, rfl, rfl, hw4⟩ := open_int un5 (hval 3 5 v4 rfl rfl) h4
  have hb4 := wf8 (show wfI .u8 n4 from hw4)
  refine (p6 c1 sa1 cp1 n2 n3 n4 W hC1 hb2 hb3 hb4).mono fun e W' he => ?_
  cases e with
  | returned v =>
    obtain ⟨rfl, hx⟩ := he
    exact ⟨_, rfl, post_ext (by kernel_rfl) rd6 rfl hx hW1 rfl rfl (fun b sp hd => trodAll_mk1 (shut_bool un4 true)) ok6⟩
  | panicked c => exact he.elim
  | outgrown => exact he.elim
theorem chartEnds_holds : Rows.ChartEndsSaid :=
  OpenClaim.holds_of_wide 6 Try.f6 rfl rfl rfl rfl rfl rfl rfl ⟨rfl, rfl, rfl, rfl, rfl⟩ rfl rfl rfl rfl rfl (by kernel_rfl) Try.func6 (by kernel_rfl)
    (of_decide_eq_true (by kernel_rfl)) (by unfold Func.isWrapper; rw [if_neg (of_decide_eq_false (by kernel_rfl))]; exact ⟨rfl, rfl⟩)
    (fun os started H enc _ => chartEnds_lifted os started H enc)
#print axioms chartEnds_holds
end Go.Proofs.Ytccjnjhlnpgocaa
