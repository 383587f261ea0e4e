/- TopTill: the row: the law returns true for every input. No condition. -/
import Derived.Test.YtccpgpnekoncoaaQ22
import Derived.SevenTiedAt
namespace Go.Proofs.Ytccpgpnekoncoaa
open Go Go.Sy Go.RoyM Go.ChangeShapes Go.WideShapes Go.Deep Go.RowKit
theorem par3 : Try.f3.params.toList = [24, 3, 3, 25, 5, 5] := by kernel_rfl
theorem res3 : Try.f3.resultTypes = #[4] := by kernel_rfl
theorem rdl3_24 : Try.prog.readableRec 24 = true ∧ 24 < Try.prog.types.size := ⟨by kernel_rfl, of_decide_eq_true (by kernel_rfl)⟩
theorem rdl3_3 : Try.prog.readableRec 3 = true ∧ 3 < Try.prog.types.size := ⟨by kernel_rfl, of_decide_eq_true (by kernel_rfl)⟩
theorem rdl3_25 : Try.prog.readableRec 25 = true ∧ 25 < Try.prog.types.size := ⟨by kernel_rfl, of_decide_eq_true (by kernel_rfl)⟩
theorem rdl3_5 : Try.prog.readableRec 5 = true ∧ 5 < Try.prog.types.size := ⟨by kernel_rfl, of_decide_eq_true (by kernel_rfl)⟩
theorem rd3 : ∀ t ∈ Try.f3.params.toList, Try.prog.readableRec t = true ∧ t < Try.prog.types.size := by
  rw [par3]
  intro t ht
  simp only [List.mem_cons, List.not_mem_nil, or_false] at ht
  rcases ht with rfl | rfl | rfl | rfl | rfl | rfl
  · exact rdl3_24
  · exact rdl3_3
  · exact rdl3_3
  · exact rdl3_25
  · exact rdl3_5
  · exact rdl3_5
theorem ok3 {W' : World} : ∀ (j : Nat) (t : TypeId) (r : Value), Try.f3.resultTypes[j]? = some t → ((Value.bool true).resultList Try.f3.resultTypes.size)[j]? = some r → Value.okWide Try.prog W' .any 0 t r := by
  rw [res3]
  intro j t r h1 h2
  match j, h1, h2 with
  | 0, h1, h2 =>
    cases h1; cases h2
    simp [Value.okWide, un4, Cell.okWide, Cell.ok]
  | j + 1, h1, _ => simp at h1
set_option maxRecDepth 100000 in
theorem topTill_lifted (os : Os) (started : os.Started) (H : Type) (enc : TypeId × Value → H) :
    ReturnsInHanded Rows.topTillRow.assume Try.checked os 3 .any (Rows.topTillSpec.pre6 enc Try.prog Try.f3 [] false)
      (Rows.topTillSpec.post enc Try.prog Try.f3 Rows.topTillRow.apart Rows.topTillRow.fresh Rows.topTillRow.handsOn Rows.topTillRow.again) := by
  refine returnsInHanded_of_change_sized (C := Try.checked) own started (by kernel_rfl) Try.func3
    (by
    obtain ⟨w, tape, i, h1, h2, h3, h4, ⟨⟨h5, _⟩, h6⟩, h7⟩ := ChangeSpec.witness_at (enc := enc) (C := Try.checked) (os := os) (X := fun _ _ => True) false (World.laidAll Try.prog os Rows.topTillRow.laid) #[.agg #[.int .i64 0, .int .i64 0, .int .i64 0, .int .i64 0, .int .i64 0, .int .i64 0], .int .i64 0, .int .i64 0, .slice none 0 0, .int .u8 0, .int .u8 0] 8 rfl (by kernel_rfl) (by kernel_rfl) (by kernel_rfl) (by kernel_rfl) (by kernel_rfl) True.intro
    exact ⟨w, tape, i, h1, h2, h3, h4, ⟨h5, h6⟩, h7⟩) ?_
  intro W base args ds gs before hval0 hW _ _ _
  have hval : ∀ (j : Nat) t v, Try.f3.params[j]? = some t → args[j]? = some v → Value.okWide Try.prog W .any base t v := hval0
  have hW1 : DataW.Whole enc Try.prog Try.f3.params.toList Rows.topTillSpec.vars false W args.toList ds gs before := hW
  obtain ⟨p, q, hA0, hVq, hpq, hz, hn⟩ := hW
  obtain ⟨args⟩ := args
  obtain ⟨v1, vs1, d1, ds1, p1, q1, e1a, e1b, e1c, h1, hA1⟩ := trodAll_cons hA0
  obtain ⟨v2, vs2, d2, ds2, p2, q2, e2a, e2b, e2c, h2, hA2⟩ := trodAll_cons hA1
  obtain ⟨v3, vs3, d3, ds3, p3, q3, e3a, e3b, e3c, h3, hA3⟩ := trodAll_cons hA2
  obtain ⟨v4, vs4, d4, ds4, p4, q4, e4a, e4b, e4c, h4, hA4⟩ := trodAll_cons hA3
  obtain ⟨v5, vs5, d5, ds5, p5, q5, e5a, e5b, e5c, h5, hA5⟩ := trodAll_cons hA4
  obtain ⟨v6, vs6, d6, ds6, p6, q6, e6a, e6b, e6c, h6, hA6⟩ := trodAll_cons hA5
  obtain ⟨e10, e11, e12⟩ := trodAll_nil hA6
  subst e10; subst e11; subst e6a; subst e6b; subst e5a; subst e5b; subst e4a; subst e4b; subst e3a; subst e3b; subst e2a; subst e2b
  have e1a : args = [v1, v2, v3, v4, v5, v6] := e1a
  subst e1a; subst e1b
  obtain rfl : gs = [] := by
    cases gs with
    | nil => rfl
    | cons g r => exact absurd hVq (by intro h; cases h)
  obtain ⟨t1, y1, rfl⟩ := openTs (hval 0 24 v1 rfl rfl) h1
  obtain ⟨n2, rfl, rfl, rfl, hw2⟩ := open_int Try.un_3 (hval 1 3 v2 rfl rfl) h2
  have hb2 := wf64 (show wfI .i64 n2 from hw2)
  obtain ⟨n3, rfl, rfl, rfl, hw3⟩ := open_int Try.un_3 (hval 2 3 v3 rfl rfl) h3
  have hb3 := wf64 (show wfI .i64 n3 from hw3)
  obtain ⟨m4, sy4, cy4, rfl, hm4, hw4, hY4⟩ := openSl1 un25 fk3 (hval 3 25 v4 rfl rfl) h4
  obtain ⟨n5, rfl, rfl, rfl, hw5⟩ := open_int un5 (hval 4 5 v5 rfl rfl) h5
  have hb5 := wf8 (show wfI .u8 n5 from hw5)
  obtain ⟨n6, rfl, rfl, rfl, hw6⟩ := open_int un5 (hval 5 5 v6 rfl rfl) h6
  have hb6 := wf8 (show wfI .u8 n6 from hw6)
  refine (s3 t1 y1 n2 n3 m4 sy4 cy4 n5 n6 W (iat_flat hY4) hm4 hb5 hb6).mono fun e W' he => ?_
  cases e with
  | returned v =>
    obtain ⟨rfl, hx⟩ := he
    exact ⟨_, rfl, post_ext (by kernel_rfl) rd3 rfl hx hW1 rfl rfl (fun b sp hd => trodAll_mk1 (shut_bool un4 true)) ok3⟩
  | panicked c => exact he.elim
  | outgrown => exact he.elim
theorem topTill_holds : Rows.TopTillSaid :=
  OpenClaim.holds_of_wide 3 Try.f3 rfl rfl rfl rfl rfl rfl rfl ⟨rfl, rfl, rfl, rfl, rfl⟩ rfl rfl rfl rfl rfl (by kernel_rfl) Try.func3 (by kernel_rfl)
    (of_decide_eq_true (by kernel_rfl)) (by unfold Func.isWrapper; rw [if_neg (of_decide_eq_false (by kernel_rfl))]; exact ⟨rfl, rfl⟩)
    (fun os started H enc _ => topTill_lifted os started H enc)
#print axioms topTill_holds
end Go.Proofs.Ytccpgpnekoncoaa
