/- TopRound: the row: the law returns true for every input. No condition. -/
import Derived.Test.YtccpgpnekoncoaaGreatQ29
import Derived.SevenTiedAt
namespace Go.Proofs.YtccpgpnekoncoaaGreat
open Go Go.Sy Go.WalM Go.RoyM Go.ChangeShapes Go.WideShapes Go.Deep Go.RowKit
theorem par3 : Tryz.f3.params.toList = [25, 27, 3, 28, 29] := by kernel_rfl
theorem res3 : Tryz.f3.resultTypes = #[4] := by kernel_rfl
theorem rdl3_25 : Tryz.prog.readableRec 25 = true ∧ 25 < Tryz.prog.types.size := ⟨by kernel_rfl, of_decide_eq_true (by kernel_rfl)⟩
theorem rdl3_27 : Tryz.prog.readableRec 27 = true ∧ 27 < Tryz.prog.types.size := ⟨by kernel_rfl, of_decide_eq_true (by kernel_rfl)⟩
theorem rdl3_3 : Tryz.prog.readableRec 3 = true ∧ 3 < Tryz.prog.types.size := ⟨by kernel_rfl, of_decide_eq_true (by kernel_rfl)⟩
theorem rdl3_28 : Tryz.prog.readableRec 28 = true ∧ 28 < Tryz.prog.types.size := ⟨by kernel_rfl, of_decide_eq_true (by kernel_rfl)⟩
theorem rdl3_29 : Tryz.prog.readableRec 29 = true ∧ 29 < Tryz.prog.types.size := ⟨by kernel_rfl, of_decide_eq_true (by kernel_rfl)⟩
theorem rd3 : ∀ t ∈ Tryz.f3.params.toList, Tryz.prog.readableRec t = true ∧ t < Tryz.prog.types.size := by
  rw [par3]
  intro t ht
  simp only [List.mem_cons, List.not_mem_nil, or_false] at ht
  rcases ht with rfl | rfl | rfl | rfl | rfl
  · exact rdl3_25
  · exact rdl3_27
  · exact rdl3_3
  · exact rdl3_28
  · exact rdl3_29
theorem ok3 {W' : World} : ∀ (j : Nat) (t : TypeId) (r : Value), Tryz.f3.resultTypes[j]? = some t → ((Value.bool true).resultList Tryz.f3.resultTypes.size)[j]? = some r → Value.okWide Tryz.prog W' .any 0 t r := by
  rw [res3]
  intro j t r h1 h2
  match j, h1, h2 with
  | 0, h1, h2 =>
    cases h1; cases h2
    simp [Value.okWide, un4, Cell.okWide, Cell.ok]
  | j + 1, h1, _ => simp at h1
set_option maxRecDepth 100000 in
theorem topRound_lifted (os : Os) (started : os.Started) (H : Type) (enc : TypeId × Value → H) :
    ReturnsInHanded Rows.topRoundRow.assume Tryz.checked os 3 .any (Rows.topRoundSpec.pre6 enc Tryz.prog Tryz.f3 [] false)
      (Rows.topRoundSpec.post enc Tryz.prog Tryz.f3 Rows.topRoundRow.apart Rows.topRoundRow.fresh Rows.topRoundRow.handsOn Rows.topRoundRow.again) := by
  refine returnsInHanded_of_change_sized (C := Tryz.checked) own started (by kernel_rfl) Tryz.func3
    (by
    obtain ⟨w, tape, i, h1, h2, h3, h4, ⟨⟨h5, _⟩, h6⟩, h7⟩ := ChangeSpec.witness_at (enc := enc) (C := Tryz.checked) (os := os) (X := fun _ _ => True) false (World.laidAll Tryz.prog os Rows.topRoundRow.laid) #[.agg #[.int .i64 0, .slice none 0 0, .slice none 0 0, .slice none 0 0, .slice none 0 0], .agg #[.int .i64 0, .int .i64 0, .int .i64 0], .int .i64 0, .slice none 0 0, .slice none 0 0] 8 rfl (by kernel_rfl) (by kernel_rfl) (by kernel_rfl) (by kernel_rfl) (by kernel_rfl) True.intro
    exact ⟨w, tape, i, h1, h2, h3, h4, ⟨h5, h6⟩, h7⟩) ?_
  intro W base args ds gs before hval0 hW _ _ _
  have hval : ∀ (j : Nat) t v, Tryz.f3.params[j]? = some t → args[j]? = some v → Value.okWide Tryz.prog W .any base t v := hval0
  have hW1 : DataW.Whole enc Tryz.prog Tryz.f3.params.toList Rows.topRoundSpec.vars false W args.toList ds gs before := hW
  obtain ⟨p, q, hA0, hVq, hpq, hz, hn⟩ := hW
  obtain ⟨args⟩ := args
  obtain ⟨v1, vs1, d1, ds1, p1, q1, e1a, e1b, e1c, h1, hA1⟩ := trodAll_cons hA0
  obtain ⟨v2, vs2, d2, ds2, p2, q2, e2a, e2b, e2c, h2, hA2⟩ := trodAll_cons hA1
  obtain ⟨v3, vs3, d3, ds3, p3, q3, e3a, e3b, e3c, h3, hA3⟩ := trodAll_cons hA2
  obtain ⟨v4, vs4, d4, ds4, p4, q4, e4a, e4b, e4c, h4, hA4⟩ := trodAll_cons hA3
  obtain ⟨v5, vs5, d5, ds5, p5, q5, e5a, e5b, e5c, h5, hA5⟩ := trodAll_cons hA4
  obtain ⟨e10, e11, e12⟩ := trodAll_nil hA5
  subst e10; subst e11; subst e5a; subst e5b; subst e4a; subst e4b; subst e3a; subst e3b; subst e2a; subst e2b
  have e1a : args = [v1, v2, v3, v4, v5] := e1a
  subst e1a; subst e1b
  obtain rfl : gs = [] := by
    cases gs with
    | nil => rfl
    | cons g r => exact absurd hVq (by intro h; cases h)
  obtain ⟨r1, pl1, rfl, hR1⟩ := openTou (hval 0 25 v1 rfl rfl) h1
  obtain ⟨t2, rfl⟩ := openTm (hval 1 27 v2 rfl rfl) h2
  obtain ⟨n3, rfl, rfl, rfl, hw3⟩ := open_int Tryz.un_3 (hval 2 3 v3 rfl rfl) h3
  have hb3 := wf64 (show wfI .i64 n3 from hw3)
  obtain ⟨m4, sy4, cy4, rfl, hm4, hw4, hY4⟩ := openSl1 un28 fk3 (hval 3 28 v4 rfl rfl) h4
  obtain ⟨m5, sy5, cy5, rfl, hm5, hw5, hY5⟩ := openSl1 un29 fk5 (hval 4 29 v5 rfl rfl) h5
  refine (k3 r1 pl1 t2 n3 m4 sy4 cy4 m5 sy5 cy5 W hR1 hb3 (iat_flat hY4) hm4 (u8_flat hY5) hm5 (fun z hz => wf8 (hw5 z hz))).mono fun e W' he => ?_
  cases e with
  | returned v =>
    obtain ⟨rfl, hx⟩ := he
    exact ⟨_, rfl, post_ext (by kernel_rfl) rd3 rfl hx hW1 rfl rfl (fun b sp hd => trodAll_mk1 (shut_bool un4 true)) ok3⟩
  | panicked c => exact he.elim
  | outgrown => exact he.elim
theorem topRound_holds : Rows.TopRoundSaid :=
  OpenClaim.holds_of_wide 3 Tryz.f3 rfl rfl rfl rfl rfl rfl rfl ⟨rfl, rfl, rfl, rfl, rfl⟩ rfl rfl rfl rfl rfl (by kernel_rfl) Tryz.func3 (by kernel_rfl)
    (of_decide_eq_true (by kernel_rfl)) (by unfold Func.isWrapper; rw [if_neg (of_decide_eq_false (by kernel_rfl))]; exact ⟨rfl, rfl⟩)
    (fun os started H enc _ => topRound_lifted os started H enc)
#print axioms topRound_holds
end Go.Proofs.YtccpgpnekoncoaaGreat
