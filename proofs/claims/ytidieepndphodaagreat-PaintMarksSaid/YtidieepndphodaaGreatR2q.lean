/- PaintMarks: the row: the law returns true for every input. No condition. -/
import Derived.Test.YtidieepndphodaaGreatQ23
import Derived.SevenTiedAt
namespace Go.Proofs.YtidieepndphodaaGreat
open Go Go.Sy Go.MatM Go.ChangeShapes Go.WideShapes Go.Deep Go.RowKit
theorem par4 : Tryz.f4.params.toList = [28] := by kernel_rfl
theorem res4 : Tryz.f4.resultTypes = #[4] := by kernel_rfl
theorem rdl4_28 : Tryz.prog.readableRec 28 = true ∧ 28 < Tryz.prog.types.size := ⟨by kernel_rfl, of_decide_eq_true (by kernel_rfl)⟩
theorem rd4 : ∀ t ∈ Tryz.f4.params.toList, Tryz.prog.readableRec t = true ∧ t < Tryz.prog.types.size := by
  rw [par4]
  intro t ht
  simp at ht
  subst ht
  exact rdl4_28
theorem ok4 {W' : World} : ∀ (j : Nat) (t : TypeId) (r : Value), Tryz.f4.resultTypes[j]? = some t → ((Value.bool true).resultList Tryz.f4.resultTypes.size)[j]? = some r → Value.okWide Tryz.prog W' .any 0 t r := by
  rw [res4]
  intro j t r h1 h2
  match j, h1, h2 with
  | 0, h1, h2 =>
    cases h1; cases h2
    simp [Value.okWide, un4, Cell.okWide, Cell.ok]
  | j + 1, h1, _ => simp at h1
set_option maxRecDepth 100000 in
theorem paintMarks_lifted (os : Os) (started : os.Started) (H : Type) (enc : TypeId × Value → H) :
    ReturnsInHanded Rows.paintMarksRow.assume Tryz.checked os 4 .any (Rows.paintMarksSpec.pre6 enc Tryz.prog Tryz.f4 [] false)
      (Rows.paintMarksSpec.post enc Tryz.prog Tryz.f4 Rows.paintMarksRow.apart Rows.paintMarksRow.fresh Rows.paintMarksRow.handsOn Rows.paintMarksRow.again) := by
  refine returnsInHanded_of_change_sized (C := Tryz.checked) own started (by kernel_rfl) Tryz.func4
    (by
    obtain ⟨w, tape, i, h1, h2, h3, h4, ⟨⟨h5, _⟩, h6⟩, h7⟩ := ChangeSpec.witness_at (enc := enc) (C := Tryz.checked) (os := os) (X := fun _ _ => True) false (World.laidAll Tryz.prog os Rows.paintMarksRow.laid) #[.agg #[.slice none 0 0, .slice none 0 0, .int .i64 0, .int .i64 0, .int .i64 0, .int .i64 0]] 8 rfl (by kernel_rfl) (by kernel_rfl) (by kernel_rfl) (by kernel_rfl) (by kernel_rfl) True.intro
    exact ⟨w, tape, i, h1, h2, h3, h4, ⟨h5, h6⟩, h7⟩) ?_
  intro W base args ds gs before hval0 hW _ _ _
  have hval : ∀ (j : Nat) t v, Tryz.f4.params[j]? = some t → args[j]? = some v → Value.okWide Tryz.prog W .any base t v := hval0
  have hW1 : DataW.Whole enc Tryz.prog Tryz.f4.params.toList Rows.paintMarksSpec.vars false W args.toList ds gs before := hW
  obtain ⟨p, q, hA0, hVq, hpq, hz, hn⟩ := hW
  obtain ⟨args⟩ := args
  obtain ⟨v1, vs1, d1, ds1, p1, q1, e1a, e1b, e1c, h1, hA1⟩ := trodAll_cons hA0
  obtain ⟨e10, e11, e12⟩ := trodAll_nil hA1
  subst e10; subst e11
  have e1a : args = [v1] := e1a
  subst e1a; subst e1b
  obtain rfl : gs = [] := by
    cases gs with
    | nil => rfl
    | cons g r => exact absurd hVq (by intro h; cases h)
  obtain ⟨r1, p1i, sa1, sb1, ca1, cb1, rfl, hA1m, hB1m, hid1, hp1, hca1, hcb1⟩ := openCan (hval 0 28 v1 rfl rfl) h1
  refine (p4z r1 p1i sa1 sb1 ca1 cb1 W hA1m hB1m).mono fun e W' he => ?_
  cases e with
  | returned v =>
    obtain ⟨rfl, hx⟩ := he
    exact ⟨_, rfl, post_ext (by kernel_rfl) rd4 rfl hx hW1 rfl rfl (fun b sp hd => trodAll_mk1 (shut_bool un4 true)) ok4⟩
  | panicked c => exact he.elim
  | outgrown => exact he.elim
theorem paintMarks_holds : Rows.PaintMarksSaid :=
  OpenClaim.holds_of_wide 4 Tryz.f4 rfl rfl rfl rfl rfl rfl rfl ⟨rfl, rfl, rfl, rfl, rfl⟩ rfl rfl rfl rfl rfl (by kernel_rfl) Tryz.func4 (by kernel_rfl)
    (of_decide_eq_true (by kernel_rfl)) (by unfold Func.isWrapper; rw [if_neg (of_decide_eq_false (by kernel_rfl))]; exact ⟨rfl, rfl⟩)
    (fun os started H enc _ => paintMarks_lifted os started H enc)
#print axioms paintMarks_holds
end Go.Proofs.YtidieepndphodaaGreat
