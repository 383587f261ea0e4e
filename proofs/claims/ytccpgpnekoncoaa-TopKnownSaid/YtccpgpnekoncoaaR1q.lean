/- TopKnown: the row: the law returns true for every input. No condition. -/
import Derived.Test.YtccpgpnekoncoaaQ12
import Derived.SevenTiedAt
namespace Go.Proofs.Ytccpgpnekoncoaa
open Go Go.Sy Go.PaiM Go.ChangeShapes Go.WideShapes Go.Deep Go.RowKit
theorem par4 : Try.f4.params.toList = [66, 5, 67] := by kernel_rfl
theorem res4 : Try.f4.resultTypes = #[4] := by kernel_rfl
theorem rdl4_66 : Try.prog.readableRec 66 = true ∧ 66 < Try.prog.types.size := ⟨by kernel_rfl, of_decide_eq_true (by kernel_rfl)⟩
theorem rdl4_5 : Try.prog.readableRec 5 = true ∧ 5 < Try.prog.types.size := ⟨by kernel_rfl, of_decide_eq_true (by kernel_rfl)⟩
theorem rdl4_67 : Try.prog.readableRec 67 = true ∧ 67 < Try.prog.types.size := ⟨by kernel_rfl, of_decide_eq_true (by kernel_rfl)⟩
theorem rd4 : ∀ t ∈ Try.f4.params.toList, Try.prog.readableRec t = true ∧ t < Try.prog.types.size := by
  rw [par4]
  intro t ht
  simp only [List.mem_cons, List.not_mem_nil, or_false] at ht
  rcases ht with rfl | rfl | rfl
  · exact rdl4_66
  · exact rdl4_5
  · exact rdl4_67
theorem ok4 {W' : World} : ∀ (j : Nat) (t : TypeId) (r : Value), Try.f4.resultTypes[j]? = some t → ((Value.bool true).resultList Try.f4.resultTypes.size)[j]? = some r → Value.okWide Try.prog W' .any 0 t r := by
  rw [res4]
  intro j t r h1 h2
  match j, h1, h2 with
  | 0, h1, h2 =>
    cases h1; cases h2
    simp [Value.okWide, un4, Cell.okWide, Cell.ok]
  | j + 1, h1, _ => simp at h1
set_option maxRecDepth 100000 in
theorem topKnown_lifted (os : Os) (started : os.Started) (H : Type) (enc : TypeId × Value → H) :
    ReturnsInHanded Rows.topKnownRow.assume Try.checked os 4 .any (Rows.topKnownSpec.pre6 enc Try.prog Try.f4 [] false)
      (Rows.topKnownSpec.post enc Try.prog Try.f4 Rows.topKnownRow.apart Rows.topKnownRow.fresh Rows.topKnownRow.handsOn Rows.topKnownRow.again) := by
  refine returnsInHanded_of_change_sized (C := Try.checked) own started (by kernel_rfl) Try.func4
    (by
    obtain ⟨w, tape, i, h1, h2, h3, h4, ⟨⟨h5, _⟩, h6⟩, h7⟩ := ChangeSpec.witness_at (enc := enc) (C := Try.checked) (os := os) (X := fun _ _ => True) false (World.laidAll Try.prog os Rows.topKnownRow.laid) #[.agg #[.int .i64 0, .int .i64 0, .int .i64 0, .int .i64 0, .int .i64 0, .int .i64 0, .int .i64 0, .slice none 0 0, .int .i64 0, .int .i64 0, .int .i64 0, .int .i64 0, .int .i64 0, .int .i64 0, .int .i64 0, .int .i64 0, .int .i64 0], .int .u8 0, .int .u32 0] 8 rfl (by kernel_rfl) (by kernel_rfl) (by kernel_rfl) (by kernel_rfl) (by kernel_rfl) True.intro
    exact ⟨w, tape, i, h1, h2, h3, h4, ⟨h5, h6⟩, h7⟩) ?_
  intro W base args ds gs before hval0 hW _ _ _
  have hval : ∀ (j : Nat) t v, Try.f4.params[j]? = some t → args[j]? = some v → Value.okWide Try.prog W .any base t v := hval0
  have hW1 : DataW.Whole enc Try.prog Try.f4.params.toList Rows.topKnownSpec.vars false W args.toList ds gs before := hW
  obtain ⟨p, q, hA0, hVq, hpq, hz, hn⟩ := hW
  obtain ⟨args⟩ := args
  obtain ⟨v1, vs1, d1, ds1, p1, q1, e1a, e1b, e1c, h1, hA1⟩ := trodAll_cons hA0
  obtain ⟨v2, vs2, d2, ds2, p2, q2, e2a, e2b, e2c, h2, hA2⟩ := trodAll_cons hA1
  obtain ⟨v3, vs3, d3, ds3, p3, q3, e3a, e3b, e3c, h3, hA3⟩ := trodAll_cons hA2
  obtain ⟨e10, e11, e12⟩ := trodAll_nil hA3
  subst e10; subst e11; subst e3a; subst e3b; subst e2a; subst e2b
  have e1a : args = [v1, v2, v3] := e1a
  subst e1a; subst e1b
  obtain rfl : gs = [] := by
    cases gs with
    | nil => rfl
    | cons g r => exact absurd hVq (by intro h; cases h)
  obtain ⟨c1, sa1, cp1, rfl, hC1, hcl1⟩ := openCard (hval 0 66 v1 rfl rfl) h1
  obtain ⟨n2, rfl, rfl, rfl, hw2⟩ := open_int unU8 (hval 1 5 v2 rfl rfl) h2
  have hb2 := wf8 (show wfI .u8 n2 from hw2)
  obtain ⟨m2, rfl⟩ : ∃ m : Nat, n2 = ((m : Nat) : Int) := ⟨n2.toNat, by omega⟩
  obtain ⟨n3, rfl, rfl, rfl, hw3⟩ := open_int unU32 (hval 2 67 v3 rfl rfl) h3
  have hb3 := wf32 (show wfI .u32 n3 from hw3)
  obtain ⟨m3, rfl⟩ : ∃ m : Nat, n3 = ((m : Nat) : Int) := ⟨n3.toNat, by omega⟩
  refine (c_law c1 sa1 cp1 m2 m3 (by omega) (by omega) hcl1 W hC1).mono fun e W' he => ?_
  cases e with
  | returned v =>
    obtain ⟨rfl, hx⟩ := he
    exact ⟨_, rfl, post_ext (by kernel_rfl) rd4 rfl hx hW1 rfl rfl (fun b sp hd => trodAll_mk1 (shut_bool un4 true)) ok4⟩
  | panicked c => exact he.elim
  | outgrown => exact he.elim
theorem topKnown_holds : Rows.TopKnownSaid :=
  OpenClaim.holds_of_wide 4 Try.f4 rfl rfl rfl rfl rfl rfl rfl ⟨rfl, rfl, rfl, rfl, rfl⟩ rfl rfl rfl rfl rfl (by kernel_rfl) Try.func4 (by kernel_rfl)
    (of_decide_eq_true (by kernel_rfl)) (by unfold Func.isWrapper; rw [if_neg (of_decide_eq_false (by kernel_rfl))]; exact ⟨rfl, rfl⟩)
    (fun os started H enc _ => topKnown_lifted os started H enc)
#print axioms topKnown_holds
end Go.Proofs.Ytccpgpnekoncoaa
