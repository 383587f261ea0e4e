/- BarTakes: the row. (Under way.) -/
import Derived.Test.YtkolcbjghphjeaaDoorP1
import Derived.Test.YtkolcbjghphjeaaDoorChecked
import Derived.RowKit
import Derived.RowKitTokens
import Derived.LaidHandle
import Derived.Stop.Joined
import Derived.Lay
namespace Go.Proofs.YtkolcbjghphjeaaDoor
open Go Go.Sy Go.BarM Go.ChangeShapes Go.WideShapes Go.Deep Go.RowKit
theorem own : ownKnob Tryd.prog.godebug = none := by kernel_rfl
theorem laidWorld_met (os : Os) (args : Array Value) : laidMetH Tryd.prog Rows.barTakesRow.laid ((World.laidAll Tryd.prog os Rows.barTakesRow.laid).forCall (fun _ _ => 0) ⟨#[], args, []⟩).memory :=
  laidMetH_of_parts (laidMet_laidAll args (by kernel_rfl) (by kernel_rfl)) (by kernel_rfl)
theorem un4 : Tryd.prog.underlying 4 = some .bool := by kernel_rfl
theorem rd24 : Tryd.prog.readableRec 24 = true := by kernel_rfl
theorem rd_3 : Tryd.prog.readableRec 3 = true := by kernel_rfl
theorem par3 : Tryd.f3.params.toList = [24, 3, 3] := by kernel_rfl
theorem res3 : Tryd.f3.resultTypes = #[4] := by kernel_rfl
theorem sz24 : 24 < Tryd.prog.types.size := of_decide_eq_true (by kernel_rfl)
theorem sz_3 : 3 < Tryd.prog.types.size := of_decide_eq_true (by kernel_rfl)
theorem rd3 : ∀ t ∈ Tryd.f3.params.toList, Tryd.prog.readableRec t = true ∧ t < Tryd.prog.types.size := by
  rw [par3]
  intro t ht
  simp at ht
  rcases ht with rfl | rfl
  · exact ⟨rd24, sz24⟩
  · exact ⟨rd_3, sz_3⟩
theorem ok3 {W' : World} : ∀ (j : Nat) (t : TypeId) (r : Value), Tryd.f3.resultTypes[j]? = some t → ((Value.bool true).resultList Tryd.f3.resultTypes.size)[j]? = some r → Value.okWide Tryd.prog W' .any 0 t r := by
  rw [res3]
  intro j t r h1 h2
  match j, h1, h2 with
  | 0, h1, h2 =>
    cases h1; cases h2
    simp [Value.okWide, un4, Cell.okWide, Cell.ok]
  | j + 1, h1, _ => simp at h1
set_option maxRecDepth 100000 in
theorem barTakes_lifted (os : Os) (started : os.Started) (H : Type) (enc : TypeId × Value → H) :
    ReturnsInHanded Rows.barTakesRow.assume Tryd.checked os 3 .any (fun w args => (Rows.barTakesSpec.pre enc Tryd.prog Tryd.f3 [] false w args ∧ laidMetH Tryd.prog Rows.barTakesRow.laid w) ∧ sizedMet enc Tryd.prog Tryd.f3 (OpenSpec.ofChange Rows.barTakesSpec) false w args)
      (Rows.barTakesSpec.post enc Tryd.prog Tryd.f3 Rows.barTakesRow.apart Rows.barTakesRow.fresh Rows.barTakesRow.handsOn Rows.barTakesRow.again) := by
  refine returnsInHanded_of_change_and (C := Tryd.checked) (X := fun w _ => laidMetH Tryd.prog Rows.barTakesRow.laid w) (fun _ _ _ hh h => h.of_heap hh) own started (by kernel_rfl) Tryd.func3
    (ChangeSpec.witness_at (enc := enc) (C := Tryd.checked) (os := os) (X := fun w _ => laidMetH Tryd.prog Rows.barTakesRow.laid w) false (World.laidAll Tryd.prog os Rows.barTakesRow.laid) #[.agg #[.int .i64 0, .int .i64 0, .int .i64 0, .int .i64 0, .slice none 0 0], .int .i64 0, .int .i64 0] 8 rfl (by kernel_rfl) (by kernel_rfl) (by kernel_rfl) (by kernel_rfl) (by kernel_rfl) (laidWorld_met os _)) ?_
  intro W base args ds gs before hval0 hW _ _ hL _
  have hval : ∀ (j : Nat) t v, Tryd.f3.params[j]? = some t → args[j]? = some v → Value.okWide Tryd.prog W .any base t v := hval0
  have hW1 : DataW.Whole enc Tryd.prog Tryd.f3.params.toList Rows.barTakesSpec.vars false W args.toList ds gs before := hW
  obtain ⟨p, q, hA0, hVq, hpq, hz, hn⟩ := hW
  obtain ⟨args⟩ := args
  obtain ⟨v1, vs1, d1, ds1, p1, q1, e1, e2, e3, h1, hA1⟩ := trodAll_cons hA0
  obtain ⟨v2, vs2, d2, ds2, p2, q2, e4, e5, e6, h2, hA2⟩ := trodAll_cons hA1
  obtain ⟨v3, vs3, d3, ds3, p3, q3, e7, e8, e9, h3, hA3⟩ := trodAll_cons hA2
  obtain ⟨e10, e11, e12⟩ := trodAll_nil hA3
  subst e10; subst e11; subst e7; subst e8; subst e4; subst e5
  have e1 : args = [v1, v2, v3] := e1
  subst e1; subst e2
  obtain rfl : gs = [] := by
    cases gs with
    | nil => rfl
    | cons g r => exact absurd hVq (by intro h; cases h)
  obtain ⟨b, sa, sc, rfl, hS⟩ := openBar (hval 0 24 v1 rfl rfl) h1
  obtain ⟨n, rfl, rfl, rfl, hwn⟩ := open_int Tryd.un_3 (hval 1 3 v2 rfl rfl) h2
  obtain ⟨m, rfl, rfl, rfl, hwm⟩ := open_int Tryd.un_3 (hval 2 3 v3 rfl rfl) h3
  have hLL : laidMet Tryd.prog Rows.barTakesRow.laid W := hL
  have hT : GTab W := gTab_of_laid (l := Rows.barTakesRow.laid) (.tail _ (.head _)) hLL
  have hnb : n ≤ 9223372036854775807 := by
    simp only [Lit.wf, Bool.and_eq_true, decide_eq_true_eq] at hwn
    have h9 : IntKind.i64.max = 9223372036854775807 := by decide
    rw [h9] at hwn; exact hwn.2
  refine (c3 b sa sc W hS hT n m hnb).mono fun e W' he => ?_
  cases e with
  | returned v =>
    obtain ⟨rfl, hx⟩ := he
    exact ⟨_, rfl, post_ext (by kernel_rfl) rd3 rfl hx hW1 rfl rfl (fun b sp hd => trodAll_mk1 (shut_bool un4 true)) ok3⟩
  | panicked c => exact he.elim
  | outgrown => exact he.elim
theorem barTakes_holds : Rows.BarTakesSaid :=
  OpenClaim.holds_of_wide 3 Tryd.f3 rfl rfl rfl rfl rfl rfl rfl ⟨rfl, rfl, rfl, rfl, rfl⟩ rfl rfl rfl rfl rfl (by kernel_rfl) Tryd.func3 (by kernel_rfl)
    (of_decide_eq_true (by kernel_rfl)) (by unfold Func.isWrapper; rw [if_neg (of_decide_eq_false (by kernel_rfl))]; exact ⟨rfl, rfl⟩)
    (fun os started H enc _ => barTakes_lifted os started H enc)
end Go.Proofs.YtkolcbjghphjeaaDoor
