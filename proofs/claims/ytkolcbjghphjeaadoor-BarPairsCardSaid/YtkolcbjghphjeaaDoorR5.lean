/- BarPairs: the row, and the tied card: the law returns true for every input. Condition: the library's two tables of math/bits lie as the program's text lays them. -/
import Derived.Test.YtkolcbjghphjeaaDoorB19
import Derived.Test.YtkolcbjghphjeaaDoorB25
import Derived.Test.YtkolcbjghphjeaaDoorCards
import Derived.Test.YtkolcbjghphjeaaDoorTie
import Derived.SevenTiedAt
namespace Go.Proofs.YtkolcbjghphjeaaDoor
open Go Go.Sy Go.BarM Go.ChangeShapes Go.WideShapes Go.Deep Go.RowKit
theorem par5 : Tryd.f5.params.toList = [24, 3, 3] := by kernel_rfl
theorem res5 : Tryd.f5.resultTypes = #[4] := by kernel_rfl
theorem rd5 : ∀ t ∈ Tryd.f5.params.toList, Tryd.prog.readableRec t = true ∧ t < Tryd.prog.types.size := by
  rw [par5]
  intro t ht
  simp at ht
  rcases ht with rfl | rfl
  · exact ⟨rd24, sz24⟩
  · exact ⟨rd_3, sz_3⟩
theorem ok5 {W' : World} : ∀ (j : Nat) (t : TypeId) (r : Value), Tryd.f5.resultTypes[j]? = some t → ((Value.bool true).resultList Tryd.f5.resultTypes.size)[j]? = some r → Value.okWide Tryd.prog W' .any 0 t r := by
  rw [res5]
  intro j t r h1 h2
  match j, h1, h2 with
  | 0, h1, h2 =>
    cases h1; cases h2
    simp [Value.okWide, un4, Cell.okWide, Cell.ok]
  | j + 1, h1, _ => simp at h1
set_option maxRecDepth 100000 in
theorem barPairs_lifted (os : Os) (started : os.Started) (H : Type) (enc : TypeId × Value → H) :
    ReturnsInHanded Rows.barPairsRow.assume Tryd.checked os 5 .any (fun w args => (Rows.barPairsSpec.pre enc Tryd.prog Tryd.f5 [] false w args ∧ laidMetH Tryd.prog Rows.barPairsRow.laid w) ∧ sizedMet enc Tryd.prog Tryd.f5 (OpenSpec.ofChange Rows.barPairsSpec) false w args)
      (Rows.barPairsSpec.post enc Tryd.prog Tryd.f5 Rows.barPairsRow.apart Rows.barPairsRow.fresh Rows.barPairsRow.handsOn Rows.barPairsRow.again) := by
  refine returnsInHanded_of_change_and (C := Tryd.checked) (X := fun w _ => laidMetH Tryd.prog Rows.barPairsRow.laid w) (fun _ _ _ hh h => h.of_heap hh) own started (by kernel_rfl) Tryd.func5
    (ChangeSpec.witness_at (enc := enc) (C := Tryd.checked) (os := os) (X := fun w _ => laidMetH Tryd.prog Rows.barPairsRow.laid w) false (World.laidAll Tryd.prog os Rows.barPairsRow.laid) #[.agg #[.int .i64 0, .int .i64 0, .int .i64 0, .int .i64 0, .slice none 0 0], .int .i64 0, .int .i64 0] 8 rfl (by kernel_rfl) (by kernel_rfl) (by kernel_rfl) (by kernel_rfl) (by kernel_rfl) (laidWorld_met os _)) ?_
  intro W base args ds gs before hval0 hW _ _ hL _
  have hval : ∀ (j : Nat) t v, Tryd.f5.params[j]? = some t → args[j]? = some v → Value.okWide Tryd.prog W .any base t v := hval0
  have hW1 : DataW.Whole enc Tryd.prog Tryd.f5.params.toList Rows.barPairsSpec.vars false W args.toList ds gs before := hW
  obtain ⟨p, q, hA0, hVq, hpq, hz, hn⟩ := hW
  obtain ⟨args⟩ := args
  obtain ⟨v1, vs1, d1, ds1, p1, q1, e1a, e1b, e1c, h1, hA1⟩ := trodAll_cons hA0
  obtain ⟨v2, vs2, d2, ds2, p2, q2, e2a, e2b, e2c, h2, hA2⟩ := trodAll_cons hA1
  obtain ⟨v3, vs3, d3, ds3, p3, q3, e3a, e3b, e3c, h3, hA3⟩ := trodAll_cons hA2
  obtain ⟨e10, e11, e12⟩ := trodAll_nil hA3
  subst e10; subst e11; subst e3a; subst e3b; subst e2a; subst e2b
  have e1a : args = [v1, v2, v3] := e1a
  subst e1a; subst e1b
  obtain rfl : gs = [] := by
    cases gs with
    | nil => rfl
    | cons g r => exact absurd hVq (by intro h; cases h)
  obtain ⟨b, sa, sc, rfl, hS⟩ := openBar (hval 0 24 v1 rfl rfl) h1
  obtain ⟨n2, rfl, rfl, rfl, hw2⟩ := open_int Tryd.un_3 (hval 1 3 v2 rfl rfl) h2
  obtain ⟨n3, rfl, rfl, rfl, hw3⟩ := open_int Tryd.un_3 (hval 2 3 v3 rfl rfl) h3
  have hLL : laidMet Tryd.prog Rows.barPairsRow.laid W := hL
  have hT : GTab W := gTab_of_laid (l := Rows.barPairsRow.laid) (.tail _ (.head _)) hLL
  have hb2 : -9223372036854775808 ≤ n2 ∧ n2 ≤ 9223372036854775807 := by
    simp only [Lit.wf, Bool.and_eq_true, decide_eq_true_eq] at hw2
    have h8 : IntKind.i64.min = -9223372036854775808 := by decide
    have h9 : IntKind.i64.max = 9223372036854775807 := by decide
    rw [h8, h9] at hw2; exact hw2
  have hb3 : -9223372036854775808 ≤ n3 ∧ n3 ≤ 9223372036854775807 := by
    simp only [Lit.wf, Bool.and_eq_true, decide_eq_true_eq] at hw3
    have h8 : IntKind.i64.min = -9223372036854775808 := by decide
    have h9 : IntKind.i64.max = 9223372036854775807 := by decide
    rw [h8, h9] at hw3; exact hw3
  refine (c5 b sa sc W hS hT n2 n3 hb2.2).mono fun e W' he => ?_
  cases e with
  | returned v =>
    obtain ⟨rfl, hx⟩ := he
    exact ⟨_, rfl, post_ext (by kernel_rfl) rd5 rfl hx hW1 rfl rfl (fun b sp hd => trodAll_mk1 (shut_bool un4 true)) ok5⟩
  | panicked c => exact he.elim
  | outgrown => exact he.elim
theorem barPairs_holds : Rows.BarPairsSaid :=
  OpenClaim.holds_of_wide 5 Tryd.f5 rfl rfl rfl rfl rfl rfl rfl ⟨rfl, rfl, rfl, rfl, rfl⟩ rfl rfl rfl rfl rfl (by kernel_rfl) Tryd.func5 (by kernel_rfl)
    (of_decide_eq_true (by kernel_rfl)) (by unfold Func.isWrapper; rw [if_neg (of_decide_eq_false (by kernel_rfl))]; exact ⟨rfl, rfl⟩)
    (fun os started H enc _ => barPairs_lifted os started H enc)
theorem ws24 : Tryd.prog.wantsStandIn 24 = false := by kernel_rfl
theorem ws3 : Tryd.prog.wantsStandIn 3 = false := by kernel_rfl
theorem barPairs_card : Rows.BarPairsCardSaid :=
  Claim7.holds_tied_plain_at .later [] [.data, .data] true (true, "59cffd2fd91c1c3493101edc0cb9f41b4e0de5edd00703c1601dea3dd60cc70b") false
    barPairs_holds (fun _ h => by cases h) (by kernel_rfl) (fun _ h => by cases h) barPairs_row_tie rfl ⟨rfl, rfl⟩ (by kernel_rfl) rfl
    (fun f fn hf hfn => by
      obtain rfl : f = 5 := Option.some.inj ((show Tryd.prog.funcNamed "pairworks/pairworkslaw04.BarPairs" = some 5 by kernel_rfl).symm.trans hf) |>.symm
      obtain rfl : fn = Tryd.f5 := (Option.some.inj (Tryd.func5.symm.trans hfn)).symm
      exact ⟨by kernel_rfl, fun j t ht => by
        have hm : t ∈ Tryd.f5.params.toList := by
          rw [Array.mem_toList_iff]; exact Array.mem_of_getElem? ht
        rw [par5] at hm
        simp at hm
        rcases hm with rfl | rfl
        · exact ws24
        · exact ws3⟩)
    (by kernel_rfl)
#print axioms barPairs_card
end Go.Proofs.YtkolcbjghphjeaaDoor
