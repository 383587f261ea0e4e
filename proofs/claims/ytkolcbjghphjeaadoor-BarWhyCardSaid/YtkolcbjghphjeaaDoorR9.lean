/- BarWhy: the row, and the tied card: the law returns true for every input. Condition: the library's two tables of math/bits lie as the program's text lays them. -/
import Derived.Test.YtkolcbjghphjeaaDoorB19
import Derived.Test.YtkolcbjghphjeaaDoorB33
import Derived.Test.YtkolcbjghphjeaaDoorCards
import Derived.Test.YtkolcbjghphjeaaDoorTie
import Derived.SevenTiedAt
namespace Go.Proofs.YtkolcbjghphjeaaDoor
open Go Go.Sy Go.BarM Go.ChangeShapes Go.WideShapes Go.Deep Go.RowKit
theorem par9 : Tryd.f9.params.toList = [24, 41] := by kernel_rfl
theorem res9 : Tryd.f9.resultTypes = #[4] := by kernel_rfl
theorem rd_41 : Tryd.prog.readableRec 41 = true := by kernel_rfl
theorem sz_41 : 41 < Tryd.prog.types.size := of_decide_eq_true (by kernel_rfl)
theorem un_41 : Tryd.prog.underlying 41 = some (.int .u16) := by kernel_rfl
theorem rd9 : ∀ t ∈ Tryd.f9.params.toList, Tryd.prog.readableRec t = true ∧ t < Tryd.prog.types.size := by
  rw [par9]
  intro t ht
  simp at ht
  rcases ht with rfl | rfl
  · exact ⟨rd24, sz24⟩
  · exact ⟨rd_41, sz_41⟩
theorem ok9 {W' : World} : ∀ (j : Nat) (t : TypeId) (r : Value), Tryd.f9.resultTypes[j]? = some t → ((Value.bool true).resultList Tryd.f9.resultTypes.size)[j]? = some r → Value.okWide Tryd.prog W' .any 0 t r := by
  rw [res9]
  intro j t r h1 h2
  match j, h1, h2 with
  | 0, h1, h2 =>
    cases h1; cases h2
    simp [Value.okWide, un4, Cell.okWide, Cell.ok]
  | j + 1, h1, _ => simp at h1
set_option maxRecDepth 100000 in
theorem barWhy_lifted (os : Os) (started : os.Started) (H : Type) (enc : TypeId × Value → H) :
    ReturnsInHanded Rows.barWhyRow.assume Tryd.checked os 9 .any (fun w args => (Rows.barWhySpec.pre enc Tryd.prog Tryd.f9 [] false w args ∧ laidMetH Tryd.prog Rows.barWhyRow.laid w) ∧ sizedMet enc Tryd.prog Tryd.f9 (OpenSpec.ofChange Rows.barWhySpec) false w args)
      (Rows.barWhySpec.post enc Tryd.prog Tryd.f9 Rows.barWhyRow.apart Rows.barWhyRow.fresh Rows.barWhyRow.handsOn Rows.barWhyRow.again) := by
  refine returnsInHanded_of_change_and (C := Tryd.checked) (X := fun w _ => laidMetH Tryd.prog Rows.barWhyRow.laid w) (fun _ _ _ hh h => h.of_heap hh) own started (by kernel_rfl) Tryd.func9
    (ChangeSpec.witness_at (enc := enc) (C := Tryd.checked) (os := os) (X := fun w _ => laidMetH Tryd.prog Rows.barWhyRow.laid w) false (World.laidAll Tryd.prog os Rows.barWhyRow.laid) #[.agg #[.int .i64 0, .int .i64 0, .int .i64 0, .int .i64 0, .slice none 0 0], .int .u16 0] 8 rfl (by kernel_rfl) (by kernel_rfl) (by kernel_rfl) (by kernel_rfl) (by kernel_rfl) (laidWorld_met os _)) ?_
  intro W base args ds gs before hval0 hW _ _ hL _
  have hval : ∀ (j : Nat) t v, Tryd.f9.params[j]? = some t → args[j]? = some v → Value.okWide Tryd.prog W .any base t v := hval0
  have hW1 : DataW.Whole enc Tryd.prog Tryd.f9.params.toList Rows.barWhySpec.vars false W args.toList ds gs before := hW
  obtain ⟨p, q, hA0, hVq, hpq, hz, hn⟩ := hW
  obtain ⟨args⟩ := args
  obtain ⟨v1, vs1, d1, ds1, p1, q1, e1a, e1b, e1c, h1, hA1⟩ := trodAll_cons hA0
  obtain ⟨v2, vs2, d2, ds2, p2, q2, e2a, e2b, e2c, h2, hA2⟩ := trodAll_cons hA1
  obtain ⟨e10, e11, e12⟩ := trodAll_nil hA2
  subst e10; subst e11; subst e2a; subst e2b
  have e1a : args = [v1, v2] := e1a
  subst e1a; subst e1b
  obtain rfl : gs = [] := by
    cases gs with
    | nil => rfl
    | cons g r => exact absurd hVq (by intro h; cases h)
  obtain ⟨b, sa, sc, rfl, hS⟩ := openBar (hval 0 24 v1 rfl rfl) h1
  obtain ⟨n2, rfl, rfl, rfl, hw2⟩ := open_int un_41 (hval 1 41 v2 rfl rfl) h2
  have hLL : laidMet Tryd.prog Rows.barWhyRow.laid W := hL
  have hT : GTab W := gTab_of_laid (l := Rows.barWhyRow.laid) (.tail _ (.head _)) hLL
  have hb2 : 0 ≤ n2 ∧ n2 ≤ 65535 := by
    simp only [Lit.wf, Bool.and_eq_true, decide_eq_true_eq] at hw2
    have h8 : IntKind.u16.min = 0 := by decide
    have h9 : IntKind.u16.max = 65535 := by decide
    rw [h8, h9] at hw2; exact hw2
  refine (c9 b sa sc W hS hT n2 hb2).mono fun e W' he => ?_
  cases e with
  | returned v =>
    obtain ⟨rfl, hx⟩ := he
    exact ⟨_, rfl, post_ext (by kernel_rfl) rd9 rfl hx hW1 rfl rfl (fun b sp hd => trodAll_mk1 (shut_bool un4 true)) ok9⟩
  | panicked c => exact he.elim
  | outgrown => exact he.elim
theorem barWhy_holds : Rows.BarWhySaid :=
  OpenClaim.holds_of_wide 9 Tryd.f9 rfl rfl rfl rfl rfl rfl rfl ⟨rfl, rfl, rfl, rfl, rfl⟩ rfl rfl rfl rfl rfl (by kernel_rfl) Tryd.func9 (by kernel_rfl)
    (of_decide_eq_true (by kernel_rfl)) (by unfold Func.isWrapper; rw [if_neg (of_decide_eq_false (by kernel_rfl))]; exact ⟨rfl, rfl⟩)
    (fun os started H enc _ => barWhy_lifted os started H enc)
theorem ws24 : Tryd.prog.wantsStandIn 24 = false := by kernel_rfl
theorem ws41 : Tryd.prog.wantsStandIn 41 = false := by kernel_rfl
theorem barWhy_card : Rows.BarWhyCardSaid :=
  Claim7.holds_tied_plain_at .later [] [.data, .data] true (true, "59cffd2fd91c1c3493101edc0cb9f41b4e0de5edd00703c1601dea3dd60cc70b") false
    barWhy_holds (fun _ h => by cases h) (by kernel_rfl) (fun _ h => by cases h) barWhy_row_tie rfl ⟨rfl, rfl⟩ (by kernel_rfl) rfl
    (fun f fn hf hfn => by
      obtain rfl : f = 9 := Option.some.inj ((show Tryd.prog.funcNamed "pairworks/pairworkslaw04.BarWhy" = some 9 by kernel_rfl).symm.trans hf) |>.symm
      obtain rfl : fn = Tryd.f9 := (Option.some.inj (Tryd.func9.symm.trans hfn)).symm
      exact ⟨by kernel_rfl, fun j t ht => by
        have hm : t ∈ Tryd.f9.params.toList := by
          rw [Array.mem_toList_iff]; exact Array.mem_of_getElem? ht
        rw [par9] at hm
        simp at hm
        rcases hm with rfl | rfl
        · exact ws24
        · exact ws41⟩)
    (by kernel_rfl)
#print axioms barWhy_card
end Go.Proofs.YtkolcbjghphjeaaDoor
