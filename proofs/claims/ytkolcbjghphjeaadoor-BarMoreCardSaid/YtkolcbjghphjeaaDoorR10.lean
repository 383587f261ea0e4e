/- BarMore: the row, and the tied card: the law returns true for every input. Condition: the library's two tables of math/bits lie as the program's text lays them. -/
import Derived.Test.YtkolcbjghphjeaaDoorB19
import Derived.Test.YtkolcbjghphjeaaDoorB31
import Derived.Test.YtkolcbjghphjeaaDoorCards
import Derived.Test.YtkolcbjghphjeaaDoorTie
import Derived.SevenTiedAt
namespace Go.Proofs.YtkolcbjghphjeaaDoor
open Go Go.Sy Go.BarM Go.ChangeShapes Go.WideShapes Go.Deep Go.RowKit
theorem par10 : Tryd.f10.params.toList = [24, 41, 41] := by kernel_rfl
theorem res10 : Tryd.f10.resultTypes = #[4] := by kernel_rfl
theorem rd_41 : Tryd.prog.readableRec 41 = true := by kernel_rfl
theorem sz_41 : 41 < Tryd.prog.types.size := of_decide_eq_true (by kernel_rfl)
theorem un_41 : Tryd.prog.underlying 41 = some (.int .u16) := by kernel_rfl
theorem rd10 : ∀ t ∈ Tryd.f10.params.toList, Tryd.prog.readableRec t = true ∧ t < Tryd.prog.types.size := by
  rw [par10]
  intro t ht
  simp at ht
  rcases ht with rfl | rfl
  · exact ⟨rd24, sz24⟩
  · exact ⟨rd_41, sz_41⟩
theorem ok10 {W' : World} : ∀ (j : Nat) (t : TypeId) (r : Value), Tryd.f10.resultTypes[j]? = some t → ((Value.bool true).resultList Tryd.f10.resultTypes.size)[j]? = some r → Value.okWide Tryd.prog W' .any 0 t r := by
  rw [res10]
  intro j t r h1 h2
  match j, h1, h2 with
  | 0, h1, h2 =>
    cases h1; cases h2
    simp [Value.okWide, un4, Cell.okWide, Cell.ok]
  | j + 1, h1, _ => simp at h1
set_option maxRecDepth 100000 in
theorem barMore_lifted (os : Os) (started : os.Started) (H : Type) (enc : TypeId × Value → H) :
    ReturnsInHanded Rows.barMoreRow.assume Tryd.checked os 10 .any (fun w args => (Rows.barMoreSpec.pre enc Tryd.prog Tryd.f10 [] false w args ∧ laidMetH Tryd.prog Rows.barMoreRow.laid w) ∧ sizedMet enc Tryd.prog Tryd.f10 (OpenSpec.ofChange Rows.barMoreSpec) false w args)
      (Rows.barMoreSpec.post enc Tryd.prog Tryd.f10 Rows.barMoreRow.apart Rows.barMoreRow.fresh Rows.barMoreRow.handsOn Rows.barMoreRow.again) := by
  refine returnsInHanded_of_change_and (C := Tryd.checked) (X := fun w _ => laidMetH Tryd.prog Rows.barMoreRow.laid w) (fun _ _ _ hh h => h.of_heap hh) own started (by kernel_rfl) Tryd.func10
    (ChangeSpec.witness_at (enc := enc) (C := Tryd.checked) (os := os) (X := fun w _ => laidMetH Tryd.prog Rows.barMoreRow.laid w) false (World.laidAll Tryd.prog os Rows.barMoreRow.laid) #[.agg #[.int .i64 0, .int .i64 0, .int .i64 0, .int .i64 0, .slice none 0 0], .int .u16 0, .int .u16 0] 8 rfl (by kernel_rfl) (by kernel_rfl) (by kernel_rfl) (by kernel_rfl) (by kernel_rfl) (laidWorld_met os _)) ?_
  intro W base args ds gs before hval0 hW _ _ hL _
  have hval : ∀ (j : Nat) t v, Tryd.f10.params[j]? = some t → args[j]? = some v → Value.okWide Tryd.prog W .any base t v := hval0
  have hW1 : DataW.Whole enc Tryd.prog Tryd.f10.params.toList Rows.barMoreSpec.vars false W args.toList ds gs before := hW
  obtain ⟨p, q, hA0, hVq, hpq, hz, hn⟩ := hW
  obtain ⟨args⟩ := args
  obtain ⟨v1, vs1, d1, ds1, p1, q1, e1a, e1b, e1c, h1, hA1⟩ := trodAll_cons hA0
  obtain ⟨v2, vs2, d2, ds2, p2, q2, e2a, e2b, e2c, h2, hA2⟩ := trodAll_cons hA1
  obtain ⟨v3, vs3, d3, ds3, p3, q3, e3a, e3b, e3c, h3, hA3⟩ := trodAll_cons hA2
  obtain ⟨e10, e11, e12⟩ := trodAll_nil hA3
  subst e10; subst e11; subst e3a; subst e3b; subst e2a; subst e2b
  have e1a : args = [v1, v2, v3] := e1a
  subst e1a; subst e1b
  obtain rfl : gs = [] := by
    cases gs with
    | nil => rfl
    | cons g r => exact absurd hVq (by intro h; cases h)
  obtain ⟨b, sa, sc, rfl, hS⟩ := openBar (hval 0 24 v1 rfl rfl) h1
  obtain ⟨n2, rfl, rfl, rfl, hw2⟩ := open_int un_41 (hval 1 41 v2 rfl rfl) h2
  obtain ⟨n3, rfl, rfl, rfl, hw3⟩ := open_int un_41 (hval 2 41 v3 rfl rfl) h3
  have hLL : laidMet Tryd.prog Rows.barMoreRow.laid W := hL
  have hT : GTab W := gTab_of_laid (l := Rows.barMoreRow.laid) (.tail _ (.head _)) hLL
  have hb2 : 0 ≤ n2 ∧ n2 ≤ 65535 := by
    simp only [Lit.wf, Bool.and_eq_true, decide_eq_true_eq] at hw2
    have h8 : IntKind.u16.min = 0 := by decide
    have h9 : IntKind.u16.max = 65535 := by decide
    rw [h8, h9] at hw2; exact hw2
  have hb3 : 0 ≤ n3 ∧ n3 ≤ 65535 := by
    simp only [Lit.wf, Bool.and_eq_true, decide_eq_true_eq] at hw3
    have h8 : IntKind.u16.min = 0 := by decide
    have h9 : IntKind.u16.max = 65535 := by decide
    rw [h8, h9] at hw3; exact hw3
  refine (c10 b sa sc W hS hT n2 n3 hb2 hb3).mono fun e W' he => ?_
  cases e with
  | returned v =>
    obtain ⟨rfl, hx⟩ := he
    exact ⟨_, rfl, post_ext (by kernel_rfl) rd10 rfl hx hW1 rfl rfl (fun b sp hd => trodAll_mk1 (shut_bool un4 true)) ok10⟩
  | panicked c => exact he.elim
  | outgrown => exact he.elim
theorem barMore_holds : Rows.BarMoreSaid :=
  OpenClaim.holds_of_wide 10 Tryd.f10 rfl rfl rfl rfl rfl rfl rfl ⟨rfl, rfl, rfl, rfl, rfl⟩ rfl rfl rfl rfl rfl (by kernel_rfl) Tryd.func10 (by kernel_rfl)
    (of_decide_eq_true (by kernel_rfl)) (by unfold Func.isWrapper; rw [if_neg (of_decide_eq_false (by kernel_rfl))]; exact ⟨rfl, rfl⟩)
    (fun os started H enc _ => barMore_lifted os started H enc)
theorem ws24 : Tryd.prog.wantsStandIn 24 = false := by kernel_rfl
theorem ws41 : Tryd.prog.wantsStandIn 41 = false := by kernel_rfl
theorem barMore_card : Rows.BarMoreCardSaid :=
  Claim7.holds_tied_plain_at .later [] [.data, .data] true (true, "59cffd2fd91c1c3493101edc0cb9f41b4e0de5edd00703c1601dea3dd60cc70b") false
    barMore_holds (fun _ h => by cases h) (by kernel_rfl) (fun _ h => by cases h) barMore_row_tie rfl ⟨rfl, rfl⟩ (by kernel_rfl) rfl
    (fun f fn hf hfn => by
      obtain rfl : f = 10 := Option.some.inj ((show Tryd.prog.funcNamed "pairworks/pairworkslaw04.BarMore" = some 10 by kernel_rfl).symm.trans hf) |>.symm
      obtain rfl : fn = Tryd.f10 := (Option.some.inj (Tryd.func10.symm.trans hfn)).symm
      exact ⟨by kernel_rfl, fun j t ht => by
        have hm : t ∈ Tryd.f10.params.toList := by
          rw [Array.mem_toList_iff]; exact Array.mem_of_getElem? ht
        rw [par10] at hm
        simp at hm
        rcases hm with rfl | rfl
        · exact ws24
        · exact ws41⟩)
    (by kernel_rfl)
#print axioms barMore_card
end Go.Proofs.YtkolcbjghphjeaaDoor
