/- MatchTrue: the row, and the tied card: the law returns true for every input. Condition: the library's two tables of math/bits lie as the program's text lays them. -/
import Derived.Test.YtemmhdgaagaglaaDoorQ20
import Derived.Test.YtemmhdgaagaglaaDoorCards
import Derived.Test.YtemmhdgaagaglaaDoorTie
import Derived.SevenTiedAt
namespace Go.Proofs.YtemmhdgaagaglaaDoor
open Go Go.Sy Go.MatM Go.ChangeShapes Go.WideShapes Go.Deep Go.RowKit
theorem par10 : Tryd.f10.params.toList = [62] := by kernel_rfl
theorem res10 : Tryd.f10.resultTypes = #[4] := by kernel_rfl
theorem rdl10_62 : Tryd.prog.readableRec 62 = true ∧ 62 < Tryd.prog.types.size := ⟨by kernel_rfl, of_decide_eq_true (by kernel_rfl)⟩
theorem rd10 : ∀ t ∈ Tryd.f10.params.toList, Tryd.prog.readableRec t = true ∧ t < Tryd.prog.types.size := by
  rw [par10]
  intro t ht
  simp at ht
  subst ht
  exact rdl10_62
theorem ok10 {W' : World} : ∀ (j : Nat) (t : TypeId) (r : Value), Tryd.f10.resultTypes[j]? = some t → ((Value.bool true).resultList Tryd.f10.resultTypes.size)[j]? = some r → Value.okWide Tryd.prog W' .any 0 t r := by
  rw [res10]
  intro j t r h1 h2
  match j, h1, h2 with
  | 0, h1, h2 =>
    cases h1; cases h2
    simp [Value.okWide, un4, Cell.okWide, Cell.ok]
  | j + 1, h1, _ => simp at h1
set_option maxRecDepth 100000 in
theorem matchTrue_lifted (os : Os) (started : os.Started) (H : Type) (enc : TypeId × Value → H) :
    ReturnsInHanded Rows.matchTrueRow.assume Tryd.checked os 10 .any (fun w args => (Rows.matchTrueSpec.pre enc Tryd.prog Tryd.f10 [] false w args ∧ laidMetH Tryd.prog Rows.matchTrueRow.laid w) ∧ sizedMet enc Tryd.prog Tryd.f10 (OpenSpec.ofChange Rows.matchTrueSpec) false w args)
      (Rows.matchTrueSpec.post enc Tryd.prog Tryd.f10 Rows.matchTrueRow.apart Rows.matchTrueRow.fresh Rows.matchTrueRow.handsOn Rows.matchTrueRow.again) := by
  refine returnsInHanded_of_change_and (C := Tryd.checked) (X := fun w _ => laidMetH Tryd.prog Rows.matchTrueRow.laid w) (fun _ _ _ hh h => h.of_heap hh) own started (by kernel_rfl) Tryd.func10
    (ChangeSpec.witness_at (enc := enc) (C := Tryd.checked) (os := os) (X := fun w _ => laidMetH Tryd.prog Rows.matchTrueRow.laid w) false (World.laidAll Tryd.prog os Rows.matchTrueRow.laid) #[.slice none 0 0] 8 rfl (by kernel_rfl) (by kernel_rfl) (by kernel_rfl) (by kernel_rfl) (by kernel_rfl) (laidWorld_met os _)) ?_
  intro W base args ds gs before hval0 hW _ _ hL _
  have hval : ∀ (j : Nat) t v, Tryd.f10.params[j]? = some t → args[j]? = some v → Value.okWide Tryd.prog W .any base t v := hval0
  have hW1 : DataW.Whole enc Tryd.prog Tryd.f10.params.toList Rows.matchTrueSpec.vars false W args.toList ds gs before := hW
  obtain ⟨p, q, hA0, hVq, hpq, hz, hn⟩ := hW
  obtain ⟨args⟩ := args
  obtain ⟨v1, vs1, d1, ds1, p1, q1, e1a, e1b, e1c, h1, hA1⟩ := trodAll_cons hA0
  obtain ⟨e10, e11, e12⟩ := trodAll_nil hA1
  subst e10; subst e11
  have e1a : args = [v1] := e1a
  subst e1a; subst e1b
  obtain rfl : gs = [] := by
    cases gs with
    | nil => rfl
    | cons g r => exact absurd hVq (by intro h; cases h)
  obtain ⟨m1, sy1, cy1, rfl, hm1, hw1, hY1⟩ := openSl1 un62 fk108 (hval 0 62 v1 rfl rfl) h1
  have hLL : laidMet Tryd.prog Rows.matchTrueRow.laid W := hL
  have hT : GTab W := gTab_of_laid (l := Rows.matchTrueRow.laid) (.tail _ (.head _)) hLL
  refine (c10 sy1 m1 cy1 W hY1 (fun z hz => wf16 (hw1 z hz)) hm1 hT).mono fun e W' he => ?_
  cases e with
  | returned v =>
    obtain ⟨rfl, hx⟩ := he
    exact ⟨_, rfl, post_ext (by kernel_rfl) rd10 rfl hx hW1 rfl rfl (fun b sp hd => trodAll_mk1 (shut_bool un4 true)) ok10⟩
  | panicked c => exact he.elim
  | outgrown => exact he.elim
theorem matchTrue_holds : Rows.MatchTrueSaid :=
  OpenClaim.holds_of_wide 10 Tryd.f10 rfl rfl rfl rfl rfl rfl rfl ⟨rfl, rfl, rfl, rfl, rfl⟩ rfl rfl rfl rfl rfl (by kernel_rfl) Tryd.func10 (by kernel_rfl)
    (of_decide_eq_true (by kernel_rfl)) (by unfold Func.isWrapper; rw [if_neg (of_decide_eq_false (by kernel_rfl))]; exact ⟨rfl, rfl⟩)
    (fun os started H enc _ => matchTrue_lifted os started H enc)
theorem ws10_62 : Tryd.prog.wantsStandIn 62 = false := by kernel_rfl
theorem matchTrue_card : Rows.MatchTrueCardSaid :=
  Claim7.holds_tied_plain_at .later [] [.data, .data] true (true, "48792c288456b3c281a84ad9e132e6e020a212101a00c0161a021b1306e88a2f") false
    matchTrue_holds (fun _ h => by cases h) (by kernel_rfl) (fun _ h => by cases h) matchTrue_row_tie rfl ⟨rfl, rfl⟩ (by kernel_rfl) rfl
    (fun f fn hf hfn => by
      obtain rfl : f = 10 := Option.some.inj ((show Tryd.prog.funcNamed "pairworks/pairworkslaw02.MatchTrue" = some 10 by kernel_rfl).symm.trans hf) |>.symm
      obtain rfl : fn = Tryd.f10 := (Option.some.inj (Tryd.func10.symm.trans hfn)).symm
      exact ⟨by kernel_rfl, fun j t ht => by
        have hm : t ∈ Tryd.f10.params.toList := by
          rw [Array.mem_toList_iff]; exact Array.mem_of_getElem? ht
        rw [par10] at hm
        simp at hm
        subst hm
        exact ws10_62⟩)
    (by kernel_rfl)
#print axioms matchTrue_card
end Go.Proofs.YtemmhdgaagaglaaDoor
