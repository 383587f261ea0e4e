/- MatchSets: the row, and the tied card: the law returns true for every input. Condition: the library's two tables of math/bits lie as the program's text lays them. -/
import Derived.Test.YtemmhdgaagaglaaDoorQ20
import Derived.Test.YtemmhdgaagaglaaDoorCards
import Derived.Test.YtemmhdgaagaglaaDoorTie
import Derived.SevenTiedAt
namespace Go.Proofs.YtemmhdgaagaglaaDoor
open Go Go.Sy Go.MatM Go.ChangeShapes Go.WideShapes Go.Deep Go.RowKit
theorem par8 : Tryd.f8.params.toList = [26] := by kernel_rfl
theorem res8 : Tryd.f8.resultTypes = #[4] := by kernel_rfl
theorem rdl8_26 : Tryd.prog.readableRec 26 = true ∧ 26 < Tryd.prog.types.size := ⟨by kernel_rfl, of_decide_eq_true (by kernel_rfl)⟩
theorem rd8 : ∀ t ∈ Tryd.f8.params.toList, Tryd.prog.readableRec t = true ∧ t < Tryd.prog.types.size := by
  rw [par8]
  intro t ht
  simp at ht
  subst ht
  exact rdl8_26
theorem ok8 {W' : World} : ∀ (j : Nat) (t : TypeId) (r : Value), Tryd.f8.resultTypes[j]? = some t → ((Value.bool true).resultList Tryd.f8.resultTypes.size)[j]? = some r → Value.okWide Tryd.prog W' .any 0 t r := by
  rw [res8]
  intro j t r h1 h2
  match j, h1, h2 with
  | 0, h1, h2 =>
    cases h1; cases h2
    simp [Value.okWide, un4, Cell.okWide, Cell.ok]
  | j + 1, h1, _ => simp at h1
set_option maxRecDepth 100000 in
theorem matchSets_lifted (os : Os) (started : os.Started) (H : Type) (enc : TypeId × Value → H) :
    ReturnsInHanded Rows.matchSetsRow.assume Tryd.checked os 8 .any (fun w args => (Rows.matchSetsSpec.pre enc Tryd.prog Tryd.f8 [] false w args ∧ laidMetH Tryd.prog Rows.matchSetsRow.laid w) ∧ sizedMet enc Tryd.prog Tryd.f8 (OpenSpec.ofChange Rows.matchSetsSpec) false w args)
      (Rows.matchSetsSpec.post enc Tryd.prog Tryd.f8 Rows.matchSetsRow.apart Rows.matchSetsRow.fresh Rows.matchSetsRow.handsOn Rows.matchSetsRow.again) := by
  refine returnsInHanded_of_change_and (C := Tryd.checked) (X := fun w _ => laidMetH Tryd.prog Rows.matchSetsRow.laid w) (fun _ _ _ hh h => h.of_heap hh) own started (by kernel_rfl) Tryd.func8
    (ChangeSpec.witness_at (enc := enc) (C := Tryd.checked) (os := os) (X := fun w _ => laidMetH Tryd.prog Rows.matchSetsRow.laid w) false (World.laidAll Tryd.prog os Rows.matchSetsRow.laid) #[.agg #[.slice none 0 0, .slice none 0 0, .int .i64 0, .int .i64 0, .int .i64 0]] 8 rfl (by kernel_rfl) (by kernel_rfl) (by kernel_rfl) (by kernel_rfl) (by kernel_rfl) (laidWorld_met os _)) ?_
  intro W base args ds gs before hval0 hW _ _ hL _
  have hval : ∀ (j : Nat) t v, Tryd.f8.params[j]? = some t → args[j]? = some v → Value.okWide Tryd.prog W .any base t v := hval0
  have hW1 : DataW.Whole enc Tryd.prog Tryd.f8.params.toList Rows.matchSetsSpec.vars false W args.toList ds gs before := hW
  obtain ⟨p, q, hA0, hVq, hpq, hz, hn⟩ := hW
  obtain ⟨args⟩ := args
  obtain ⟨v1, vs1, d1, ds1, p1, q1, e1a, e1b, e1c, h1, hA1⟩ := trodAll_cons hA0
  obtain ⟨e10, e11, e12⟩ := trodAll_nil hA1
  subst e10; subst e11
  have e1a : args = [v1] := e1a
  subst e1a; subst e1b
  obtain rfl : gs = [] := by
    cases gs with
    | nil => rfl
    | cons g r => exact absurd hVq (by intro h; cases h)
  obtain ⟨r1, sa1, sb1, ca1, cb1, rfl, hA1m, hB1m, hid1⟩ := openRows (hval 0 26 v1 rfl rfl) h1
  have hLL : laidMet Tryd.prog Rows.matchSetsRow.laid W := hL
  have hT : GTab W := gTab_of_laid (l := Rows.matchSetsRow.laid) (.tail _ (.head _)) hLL
  refine (c8 r1 sa1 sb1 ca1 cb1 W hA1m hB1m hT).mono fun e W' he => ?_
  cases e with
  | returned v =>
    obtain ⟨rfl, hx⟩ := he
    exact ⟨_, rfl, post_ext (by kernel_rfl) rd8 rfl hx hW1 rfl rfl (fun b sp hd => trodAll_mk1 (shut_bool un4 true)) ok8⟩
  | panicked c => exact he.elim
  | outgrown => exact he.elim
theorem matchSets_holds : Rows.MatchSetsSaid :=
  OpenClaim.holds_of_wide 8 Tryd.f8 rfl rfl rfl rfl rfl rfl rfl ⟨rfl, rfl, rfl, rfl, rfl⟩ rfl rfl rfl rfl rfl (by kernel_rfl) Tryd.func8 (by kernel_rfl)
    (of_decide_eq_true (by kernel_rfl)) (by unfold Func.isWrapper; rw [if_neg (of_decide_eq_false (by kernel_rfl))]; exact ⟨rfl, rfl⟩)
    (fun os started H enc _ => matchSets_lifted os started H enc)
theorem ws8_26 : Tryd.prog.wantsStandIn 26 = false := by kernel_rfl
theorem matchSets_card : Rows.MatchSetsCardSaid :=
  Claim7.holds_tied_plain_at .later [] [.data, .data] true (true, "48792c288456b3c281a84ad9e132e6e020a212101a00c0161a021b1306e88a2f") false
    matchSets_holds (fun _ h => by cases h) (by kernel_rfl) (fun _ h => by cases h) matchSets_row_tie rfl ⟨rfl, rfl⟩ (by kernel_rfl) rfl
    (fun f fn hf hfn => by
      obtain rfl : f = 8 := Option.some.inj ((show Tryd.prog.funcNamed "pairworks/pairworkslaw02.MatchSets" = some 8 by kernel_rfl).symm.trans hf) |>.symm
      obtain rfl : fn = Tryd.f8 := (Option.some.inj (Tryd.func8.symm.trans hfn)).symm
      exact ⟨by kernel_rfl, fun j t ht => by
        have hm : t ∈ Tryd.f8.params.toList := by
          rw [Array.mem_toList_iff]; exact Array.mem_of_getElem? ht
        rw [par8] at hm
        simp at hm
        subst hm
        exact ws8_26⟩)
    (by kernel_rfl)
#print axioms matchSets_card
end Go.Proofs.YtemmhdgaagaglaaDoor
