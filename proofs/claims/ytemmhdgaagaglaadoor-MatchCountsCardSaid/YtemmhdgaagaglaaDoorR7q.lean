/- MatchCounts: the row, and the tied card: the law returns true for every input. Condition: the library's two tables of math/bits lie as the program's text lays them. -/
import Derived.Test.YtemmhdgaagaglaaDoorQ18
import Derived.Test.YtemmhdgaagaglaaDoorCards
import Derived.Test.YtemmhdgaagaglaaDoorTie
import Derived.SevenTiedAt
namespace Go.Proofs.YtemmhdgaagaglaaDoor
open Go Go.Sy Go.MatM Go.ChangeShapes Go.WideShapes Go.Deep Go.RowKit
theorem par3 : Tryd.f3.params.toList = [26, 3, 3] := by kernel_rfl
theorem res3 : Tryd.f3.resultTypes = #[4] := by kernel_rfl
theorem rdl3_26 : Tryd.prog.readableRec 26 = true ∧ 26 < Tryd.prog.types.size := ⟨by kernel_rfl, of_decide_eq_true (by kernel_rfl)⟩
theorem rdl3_3 : Tryd.prog.readableRec 3 = true ∧ 3 < Tryd.prog.types.size := ⟨by kernel_rfl, of_decide_eq_true (by kernel_rfl)⟩
theorem rd3 : ∀ t ∈ Tryd.f3.params.toList, Tryd.prog.readableRec t = true ∧ t < Tryd.prog.types.size := by
  rw [par3]
  intro t ht
  simp at ht
  rcases ht with rfl | rfl
  · exact rdl3_26
  · exact rdl3_3
theorem ok3 {W' : World} : ∀ (j : Nat) (t : TypeId) (r : Value), Tryd.f3.resultTypes[j]? = some t → ((Value.bool true).resultList Tryd.f3.resultTypes.size)[j]? = some r → Value.okWide Tryd.prog W' .any 0 t r := by
  rw [res3]
  intro j t r h1 h2
  match j, h1, h2 with
  | 0, h1, h2 =>
    cases h1; cases h2
    simp [Value.okWide, un4, Cell.okWide, Cell.ok]
  | j + 1, h1, _ => simp at h1
set_option maxRecDepth 100000 in
theorem matchCounts_lifted (os : Os) (started : os.Started) (H : Type) (enc : TypeId × Value → H) :
    ReturnsInHanded Rows.matchCountsRow.assume Tryd.checked os 3 .any (fun w args => (Rows.matchCountsSpec.pre enc Tryd.prog Tryd.f3 [] false w args ∧ laidMetH Tryd.prog Rows.matchCountsRow.laid w) ∧ sizedMet enc Tryd.prog Tryd.f3 (OpenSpec.ofChange Rows.matchCountsSpec) false w args)
      (Rows.matchCountsSpec.post enc Tryd.prog Tryd.f3 Rows.matchCountsRow.apart Rows.matchCountsRow.fresh Rows.matchCountsRow.handsOn Rows.matchCountsRow.again) := by
  refine returnsInHanded_of_change_and (C := Tryd.checked) (X := fun w _ => laidMetH Tryd.prog Rows.matchCountsRow.laid w) (fun _ _ _ hh h => h.of_heap hh) own started (by kernel_rfl) Tryd.func3
    (ChangeSpec.witness_at (enc := enc) (C := Tryd.checked) (os := os) (X := fun w _ => laidMetH Tryd.prog Rows.matchCountsRow.laid w) false (World.laidAll Tryd.prog os Rows.matchCountsRow.laid) #[.agg #[.slice none 0 0, .slice none 0 0, .int .i64 0, .int .i64 0, .int .i64 0], .int .i64 0, .int .i64 0] 8 rfl (by kernel_rfl) (by kernel_rfl) (by kernel_rfl) (by kernel_rfl) (by kernel_rfl) (laidWorld_met os _)) ?_
  intro W base args ds gs before hval0 hW _ _ hL _
  have hval : ∀ (j : Nat) t v, Tryd.f3.params[j]? = some t → args[j]? = some v → Value.okWide Tryd.prog W .any base t v := hval0
  have hW1 : DataW.Whole enc Tryd.prog Tryd.f3.params.toList Rows.matchCountsSpec.vars false W args.toList ds gs before := hW
  obtain ⟨p, q, hA0, hVq, hpq, hz, hn⟩ := hW
  obtain ⟨args⟩ := args
  obtain ⟨v1, vs1, d1, ds1, p1, q1, e1a, e1b, e1c, h1, hA1⟩ := trodAll_cons hA0
  obtain ⟨v2, vs2, d2, ds2, p2, q2, e2a, e2b, e2c, h2, hA2⟩ := trodAll_cons hA1
  obtain ⟨v3, vs3, d3, ds3, p3, q3, e3a, e3b, e3c, h3, hA3⟩ := trodAll_cons hA2
  obtain ⟨e10, e11, e12⟩ := trodAll_nil hA3
  subst e10; subst e11; subst e3a; subst e3b; subst e2a; subst e2b
  have e1a : args = [v1, v2, v3] := e1a
  subst e1a; subst e1b
  obtain rfl : gs = [] := by
    cases gs with
    | nil => rfl
    | cons g r => exact absurd hVq (by intro h; cases h)
  obtain ⟨r1, sa1, sb1, ca1, cb1, rfl, hA1m, hB1m, hid1⟩ := openRows (hval 0 26 v1 rfl rfl) h1
  obtain ⟨n2, rfl, rfl, rfl, hw2⟩ := open_int Tryd.un_3 (hval 1 3 v2 rfl rfl) h2
  have hb2 := wf64 (show wfI .i64 n2 from hw2)
  obtain ⟨n3, rfl, rfl, rfl, hw3⟩ := open_int Tryd.un_3 (hval 2 3 v3 rfl rfl) h3
  have hb3 := wf64 (show wfI .i64 n3 from hw3)
  have hLL : laidMet Tryd.prog Rows.matchCountsRow.laid W := hL
  have hT : GTab W := gTab_of_laid (l := Rows.matchCountsRow.laid) (.tail _ (.head _)) hLL
  refine (c3 r1 sa1 sb1 ca1 cb1 W hA1m hB1m hT n2 n3 hb2 hb3).mono fun e W' he => ?_
  cases e with
  | returned v =>
    obtain ⟨rfl, hx⟩ := he
    exact ⟨_, rfl, post_ext (by kernel_rfl) rd3 rfl hx hW1 rfl rfl (fun b sp hd => trodAll_mk1 (shut_bool un4 true)) ok3⟩
  | panicked c => exact he.elim
  | outgrown => exact he.elim
theorem matchCounts_holds : Rows.MatchCountsSaid :=
  OpenClaim.holds_of_wide 3 Tryd.f3 rfl rfl rfl rfl rfl rfl rfl ⟨rfl, rfl, rfl, rfl, rfl⟩ rfl rfl rfl rfl rfl (by kernel_rfl) Tryd.func3 (by kernel_rfl)
    (of_decide_eq_true (by kernel_rfl)) (by unfold Func.isWrapper; rw [if_neg (of_decide_eq_false (by kernel_rfl))]; exact ⟨rfl, rfl⟩)
    (fun os started H enc _ => matchCounts_lifted os started H enc)
theorem ws3_26 : Tryd.prog.wantsStandIn 26 = false := by kernel_rfl
theorem ws3_3 : Tryd.prog.wantsStandIn 3 = false := by kernel_rfl
theorem matchCounts_card : Rows.MatchCountsCardSaid :=
  Claim7.holds_tied_plain_at .later [] [.data, .data] true (true, "48792c288456b3c281a84ad9e132e6e020a212101a00c0161a021b1306e88a2f") false
    matchCounts_holds (fun _ h => by cases h) (by kernel_rfl) (fun _ h => by cases h) matchCounts_row_tie rfl ⟨rfl, rfl⟩ (by kernel_rfl) rfl
    (fun f fn hf hfn => by
      obtain rfl : f = 3 := Option.some.inj ((show Tryd.prog.funcNamed "pairworks/pairworkslaw02.MatchCounts" = some 3 by kernel_rfl).symm.trans hf) |>.symm
      obtain rfl : fn = Tryd.f3 := (Option.some.inj (Tryd.func3.symm.trans hfn)).symm
      exact ⟨by kernel_rfl, fun j t ht => by
        have hm : t ∈ Tryd.f3.params.toList := by
          rw [Array.mem_toList_iff]; exact Array.mem_of_getElem? ht
        rw [par3] at hm
        simp at hm
        rcases hm with rfl | rfl
        · exact ws3_26
        · exact ws3_3⟩)
    (by kernel_rfl)
#print axioms matchCounts_card
end Go.Proofs.YtemmhdgaagaglaaDoor
