/- MatchAsks: the row, and the tied card: the law returns true for every input. Condition: the library's two tables of math/bits lie as the program's text lays them. -/
import Derived.Test.YtemmhdgaagaglaaDoorQ18
import Derived.Test.YtemmhdgaagaglaaDoorCards
import Derived.Test.YtemmhdgaagaglaaDoorTie
import Derived.SevenTiedAt
namespace Go.Proofs.YtemmhdgaagaglaaDoor
open Go Go.Sy Go.MatM Go.ChangeShapes Go.WideShapes Go.Deep Go.RowKit
theorem par4 : Tryd.f4.params.toList = [26, 3] := by kernel_rfl
theorem res4 : Tryd.f4.resultTypes = #[4] := by kernel_rfl
theorem rdl4_26 : Tryd.prog.readableRec 26 = true ∧ 26 < Tryd.prog.types.size := ⟨by kernel_rfl, of_decide_eq_true (by kernel_rfl)⟩
theorem rdl4_3 : Tryd.prog.readableRec 3 = true ∧ 3 < Tryd.prog.types.size := ⟨by kernel_rfl, of_decide_eq_true (by kernel_rfl)⟩
theorem rd4 : ∀ t ∈ Tryd.f4.params.toList, Tryd.prog.readableRec t = true ∧ t < Tryd.prog.types.size := by
  rw [par4]
  intro t ht
  simp at ht
  rcases ht with rfl | rfl
  · exact rdl4_26
  · exact rdl4_3
theorem ok4 {W' : World} : ∀ (j : Nat) (t : TypeId) (r : Value), Tryd.f4.resultTypes[j]? = some t → ((Value.bool true).resultList Tryd.f4.resultTypes.size)[j]? = some r → Value.okWide Tryd.prog W' .any 0 t r := by
  rw [res4]
  intro j t r h1 h2
  match j, h1, h2 with
  | 0, h1, h2 =>
    cases h1; cases h2
    simp [Value.okWide, un4, Cell.okWide, Cell.ok]
  | j + 1, h1, _ => simp at h1
set_option maxRecDepth 100000 in
theorem matchAsks_lifted (os : Os) (started : os.Started) (H : Type) (enc : TypeId × Value → H) :
    ReturnsInHanded Rows.matchAsksRow.assume Tryd.checked os 4 .any (fun w args => (Rows.matchAsksSpec.pre enc Tryd.prog Tryd.f4 [] false w args ∧ laidMetH Tryd.prog Rows.matchAsksRow.laid w) ∧ sizedMet enc Tryd.prog Tryd.f4 (OpenSpec.ofChange Rows.matchAsksSpec) false w args)
      (Rows.matchAsksSpec.post enc Tryd.prog Tryd.f4 Rows.matchAsksRow.apart Rows.matchAsksRow.fresh Rows.matchAsksRow.handsOn Rows.matchAsksRow.again) := by
  refine returnsInHanded_of_change_and (C := Tryd.checked) (X := fun w _ => laidMetH Tryd.prog Rows.matchAsksRow.laid w) (fun _ _ _ hh h => h.of_heap hh) own started (by kernel_rfl) Tryd.func4
    (ChangeSpec.witness_at (enc := enc) (C := Tryd.checked) (os := os) (X := fun w _ => laidMetH Tryd.prog Rows.matchAsksRow.laid w) false (World.laidAll Tryd.prog os Rows.matchAsksRow.laid) #[.agg #[.slice none 0 0, .slice none 0 0, .int .i64 0, .int .i64 0, .int .i64 0], .int .i64 0] 8 rfl (by kernel_rfl) (by kernel_rfl) (by kernel_rfl) (by kernel_rfl) (by kernel_rfl) (laidWorld_met os _)) ?_
  intro W base args ds gs before hval0 hW _ _ hL _
  have hval : ∀ (j : Nat) t v, Tryd.f4.params[j]? = some t → args[j]? = some v → Value.okWide Tryd.prog W .any base t v := hval0
  have hW1 : DataW.Whole enc Tryd.prog Tryd.f4.params.toList Rows.matchAsksSpec.vars false W args.toList ds gs before := hW
  obtain ⟨p, q, hA0, hVq, hpq, hz, hn⟩ := hW
  obtain ⟨args⟩ := args
  obtain ⟨v1, vs1, d1, ds1, p1, q1, e1a, e1b, e1c, h1, hA1⟩ := trodAll_cons hA0
  obtain ⟨v2, vs2, d2, ds2, p2, q2, e2a, e2b, e2c, h2, hA2⟩ := trodAll_cons hA1
  obtain ⟨e10, e11, e12⟩ := trodAll_nil hA2
  subst e10; subst e11; subst e2a; subst e2b
  have e1a : args = [v1, v2] := e1a
  subst e1a; subst e1b
  obtain rfl : gs = [] := by
    cases gs with
    | nil => rfl
    | cons g r => exact absurd hVq (by intro h; cases h)
  obtain ⟨r1, sa1, sb1, ca1, cb1, rfl, hA1m, hB1m, hid1⟩ := openRows (hval 0 26 v1 rfl rfl) h1
  obtain ⟨n2, rfl, rfl, rfl, hw2⟩ := open_int Tryd.un_3 (hval 1 3 v2 rfl rfl) h2
  have hb2 := wf64 (show wfI .i64 n2 from hw2)
  have hLL : laidMet Tryd.prog Rows.matchAsksRow.laid W := hL
  have hT : GTab W := gTab_of_laid (l := Rows.matchAsksRow.laid) (.tail _ (.head _)) hLL
  refine (c4 r1 sa1 sb1 ca1 cb1 W hA1m hB1m hT n2 hb2).mono fun e W' he => ?_
  cases e with
  | returned v =>
    obtain ⟨rfl, hx⟩ := he
    exact ⟨_, rfl, post_ext (by kernel_rfl) rd4 rfl hx hW1 rfl rfl (fun b sp hd => trodAll_mk1 (shut_bool un4 true)) ok4⟩
  | panicked c => exact he.elim
  | outgrown => exact he.elim
theorem matchAsks_holds : Rows.MatchAsksSaid :=
  OpenClaim.holds_of_wide 4 Tryd.f4 rfl rfl rfl rfl rfl rfl rfl ⟨rfl, rfl, rfl, rfl, rfl⟩ rfl rfl rfl rfl rfl (by kernel_rfl) Tryd.func4 (by kernel_rfl)
    (of_decide_eq_true (by kernel_rfl)) (by unfold Func.isWrapper; rw [if_neg (of_decide_eq_false (by kernel_rfl))]; exact ⟨rfl, rfl⟩)
    (fun os started H enc _ => matchAsks_lifted os started H enc)
theorem ws4_26 : Tryd.prog.wantsStandIn 26 = false := by kernel_rfl
theorem ws4_3 : Tryd.prog.wantsStandIn 3 = false := by kernel_rfl
theorem matchAsks_card : Rows.MatchAsksCardSaid :=
  Claim7.holds_tied_plain_at .later [] [.data, .data] true (true, "48792c288456b3c281a84ad9e132e6e020a212101a00c0161a021b1306e88a2f") false
    matchAsks_holds (fun _ h => by cases h) (by kernel_rfl) (fun _ h => by cases h) matchAsks_row_tie rfl ⟨rfl, rfl⟩ (by kernel_rfl) rfl
    (fun f fn hf hfn => by
      obtain rfl : f = 4 := Option.some.inj ((show Tryd.prog.funcNamed "pairworks/pairworkslaw02.MatchAsks" = some 4 by kernel_rfl).symm.trans hf) |>.symm
      obtain rfl : fn = Tryd.f4 := (Option.some.inj (Tryd.func4.symm.trans hfn)).symm
      exact ⟨by kernel_rfl, fun j t ht => by
        have hm : t ∈ Tryd.f4.params.toList := by
          rw [Array.mem_toList_iff]; exact Array.mem_of_getElem? ht
        rw [par4] at hm
        simp at hm
        rcases hm with rfl | rfl
        · exact ws4_26
        · exact ws4_3⟩)
    (by kernel_rfl)
#print axioms matchAsks_card
end Go.Proofs.YtemmhdgaagaglaaDoor
