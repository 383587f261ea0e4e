/- Lemmas, in order: What a law is handed, opened: tours, terms, numbers.. -/
import Derived.Test.YtccpgpnekoncoaaGreatQ28
import Derived.Test.YtccpgpnekoncoaaGreatRows
import Derived.Test.YtccpgpnekoncoaaGreatChecked
import Derived.JoinedOf
import Derived.LaidLaws
import Derived.RowKit
import Derived.RowKitTokens
import Derived.LaidHandle
import Derived.Stop.Joined
import Derived.Lay
import Derived.OpenShut
import Derived.SizedLaws
import Derived.SevenTiedAt
namespace Go.Proofs.YtccpgpnekoncoaaGreat
open Go Go.Sy Go.WalM Go.RoyM Go.ChangeShapes Go.WideShapes Go.Deep Go.RowKit
theorem hs25 : Tryz.prog.underlying 25 = some (.struct (Tryz.prog.fieldsOf 25)) := by kernel_rfl
theorem fs25 : (Tryz.prog.fieldsOf 25).map (fun f => (f.offset, f.type)) = #[(0, 3), (1, 22), (2, 23), (3, 22), (4, 22)] := by kernel_rfl
theorem co25 : Tryz.prog.cellsOf 25 = 5 := by kernel_rfl
theorem co22 : Tryz.prog.cellsOf 22 = 1 := by kernel_rfl
theorem co23 : Tryz.prog.cellsOf 23 = 1 := by kernel_rfl
theorem un22 : Tryz.prog.underlying 22 = some (.slice 49) := by kernel_rfl
theorem un23 : Tryz.prog.underlying 23 = some (.slice 22) := by kernel_rfl
theorem un28 : Tryz.prog.underlying 28 = some (.slice 3) := by kernel_rfl
theorem un29 : Tryz.prog.underlying 29 = some (.slice 5) := by kernel_rfl
theorem hs27 : Tryz.prog.underlying 27 = some (.struct (Tryz.prog.fieldsOf 27)) := by kernel_rfl
theorem co3 : Tryz.prog.cellsOf 3 = 1 := by kernel_rfl
theorem fk27 : flK Tryz.prog .i64 9 27 = some 3 := by kernel_rfl
theorem fk49 : flK Tryz.prog .i64 9 49 = some 2 := by kernel_rfl
theorem fk3 : flK Tryz.prog .i64 9 3 = some 1 := by kernel_rfl
theorem fk5 : flK Tryz.prog .u8 9 5 = some 1 := by kernel_rfl
theorem un4 : Tryz.prog.underlying 4 = some .bool := by kernel_rfl
theorem own : ownKnob Tryz.prog.godebug = none := by kernel_rfl
def toSp (p : List Int) : Int × Int := match p with
  | [x, y] => (x, y)
  | _ => (0, 0)
theorem toSp_enc {p : List Int} (h : p.length = 2) : swC (toSp p) = p.map (Value.int .i64) := by
  match p, h with
  | [x, y], _ => rfl
theorem sp_flat {W : World} {sa : Option Addr} {l : List (List Int)} (hl : ∀ p ∈ l, p.length = 2) (h : FlatAt W .i64 sa 2 l) : SpAt W sa (l.map toSp) := fun i s hi => by
  rw [List.getElem?_map] at hi
  cases hp : l[i]? with
  | none => rw [hp] at hi; cases hi
  | some p =>
    rw [hp] at hi
    cases hi
    obtain ⟨blk, off, c, T, fr, h1, h2, h3⟩ := h i p hp
    exact ⟨blk, off, c, T, fr, h1, h2, by rw [toSp_enc (hl p (List.mem_of_getElem? hp)), Int.toNat_natCast]; exact h3⟩
theorem iat_flat {W : World} {sa : Option Addr} {m : List Int} (h : FlatAt W .i64 sa 1 (m.map fun z => [z])) : IAt W sa m := fun i x hi => by
  obtain ⟨blk, off, c, T, fr, h1, h2, h3⟩ := h i [x] (by rw [List.getElem?_map, hi]; rfl)
  refine ⟨blk, off, c, T, fr, h1, h2, ?_⟩
  unfold cellsAt at h3
  cases hc : c[off + i * 1]? with
  | none => rw [hc] at h3; simp at h3
  | some v => rw [hc] at h3; simp [cellsAt] at h3; rw [Int.toNat_natCast, hc, h3]
theorem u8_flat {W : World} {sa : Option Addr} {m : List Int} (h : FlatAt W .u8 sa 1 (m.map fun z => [z])) : U8At W sa m := fun i x hi => by
  obtain ⟨blk, off, c, T, fr, h1, h2, h3⟩ := h i [x] (by rw [List.getElem?_map, hi]; rfl)
  refine ⟨blk, off, c, T, fr, h1, h2, ?_⟩
  unfold cellsAt at h3
  cases hc : c[off + i * 1]? with
  | none => rw [hc] at h3; simp at h3
  | some v => rw [hc] at h3; simp [cellsAt] at h3; rw [Int.toNat_natCast, hc, h3]
theorem len5 {l : List Value} (h : l.length = 5) : ∃ a b c d e, l = [a, b, c, d, e] := by
  match l, h with
  | [a, b, c, d, e], _ => exact ⟨a, b, c, d, e, rfl⟩
section
variable {H : Type} {enc : TypeId × Value → H} {W : World} {base : Nat} {spare : Nat → Bool} {held : Bool}
set_option maxRecDepth 100000 in
theorem openTou {r : Reach} {b0 : Nat} {v : Value} {d : DataW H} {p : List MemPlace} (hv : Value.okWide Tryz.prog W r b0 25 v) (h : DataW.Trod enc Tryz.prog W base spare held 25 v d p) : ∃ (t : TourD) (p : TPl), v = .agg (touC t p) ∧ TouIn W t p := by
  obtain ⟨cs, rfl, hsz⟩ := okWide_struct hs25 hv
  obtain ⟨fuel, h⟩ := h
  obtain ⟨_, hf⟩ := trod_field hs25 h
  rw [fs25] at hf
  rw [co25] at hsz
  obtain ⟨l, rfl⟩ : ∃ l : List Value, cs = l.toArray := ⟨cs.toList, by simp⟩
  obtain ⟨c0, c1, c2, c3, c4, rfl⟩ := len5 (by simpa using hsz)
  replace hf : ∀ (i o : Nat) (u : TypeId) (c : Nat), (#[(0, 3), (1, 22), (2, 23), (3, 22), (4, 22)] : Array (Nat × TypeId))[i]? = some (o, u) → Tryz.prog.cellsOf u = c → ∃ n y, DataW.trod enc Tryz.prog W base spare held n u (([c0, c1, c2, c3, c4].drop o).take c) = some y := hf
  obtain ⟨_, _, g0⟩ := hf 0 0 3 1 rfl co3
  obtain ⟨_, _, g1⟩ := hf 1 1 22 1 rfl co22
  obtain ⟨_, _, g2⟩ := hf 2 2 23 1 rfl co23
  obtain ⟨_, _, g3⟩ := hf 3 3 22 1 rfl co22
  obtain ⟨_, _, g4⟩ := hf 4 4 22 1 rfl co22
  obtain ⟨p0, m0, e0, _⟩ := trod_fl fk3 g0
  obtain ⟨l1, s1, a1, e1, m1, b1, f1⟩ := trod_slices un22 fk49 (by omega) g1
  obtain ⟨l2, s2, a2, e2, m2, b2, f2⟩ := trod_slicesR un23 un22 co22 fk49 (by omega) g2
  obtain ⟨l3, s3, a3, e3, m3, b3, f3⟩ := trod_slices un22 fk49 (by omega) g3
  obtain ⟨l4, s4, a4, e4, m4, b4, f4⟩ := trod_slices un22 fk49 (by omega) g4
  match p0, m0 with
  | [x0], _ =>
  simp at e0 e1 e2 e3 e4
  subst e0; subst e1; subst e2; subst e3; subst e4
  refine ⟨⟨x0, l1.map toSp, l2.map (fun r => r.1.map toSp), l3.map toSp, l4.map toSp⟩, ⟨s1, s2, s3, s4, a1, a2, a3, a4, l2.map (fun r => (r.1.map toSp, r.2.1, r.2.2))⟩, by simp, ⟨sp_flat (fun p hp => (b1 p hp).1) f1, fun i r hi => ?_, fun r hr => ?_, by simp [Function.comp_def], sp_flat (fun p hp => (b3 p hp).1) f3, sp_flat (fun p hp => (b4 p hp).1) f4, by simpa using m1, by simpa using m2, by simpa using m3, by simpa using m4, fun r hr => ?_⟩⟩
  · rw [List.getElem?_map] at hi
    cases hp : l2[i]? with
    | none => rw [hp] at hi; cases hi
    | some q =>
      rw [hp] at hi
      cases hi
      obtain ⟨blk, off, c, T, fr, h1, h2, h3⟩ := f2 i q hp
      exact ⟨blk, off, c, T, fr, h1, h2, by rw [Int.toNat_natCast, Nat.mul_one, h3]; simp⟩
  · obtain ⟨q, hq, rfl⟩ := List.mem_map.1 hr
    exact sp_flat (fun p hp => ((b2 q hq).2.1 p hp).1) (b2 q hq).2.2
  · obtain ⟨q, hq, rfl⟩ := List.mem_map.1 hr
    have := (b2 q hq).1
    simpa using this
set_option maxRecDepth 100000 in
theorem openTm {r : Reach} {b0 : Nat} {v : Value} {d : DataW H} {p : List MemPlace} (hv : Value.okWide Tryz.prog W r b0 27 v) (h : DataW.Trod enc Tryz.prog W base spare held 27 v d p) : ∃ t : TermD, v = tmV t := by
  obtain ⟨cs, rfl, hsz⟩ := okWide_struct hs27 hv
  obtain ⟨fuel, h⟩ := h
  obtain ⟨p, h1, h2, h3⟩ := trod_fl fk27 h
  match p, h1 with
  | [x, y, z], _ =>
    have e : cs = #[.int .i64 x, .int .i64 y, .int .i64 z] := by
      apply Array.ext'
      have h4 : cs.toList = [x, y, z].map (Value.int .i64) := h2
      rw [h4]; rfl
    subst e
    exact ⟨⟨x, y, z⟩, rfl⟩
end
end Go.Proofs.YtccpgpnekoncoaaGreat

