/- Lemmas, in order: What a law is handed, opened: royalties, terms, numbers.. -/
import Derived.Test.YtkfkifkdncdhoaaQ16
import Derived.Test.YtkfkifkdncdhoaaRows
import Derived.Test.YtkfkifkdncdhoaaChecked
import Derived.JoinedOf
import Derived.LaidLaws
import Derived.RowKit
import Derived.RowKitTokens
import Derived.LaidHandle
import Derived.Stop.Joined
import Derived.Lay
import Derived.SizedLaws
import Derived.SevenTiedAt
namespace Go.Proofs.Ytkfkifkdncdhoaa
open Go Go.Sy Go.RoyM Go.ChangeShapes Go.WideShapes Go.Deep Go.RowKit
theorem hs37 : Try.prog.underlying 37 = some (.struct (Try.prog.fieldsOf 37)) := by kernel_rfl
theorem fs37 : (Try.prog.fieldsOf 37).map (fun f => (f.offset, f.type)) = #[(0, 33), (1, 22), (2, 34), (3, 35), (4, 22)] := by kernel_rfl
theorem co37 : Try.prog.cellsOf 37 = 5 := by kernel_rfl
theorem co22 : Try.prog.cellsOf 22 = 1 := by kernel_rfl
theorem co33 : Try.prog.cellsOf 33 = 1 := by kernel_rfl
theorem co34 : Try.prog.cellsOf 34 = 1 := by kernel_rfl
theorem co35 : Try.prog.cellsOf 35 = 1 := by kernel_rfl
theorem un22 : Try.prog.underlying 22 = some (.slice 3) := by kernel_rfl
theorem un33 : Try.prog.underlying 33 = some (.slice 24) := by kernel_rfl
theorem un34 : Try.prog.underlying 34 = some (.slice 22) := by kernel_rfl
theorem un35 : Try.prog.underlying 35 = some (.slice 66) := by kernel_rfl
theorem un58 : Try.prog.underlying 58 = some (.slice 5) := by kernel_rfl
theorem un5 : Try.prog.underlying 5 = some (.int .u8) := by kernel_rfl
theorem hs24 : Try.prog.underlying 24 = some (.struct (Try.prog.fieldsOf 24)) := by kernel_rfl
theorem co24 : Try.prog.cellsOf 24 = 3 := by kernel_rfl
theorem fk24 : flK Try.prog .i64 9 24 = some 3 := by kernel_rfl
theorem fk66 : flK Try.prog .i64 9 66 = some 4 := by kernel_rfl
theorem fk3 : flK Try.prog .i64 9 3 = some 1 := by kernel_rfl
theorem fk5 : flK Try.prog .u8 9 5 = some 1 := by kernel_rfl
theorem un4 : Try.prog.underlying 4 = some .bool := by kernel_rfl
theorem own : ownKnob Try.prog.godebug = none := by kernel_rfl
def toTm (p : List Int) : TermD := match p with
  | [x, y, z] => ⟨x, y, z⟩
  | _ => ⟨0, 0, 0⟩
def toRp (p : List Int) : RepD := match p with
  | [x, y, z, t] => ⟨x, y, z, t⟩
  | _ => ⟨0, 0, 0, 0⟩
theorem tAt_flat {α : Type} {W : World} {sa : Option Addr} {l : List (List Int)} {n : Nat} {enc : α → List Value} {f : List Int → α} (hf : ∀ p ∈ l, enc (f p) = p.map (Value.int .i64)) (h : FlatAt W .i64 sa n l) : TAt n enc W sa (l.map f) := fun i s hi => by
  rw [List.getElem?_map] at hi
  cases hp : l[i]? with
  | none => rw [hp] at hi; cases hi
  | some p =>
    rw [hp] at hi
    cases hi
    obtain ⟨blk, off, c, T, fr, h1, h2, h3⟩ := h i p hp
    exact ⟨blk, off, c, T, fr, h1, h2, by rw [hf p (List.mem_of_getElem? hp)]; exact h3⟩
theorem iat_flat {W : World} {sa : Option Addr} {m : List Int} (h : FlatAt W .i64 sa 1 (m.map fun z => [z])) : IAt W sa m := fun i x hi => by
  obtain ⟨blk, off, c, T, fr, h1, h2, h3⟩ := h i [x] (by rw [List.getElem?_map, hi]; rfl)
  refine ⟨blk, off, c, T, fr, h1, h2, ?_⟩
  unfold cellsAt at h3
  cases hc : c[off + i * 1]? with
  | none => rw [hc] at h3; simp at h3
  | some v => rw [hc] at h3; simp [cellsAt] at h3; rw [Int.toNat_natCast, hc, h3]
theorem bat_flat {W : World} {sa : Option Addr} {m : List Int} (h : FlatAt W .u8 sa 1 (m.map fun z => [z])) : BAt W sa m := fun i x hi => by
  obtain ⟨blk, off, c, T, fr, h1, h2, h3⟩ := h i [x] (by rw [List.getElem?_map, hi]; rfl)
  refine ⟨blk, off, c, T, fr, h1, h2, ?_⟩
  unfold cellsAt at h3
  cases hc : c[off + i * 1]? with
  | none => rw [hc] at h3; simp at h3
  | some v => rw [hc] at h3; simp [cellsAt] at h3; rw [Int.toNat_natCast, hc, h3]
theorem toTm_enc {p : List Int} (h : p.length = 3) : tmC (toTm p) = p.map (Value.int .i64) := by
  match p, h with
  | [x, y, z], _ => rfl
theorem toRp_enc {p : List Int} (h : p.length = 4) : rpC (toRp p) = p.map (Value.int .i64) := by
  match p, h with
  | [x, y, z, t], _ => rfl
theorem len5 {l : List Value} (h : l.length = 5) : ∃ a b c d e, l = [a, b, c, d, e] := by
  match l, h with
  | [a, b, c, d, e], _ => exact ⟨a, b, c, d, e, rfl⟩
section
variable {H : Type} {enc : TypeId × Value → H} {W : World} {base : Nat} {spare : Nat → Bool} {held : Bool}
set_option maxRecDepth 100000 in
theorem openRoy {r : Reach} {b0 : Nat} {v : Value} {d : DataW H} {p : List MemPlace} (hv : Value.okWide Try.prog W r b0 37 v) (h : DataW.Trod enc Try.prog W base spare held 37 v d p) : ∃ (d : RoyD) (p : Pl), v = .agg (royC d p) ∧ RoyIn W d p := by
  obtain ⟨cs, rfl, hsz⟩ := okWide_struct hs37 hv
  obtain ⟨fuel, h⟩ := h
  obtain ⟨_, hf⟩ := trod_field hs37 h
  rw [fs37] at hf
  rw [co37] at hsz
  obtain ⟨l, rfl⟩ : ∃ l : List Value, cs = l.toArray := ⟨cs.toList, by simp⟩
  obtain ⟨c0, c1, c2, c3, c4, rfl⟩ := len5 (by simpa using hsz)
  replace hf : ∀ (i o : Nat) (u : TypeId) (c : Nat), (#[(0, 33), (1, 22), (2, 34), (3, 35), (4, 22)] : Array (Nat × TypeId))[i]? = some (o, u) → Try.prog.cellsOf u = c → ∃ n y, DataW.trod enc Try.prog W base spare held n u (([c0, c1, c2, c3, c4].drop o).take c) = some y := hf
  obtain ⟨_, _, g0⟩ := hf 0 0 33 1 rfl co33
  obtain ⟨_, _, g1⟩ := hf 1 1 22 1 rfl co22
  obtain ⟨_, _, g2⟩ := hf 2 2 34 1 rfl co34
  obtain ⟨_, _, g3⟩ := hf 3 3 35 1 rfl co35
  obtain ⟨_, _, g4⟩ := hf 4 4 22 1 rfl co22
  obtain ⟨l0, s0, a0, e0, m0, b0', f0⟩ := trod_slices un33 fk24 (by omega) g0
  obtain ⟨l1, s1, a1, e1, m1, b1, f1⟩ := trod_slices un22 fk3 (by omega) g1
  obtain ⟨l2, s2, a2, e2, m2, b2, f2⟩ := trod_slices2 un34 un22 co22 fk3 g2
  obtain ⟨l3, s3, a3, e3, m3, b3, f3⟩ := trod_slices un35 fk66 (by omega) g3
  obtain ⟨l4, s4, a4, e4, m4, b4, f4⟩ := trod_slices un22 fk3 (by omega) g4
  have hc2 := trod_cap un34 e2 g2
  have hc3 := trod_cap un35 e3 g3
  obtain ⟨i1, rfl⟩ := flat1 (W := W) (sa := s1) (fun p hp => (b1 p hp).1)
  obtain ⟨i4, rfl⟩ := flat1 (W := W) (sa := s4) (fun p hp => (b4 p hp).1)
  simp at e0 e1 e2 e3 e4
  subst e0; subst e1; subst e2; subst e3; subst e4
  refine ⟨⟨l0.map toTm, i1, l2, l3.map toRp, i4⟩, ⟨s0, s1, s2, s3, s4, a0, a1, a2, a3, a4⟩, by simp, ⟨tAt_flat (fun p hp => toTm_enc (b0' p hp).1) f0, iat_flat f1, fun i p hi => ?_, tAt_flat (fun p hp => toRp_enc (b3 p hp).1) f3, iat_flat f4, by simpa using m0, by simpa using m1, m2, by simpa using m3, by simpa using m4, fun p hp => (b2 p hp).1, by simpa using hc3, hc2⟩⟩
  obtain ⟨blk, off, c, T, fr, sb, cb, h1, h2, h3, h4⟩ := f2 i p hi
  exact ⟨blk, off, c, T, fr, sb, cb, h1, h2, by rw [Int.toNat_natCast, Nat.mul_one]; exact h3, iat_flat h4⟩
set_option maxRecDepth 100000 in
theorem openTm {r : Reach} {b0 : Nat} {v : Value} {d : DataW H} {p : List MemPlace} (hv : Value.okWide Try.prog W r b0 24 v) (h : DataW.Trod enc Try.prog W base spare held 24 v d p) : ∃ t : TermD, v = tmV t ∧ (-9223372036854775808 ≤ t.f ∧ t.f ≤ 9223372036854775807) ∧ (-9223372036854775808 ≤ t.u ∧ t.u ≤ 9223372036854775807) ∧ (-9223372036854775808 ≤ t.b ∧ t.b ≤ 9223372036854775807) := by
  obtain ⟨cs, rfl, hsz⟩ := okWide_struct hs24 hv
  obtain ⟨fuel, h⟩ := h
  obtain ⟨p, h1, h2, h3⟩ := trod_fl fk24 h
  match p, h1 with
  | [x, y, z], _ =>
    have e : cs = #[.int .i64 x, .int .i64 y, .int .i64 z] := by
      apply Array.ext'
      have h4 : cs.toList = [x, y, z].map (Value.int .i64) := h2
      rw [h4]; rfl
    subst e
    exact ⟨⟨x, y, z⟩, rfl, wf64 (h3 x (by simp)), wf64 (h3 y (by simp)), wf64 (h3 z (by simp))⟩
end
end Go.Proofs.Ytkfkifkdncdhoaa
