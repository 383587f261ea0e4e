/- A bar that a row is handed, opened. -/
import Derived.Test.YtkolcbjghphjeaaDoorB16
import Derived.Test.YtkolcbjghphjeaaDoorRows
import Derived.Deep.Slices
import Derived.Deep.Strs
import Derived.ChangeSame
import Derived.ChangeVars
import Derived.JoinedOf
import Derived.LaidLaws
namespace Go.Proofs.YtkolcbjghphjeaaDoor
open Go Go.Sy Go.BarM Go.ChangeShapes Go.WideShapes Go.Deep
theorem hs24 : Tryd.prog.underlying 24 = some (.struct (Tryd.prog.fieldsOf 24)) := by kernel_rfl
theorem hs39 : Tryd.prog.underlying 39 = some (.struct (Tryd.prog.fieldsOf 39)) := by kernel_rfl
theorem fs24 : (Tryd.prog.fieldsOf 24).map (fun f => (f.offset, f.type)) = #[(0, 3), (1, 3), (2, 3), (3, 3), (4, 22)] := by kernel_rfl
theorem fs39 : (Tryd.prog.fieldsOf 39).map (fun f => (f.offset, f.type)) = #[(0, 3), (1, 3), (2, 3)] := by kernel_rfl
theorem co24 : Tryd.prog.cellsOf 24 = 5 := by kernel_rfl
theorem co39 : Tryd.prog.cellsOf 39 = 3 := by kernel_rfl
theorem co3 : Tryd.prog.cellsOf 3 = 1 := by kernel_rfl
theorem co22 : Tryd.prog.cellsOf 22 = 1 := by kernel_rfl
theorem un22 : Tryd.prog.underlying 22 = some (.slice 39) := by kernel_rfl
theorem field_at {t i o u : Nat} {l : Array (Nat × TypeId)} (h : (Tryd.prog.fieldsOf t).map (fun f => (f.offset, f.type)) = l) (hi : l[i]? = some (o, u)) : ∃ f, (Tryd.prog.fieldsOf t)[i]? = some f ∧ f.offset = o ∧ f.type = u := by
  rw [← h, Array.getElem?_map] at hi
  cases hf : (Tryd.prog.fieldsOf t)[i]? with
  | none => rw [hf] at hi; cases hi
  | some f => rw [hf] at hi; simp at hi; exact ⟨f, rfl, hi.1, hi.2⟩
theorem len3 {l : List Value} (h : l.length = 3) : ∃ a b c, l = [a, b, c] := by
  match l, h with
  | [a, b, c], _ => exact ⟨a, b, c, rfl⟩
theorem len5 {l : List Value} (h : l.length = 5) : ∃ a b c d e, l = [a, b, c, d, e] := by
  match l, h with
  | [a, b, c, d, e], _ => exact ⟨a, b, c, d, e, rfl⟩
section
variable {H : Type} {enc : TypeId × Value → H} {W : World} {base : Nat} {spare : Nat → Bool} {held : Bool}
theorem openScn {fuel : Nat} {cs : List Value} {x : DataW H × List MemPlace} (h : DataW.trod enc Tryd.prog W base spare held fuel 39 cs = some x) : ∃ s : Scn, cs = [.int .i64 s.least, .int .i64 s.most, .int .i64 s.calm] := by
  obtain ⟨xs, n, _, _, hl, hx, hf⟩ := DataW.trod_struct hs39 h
  rw [co39] at hl
  obtain ⟨c0, c1, c2, rfl⟩ := len3 hl
  have key : ∀ i o, (#[(0, 3), (1, 3), (2, 3)] : Array (Nat × TypeId))[i]? = some (o, 3) → ∃ k, ([c0, c1, c2].drop o).take 1 = [.int .i64 k] := fun i o hi => by
    obtain ⟨f, hf1, hf2, hf3⟩ := field_at fs39 hi
    have g := hf i f hf1
    rw [hf3, co3, hf2] at g
    have hxi : ∃ y, xs[i]? = some y := by
      have : i < xs.length := by rw [hx]; exact (Array.getElem?_eq_some_iff.1 hf1).1
      exact ⟨_, List.getElem?_eq_getElem this⟩
    obtain ⟨y, hy⟩ := hxi
    rw [hy] at g
    obtain ⟨k, hk, _⟩ := DataW.trod_int Tryd.un_3 g
    exact ⟨k, hk⟩
  obtain ⟨k0, e0⟩ := key 0 0 rfl
  obtain ⟨k1, e1⟩ := key 1 1 rfl
  obtain ⟨k2, e2⟩ := key 2 2 rfl
  simp at e0 e1 e2
  subst e0; subst e1; subst e2
  exact ⟨⟨k0, k1, k2⟩, rfl⟩
theorem openScns {fuel : Nat} {v : Value} {x : DataW H × List MemPlace} (h : DataW.trod enc Tryd.prog W base spare held fuel 22 [v] = some x) : ∃ (l : List Scn) (sa : Option Addr) (sc : Nat), v = .slice sa l.length sc ∧ ScAt W sa l := by
  rcases open_slice un22 h with ⟨e, _⟩ | ⟨a, len, cap, m, n, D, Pl, e, hb, hl, hm, hmm, _, hx⟩
  · cases e; exact ⟨[], none, 0, rfl, fun i s hi => by simp at hi⟩
  · cases e
    have hlm : len ≤ m := by rw [hmm]; split <;> omega
    have each : ∀ i, i < len → ∃ s : Scn, W.cell? (a.add (i * 3)) = some (.int .i64 s.least) ∧ W.cell? (a.add (i * 3 + 1)) = some (.int .i64 s.most) ∧ W.cell? (a.add (i * 3 + 2)) = some (.int .i64 s.calm) := fun i hi => by
      obtain ⟨cs', h1, h2⟩ := hx i (by omega)
      rw [co39] at h1
      obtain ⟨s, rfl⟩ := openScn h2
      obtain ⟨_, _, hc⟩ := World.cells?_some h1
      have g0 := hc 0 (by omega); have g1 := hc 1 (by omega); have g2 := hc 2 (by omega)
      rw [add_add] at g0 g1 g2
      exact ⟨s, by simpa using g0, by simpa using g1, by simpa using g2⟩
    obtain ⟨F, hF⟩ : ∃ F : Nat → Scn, ∀ i, i < len → W.cell? (a.add (i * 3)) = some (.int .i64 (F i).least) ∧ W.cell? (a.add (i * 3 + 1)) = some (.int .i64 (F i).most) ∧ W.cell? (a.add (i * 3 + 2)) = some (.int .i64 (F i).calm) :=
      ⟨fun i => if hi : i < len then (each i hi).choose else ⟨0, 0, 0⟩, fun i hi => by simp only [hi, dif_pos]; exact (each i hi).choose_spec⟩
    refine ⟨(List.range len).map F, some a, cap, by simp, fun i s hi => ?_⟩
    rw [List.getElem?_map] at hi
    have hil : i < len := by
      rcases Nat.lt_or_ge i len with h | h
      · exact h
      · rw [List.getElem?_eq_none (by simpa using h)] at hi; cases hi
    rw [List.getElem?_range hil] at hi
    have hi : F i = s := Option.some.inj hi
    subst hi
    obtain ⟨h0, h1, h2⟩ := hF i hil
    obtain ⟨blk, off, spot⟩ := a
    have hsp : spot = none := by
      cases spot with
      | none => rfl
      | some z =>
        have h00 := (hF 0 (by omega)).1
        rw [Nat.zero_mul, show (⟨blk, off, some z⟩ : Addr).add 0 = ⟨blk, off, some z⟩ from rfl] at h00
        unfold World.cell? at h00
        split at h00 <;> simp at h00
    subst hsp
    rw [add_spot] at h0 h1 h2
    unfold World.cell? at h0 h1 h2
    simp only at h0 h1 h2
    cases hbk : W.heap[blk]? with
    | none => rw [hbk] at h0; simp at h0
    | some o =>
      rw [hbk] at h0 h1 h2
      cases o <;> simp at h0 h1 h2
      rename_i c T fr
      exact ⟨blk, off, c, T, fr, rfl, hbk, by
        unfold cellsAt; rw [h0]
        unfold cellsAt; rw [show off + i * 3 + 1 = off + (i * 3 + 1) from rfl, h1]
        unfold cellsAt; rw [show off + (i * 3 + 1) + 1 = off + (i * 3 + 2) from rfl, h2]; rfl⟩
set_option maxRecDepth 100000 in
theorem openBar {r : Reach} {b0 : Nat} {v : Value} {d : DataW H} {p : List MemPlace} (hv : Value.okWide Tryd.prog W r b0 24 v) (h : DataW.Trod enc Tryd.prog W base spare held 24 v d p) : ∃ b sa sc, v = barV b sa sc ∧ ScAt W sa b.scenes := by
  obtain ⟨cs, rfl, hsz⟩ := okWide_struct hs24 hv
  obtain ⟨fuel, h⟩ := h
  obtain ⟨xs, n, _, _, hl, hx, hf⟩ := DataW.trod_struct hs24 h
  rw [co24] at hsz
  obtain ⟨l, rfl⟩ : ∃ l : List Value, cs = l.toArray := ⟨cs.toList, by simp⟩
  obtain ⟨c0, c1, c2, c3, c4, rfl⟩ := len5 (by simpa using hsz)
  have key : ∀ i o t, (#[(0, 3), (1, 3), (2, 3), (3, 3), (4, 22)] : Array (Nat × TypeId))[i]? = some (o, t) → Tryd.prog.cellsOf t = 1 → ∃ y, DataW.trod enc Tryd.prog W base spare held n t (([c0, c1, c2, c3, c4].drop o).take 1) = some y := fun i o t hi hc => by
    obtain ⟨f, hf1, hf2, hf3⟩ := field_at fs24 hi
    have g := hf i f hf1
    rw [hf3, hc, hf2] at g
    have hxi : ∃ y, xs[i]? = some y := by
      have : i < xs.length := by rw [hx]; exact (Array.getElem?_eq_some_iff.1 hf1).1
      exact ⟨_, List.getElem?_eq_getElem this⟩
    obtain ⟨y, hy⟩ := hxi
    exact ⟨y, by rw [← hy, ← g]; rfl⟩
  obtain ⟨y0, g0⟩ := key 0 0 3 rfl co3
  obtain ⟨y1, g1⟩ := key 1 1 3 rfl co3
  obtain ⟨y2, g2⟩ := key 2 2 3 rfl co3
  obtain ⟨y3, g3⟩ := key 3 3 3 rfl co3
  obtain ⟨y4, g4⟩ := key 4 4 22 rfl co22
  obtain ⟨k0, e0, _⟩ := DataW.trod_int Tryd.un_3 g0
  obtain ⟨k1, e1, _⟩ := DataW.trod_int Tryd.un_3 g1
  obtain ⟨k2, e2, _⟩ := DataW.trod_int Tryd.un_3 g2
  obtain ⟨k3, e3, _⟩ := DataW.trod_int Tryd.un_3 g3
  obtain ⟨l, sa, sc, e4, hS⟩ := openScns (v := c4) g4
  simp at e0 e1 e2 e3
  subst e0; subst e1; subst e2; subst e3; subst e4
  exact ⟨⟨k0, k1, k2, k3, l⟩, sa, sc, rfl, hS⟩
end
end Go.Proofs.YtkolcbjghphjeaaDoor
