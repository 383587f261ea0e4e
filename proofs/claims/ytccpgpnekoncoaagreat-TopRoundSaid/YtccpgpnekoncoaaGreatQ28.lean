/- Lemmas, in order: Slices of slices of rows of numbers that a row is handed.. -/
import Derived.Test.YtccpgpnekoncoaaGreatQ27
namespace Go.Sy
open Go Go.Proofs Go.ChangeShapes Go.WideShapes Go.Deep
section
variable {P : Program} {H : Type} {enc : TypeId × Value → H} {W : World} {base : Nat} {spare : Nat → Bool} {held : Bool} {k : IntKind}
abbrev FRow := List (List Int) × Option Addr × Nat
theorem trod_slicesR {t s e : TypeId} {d fuel n : Nat} {cs : List Value} {x : DataW H × List MemPlace} (ht : P.underlying t = some (.slice s)) (hs : P.underlying s = some (.slice e)) (hcs : P.cellsOf s = 1) (he : flK P k d e = some n) (hn : 0 < n) (h : DataW.trod enc P W base spare held fuel t cs = some x) :
    ∃ (l : List FRow) (sa : Option Addr) (cap : Nat), cs = [.slice sa l.length cap] ∧ l.length ≤ maxLen ∧ (∀ r ∈ l, r.1.length ≤ maxLen ∧ (∀ p ∈ r.1, p.length = n ∧ ∀ a ∈ p, wfI k a) ∧ FlatAt W k r.2.1 n r.1) ∧
      ∀ i r, l[i]? = some r → ∃ blk off c T fr, sa = some ⟨blk, off, none⟩ ∧ W.heap[blk]? = some (.cells c T fr) ∧ c[off + i]? = some (.slice r.2.1 r.1.length r.2.2) := by
  rcases open_slice ht h with ⟨e1, _⟩ | ⟨a, len, cap, m, n', D, Pl, e1, hb, hl, hm, hmm, _, hx⟩
  · exact ⟨[], none, 0, e1, Nat.zero_le _, by simp, fun i p hi => by simp at hi⟩
  · have hlm : len ≤ m := by rw [hmm]; split <;> omega
    have each : ∀ i, i < len → ∃ q : FRow, (q.1.length ≤ maxLen ∧ (∀ p ∈ q.1, p.length = n ∧ ∀ a ∈ p, wfI k a) ∧ FlatAt W k q.2.1 n q.1) ∧ W.cell? (a.add i) = some (.slice q.2.1 q.1.length q.2.2) := fun i hi => by
      obtain ⟨cs', h1, h2⟩ := hx i (by omega)
      rw [hcs] at h1
      obtain ⟨l, sb, cb, h3, h4, h5, h6⟩ := trod_slices hs he hn h2
      obtain ⟨_, _, hc⟩ := World.cells?_some h1
      have h7 := hc 0 (by omega)
      rw [h3, add_add, Nat.mul_one, Nat.add_zero] at h7
      exact ⟨(l, sb, cb), ⟨h4, h5, h6⟩, h7⟩
    obtain ⟨F, hF⟩ : ∃ F : Nat → FRow, ∀ i, i < len → ((F i).1.length ≤ maxLen ∧ (∀ p ∈ (F i).1, p.length = n ∧ ∀ a ∈ p, wfI k a) ∧ FlatAt W k (F i).2.1 n (F i).1) ∧ W.cell? (a.add i) = some (.slice (F i).2.1 (F i).1.length (F i).2.2) :=
      ⟨fun i => if hi : i < len then (each i hi).choose else ([], none, 0), fun i hi => by simp only [hi, dif_pos]; exact (each i hi).choose_spec⟩
    have hget : ∀ i p, ((List.range len).map F)[i]? = some p → i < len ∧ F i = p := fun i p hi => by
      rw [List.getElem?_map] at hi
      have hil : i < len := by
        rcases Nat.lt_or_ge i len with h | h
        · exact h
        · rw [List.getElem?_eq_none (by simpa using h)] at hi; cases hi
      rw [List.getElem?_range hil] at hi
      exact ⟨hil, Option.some.inj hi⟩
    refine ⟨(List.range len).map F, some a, cap, by simpa using e1, by simp; omega, fun p hp => ?_, fun i p hi => ?_⟩
    · obtain ⟨i, hi, rfl⟩ := List.mem_map.1 hp
      exact (hF i (List.mem_range.1 hi)).1
    · obtain ⟨hil, rfl⟩ := hget i p hi
      obtain ⟨_, h2⟩ := hF i hil
      obtain ⟨blk, off, spot⟩ := a
      have hsp : spot = none := by
        cases spot with
        | none => rfl
        | some z =>
          have hv := (hF 0 (by omega)).2
          exact (add_spot_none (i := 0) hv).elim
      subst hsp
      rw [add_spot] at h2
      unfold World.cell? at h2
      simp only at h2
      cases hbk : W.heap[blk]? with
      | none => rw [hbk] at h2; simp at h2
      | some o =>
        rw [hbk] at h2
        cases o <;> simp at h2
        rename_i c T fr
        exact ⟨blk, off, c, T, fr, rfl, hbk, h2⟩
end
end Go.Sy

