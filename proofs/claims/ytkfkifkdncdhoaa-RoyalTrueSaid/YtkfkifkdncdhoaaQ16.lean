/- Lemmas, in order: Slices of slices of numbers that a row is handed. Values that hold at this world alone.. -/
import Derived.Test.YtkfkifkdncdhoaaQ15
namespace Go.Sy
open Go Go.Proofs Go.ChangeShapes Go.WideShapes Go.Deep
section
variable {P : Program} {H : Type} {enc : TypeId × Value → H} {W : World} {base : Nat} {spare : Nat → Bool} {held : Bool} {k : IntKind}
/-- Lists of numbers lie in memory, a slice for each. -/
def Flat2At (W : World) (k : IntKind) (sa : Option Addr) (l : List (List Int)) : Prop :=
  ∀ i p, l[i]? = some p → ∃ blk off c T fr sb cb, sa = some ⟨blk, off, none⟩ ∧ W.heap[blk]? = some (.cells c T fr) ∧ c[off + i]? = some (.slice sb p.length cb) ∧ FlatAt W k sb 1 (p.map fun z => [z])
theorem trod_slices2 {t s e : TypeId} {d fuel : Nat} {cs : List Value} {x : DataW H × List MemPlace} (ht : P.underlying t = some (.slice s)) (hs : P.underlying s = some (.slice e)) (hcs : P.cellsOf s = 1) (he : flK P k d e = some 1) (h : DataW.trod enc P W base spare held fuel t cs = some x) :
    ∃ (l : List (List Int)) (sa : Option Addr) (cap : Nat), cs = [.slice sa l.length cap] ∧ l.length ≤ maxLen ∧ (∀ p ∈ l, p.length ≤ maxLen ∧ ∀ a ∈ p, wfI k a) ∧ Flat2At W k sa l := by
  rcases open_slice ht h with ⟨e1, _⟩ | ⟨a, len, cap, m, n', D, Pl, e1, hb, hl, hm, hmm, _, hx⟩
  · exact ⟨[], none, 0, e1, Nat.zero_le _, by simp, fun i p hi => by simp at hi⟩
  · have hlm : len ≤ m := by rw [hmm]; split <;> omega
    have each : ∀ i, i < len → ∃ q : List Int × Option Addr × Nat, (q.1.length ≤ maxLen ∧ ∀ b ∈ q.1, wfI k b) ∧ W.cell? (a.add i) = some (.slice q.2.1 q.1.length q.2.2) ∧ FlatAt W k q.2.1 1 (q.1.map fun z => [z]) := fun i hi => by
      obtain ⟨cs', h1, h2⟩ := hx i (by omega)
      rw [hcs] at h1
      obtain ⟨l, sb, cb, h3, h4, h5, h6⟩ := trod_slices hs he (by omega) h2
      obtain ⟨p, rfl⟩ := flat1 (W := W) (sa := sb) (fun p hp => (h5 p hp).1)
      obtain ⟨_, _, hc⟩ := World.cells?_some h1
      have h7 := hc 0 (by omega)
      rw [h3, add_add, Nat.mul_one, Nat.add_zero] at h7
      refine ⟨(p, sb, cb), ⟨by simpa using h4, fun b hb => (h5 [b] (List.mem_map.2 ⟨b, hb, rfl⟩)).2 b (.head _)⟩, ?_, h6⟩
      rw [h7]; simp
    obtain ⟨F, hF⟩ : ∃ F : Nat → List Int × Option Addr × Nat, ∀ i, i < len → ((F i).1.length ≤ maxLen ∧ ∀ b ∈ (F i).1, wfI k b) ∧ W.cell? (a.add i) = some (.slice (F i).2.1 (F i).1.length (F i).2.2) ∧ FlatAt W k (F i).2.1 1 ((F i).1.map fun z => [z]) :=
      ⟨fun i => if hi : i < len then (each i hi).choose else ([], none, 0), fun i hi => by simp only [hi, dif_pos]; exact (each i hi).choose_spec⟩
    have hget : ∀ i p, ((List.range len).map fun i => (F i).1)[i]? = some p → i < len ∧ (F i).1 = p := fun i p hi => by
      rw [List.getElem?_map] at hi
      have hil : i < len := by
        rcases Nat.lt_or_ge i len with h | h
        · exact h
        · rw [List.getElem?_eq_none (by simpa using h)] at hi; cases hi
      rw [List.getElem?_range hil] at hi
      exact ⟨hil, Option.some.inj hi⟩
    refine ⟨(List.range len).map fun i => (F i).1, some a, cap, by simpa using e1, by simp; omega, fun p hp => ?_, fun i p hi => ?_⟩
    · obtain ⟨i, hi, rfl⟩ := List.mem_map.1 hp
      exact (hF i (List.mem_range.1 hi)).1
    · obtain ⟨hil, rfl⟩ := hget i p hi
      obtain ⟨_, h2, h3⟩ := hF i hil
      obtain ⟨blk, off, spot⟩ := a
      have hsp : spot = none := by
        cases spot with
        | none => rfl
        | some z =>
          have hv := (hF 0 (by omega)).2.1
          exact (add_spot_none (i := 0) hv).elim
      subst hsp
      rw [add_spot] at h2
      unfold World.cell? at h2
      simp only at h2
      cases hbk : W.heap[blk]? with
      | none => rw [hbk] at h2; simp at h2
      | some o =>
        rw [hbk] at h2
        cases o <;> simp at h2
        rename_i c T fr
        exact ⟨blk, off, c, T, fr, (F i).2.1, (F i).2.2, rfl, hbk, h2, h3⟩
end
end Go.Sy
namespace Go.Sy
open Go Go.Proofs
section
variable {P : Program} {L : List (Nat × Value)} {dd : Option Tmp} {ty : TypeId} {pos : String} {af : Array Edge} {gd : Option (Nat × Bool)} {w : World}
theorem yv_ldw {t : TypeId} {x : Operand} {b off : Nat} {c : Array Value} {e : TypeId} {fr : Nat × Nat} {v : Value} (ht : scalB P t = true) (hx : ev L x = some (ptr b off)) (hb : w.heap[b]? = some (.cells c e fr)) (hv : c[off]? = some v) : Yv P (fun z => z = w) L ⟨dd, .load t x, ty, pos, af, gd⟩ v :=
  yv_load (c := c) (e := e) (fr := fr) ht hx (fun z h => by rw [h]; exact hb) hv
variable {r : Option Nat} {all : Array Oper} {Q : Exit → Act → World → Prop} {rest : List Oper} {a : Act} {n d : Nat} {ds : List Deferred} {o : Oper} {v : Value}
theorem o_w (hf : Fr n ds L a) (y : Yv P (fun z => z = w) L o v) (k : ∀ a, Fr n ds ((d, v) :: L) a → OpsW P r all Q rest a w)
    (hg : GOn all L o := by first | exact .inl rfl | exact gon' rfl rfl rfl) (hnd : isDefer o.op = false := by rfl) (hd : o.dst = some d := by rfl) (hn : Nat.blt d n = true := by rfl) : OpsW P r all Q (o :: rest) a w := ops_v hf (C := fun z => z = w) rfl y hg hnd hd hn k
end
end Go.Sy
