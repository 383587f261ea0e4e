/- Lemmas, in order: Bounds between stations: walks, what goes round, and when all bounds can hold. Bounds between stations: the least ways, round after round, and places by which all bounds hold. Charts: their sights, what each one bounds, and which sights can all be right. Charts: circles of sights; some sights can all be right just if no circle among them cannot. Charts: sights that cannot all be right have a circle among them that cannot. How many bits are set: the library's way of counting, on numbers below 65536; the lowest bit. Charts: the fewest sights that cannot all be right, and that must be wrong. Charts: how much greater one station can be than another one; places that reach this end; sights that tell nothing. Charts: the document's tightest bounds, by way of each station in turn. Charts: the tightest bounds are the least ways; what cannot be shows in a station that lies below itself. Charts: the document's answers: what can be, why, what to drop. Charts: what to drop, and what tells nothing, by the program and by the document. Charts: what the exported functions tell, by the program and by the document; truths; ends of spans. Charts: a sight more at the end of a span; the map; narrower sights; charts of which the same can be. Charts: a part of a chart, with some of its sights alone. Charts: sights looked at from the other end; how many are in a set. Charts: stations numbered otherwise, sights told the other way round. Charts: the same bounds, the same spans; sights that tell nothing; what is linked stays linked.. -/
import Derived.Test.YtccpgpnekoncoaaGreatQ1
import Derived.KernelRfl
namespace Go.ChaM
/-- A bound: one station is at most so much greater than another one; it has a tag. -/
structure Ed where
  u : Nat
  v : Nat
  w : Int
  t : Nat
/-- A way from one station to another one, bound after bound. -/
def Wk (E : List Ed) : Nat → List Ed → Nat → Prop
  | u, [], v => u = v
  | u, e :: l, v => e ∈ E ∧ e.u = u ∧ Wk E e.v l v
def wt : List Ed → Int
  | [] => 0
  | e :: l => e.w + wt l
theorem wt_app : ∀ (a b : List Ed), wt (a ++ b) = wt a + wt b
  | [], b => (Int.zero_add _).symm
  | e :: a, b => by rw [List.cons_append, wt, wt, wt_app a b, Int.add_assoc]
theorem Wk.app {E : List Ed} : ∀ {a : List Ed} {u z v : Nat} {b : List Ed}, Wk E u a z → Wk E z b v → Wk E u (a ++ b) v
  | [], u, z, v, b, h, h' => by cases h; exact h'
  | _ :: _, _, _, _, _, h, h' => ⟨h.1, h.2.1, Wk.app h.2.2 h'⟩
theorem Wk.split {E : List Ed} : ∀ {a : List Ed} {u v : Nat} {b : List Ed}, Wk E u (a ++ b) v → ∃ z, Wk E u a z ∧ Wk E z b v
  | [], u, _, _, h => ⟨u, rfl, h⟩
  | _ :: _, _, _, _, h =>
    let ⟨z, h1, h2⟩ := Wk.split h.2.2
    ⟨z, ⟨h.1, h.2.1, h1⟩, h2⟩
theorem Wk.mem {E : List Ed} : ∀ {l : List Ed} {u v : Nat}, Wk E u l v → ∀ e ∈ l, e ∈ E
  | _ :: _, _, _, h, e, he => by
    rcases List.mem_cons.1 he with rfl | he
    · exact h.1
    · exact Wk.mem h.2.2 e he
theorem Wk.mono {E E' : List Ed} (hE : ∀ e ∈ E, e ∈ E') : ∀ {l : List Ed} {u v : Nat}, Wk E u l v → Wk E' u l v
  | [], _, _, h => h
  | _ :: _, _, _, h => ⟨hE _ h.1, h.2.1, Wk.mono hE h.2.2⟩
/-- Places by which all bounds hold. -/
def Feas (x : Nat → Int) (E : List Ed) : Prop := ∀ e ∈ E, x e.v ≤ x e.u + e.w
theorem Feas.walk {x : Nat → Int} {E : List Ed} (h : Feas x E) : ∀ {l : List Ed} {u v : Nat}, Wk E u l v → x v ≤ x u + wt l
  | [], u, v, hw => by cases hw; show x u ≤ x u + 0; omega
  | e :: l, u, v, hw => by
    have h1 := h e hw.1
    have h2 := h.walk hw.2.2
    have h3 := hw.2.1
    subst h3
    show x v ≤ x e.u + (e.w + wt l)
    omega
theorem Feas.round {x : Nat → Int} {E : List Ed} (h : Feas x E) {l : List Ed} {u : Nat} (hw : Wk E u l u) : 0 ≤ wt l := by
  have := h.walk hw; omega
/-- Where one is after so many bounds. -/
def vat (u : Nat) (l : List Ed) (i : Nat) : Nat := (u :: l.map Ed.v).getD i 0
theorem Wk.at {E : List Ed} : ∀ {l : List Ed} {u v : Nat} (i : Nat), Wk E u l v → i ≤ l.length → Wk E u (l.take i) (vat u l i) ∧ Wk E (vat u l i) (l.drop i) v
  | l, u, v, 0, h, _ => ⟨by rw [List.take_zero]; exact rfl, h⟩
  | e :: l, u, v, i + 1, h, hi => by
    obtain ⟨h1, h2⟩ := Wk.at i h.2.2 (by simpa using hi)
    exact ⟨⟨h.1, h.2.1, h1⟩, h2⟩
theorem Wk.cut {E : List Ed} {l : List Ed} {u v i j : Nat} (h : Wk E u l v) (hij : i < j) (hj : j ≤ l.length) (e : vat u l i = vat u l j) :
    ∃ a b c z, l = a ++ b ++ c ∧ a.length = i ∧ b.length = j - i ∧ Wk E u a z ∧ Wk E z b z ∧ Wk E z c v := by
  obtain ⟨h1, h2⟩ := Wk.at i h (by omega)
  obtain ⟨h3, h4⟩ := Wk.at j h hj
  have e2 : l.take j = l.take i ++ (l.drop i).take (j - i) := by
    rw [← List.take_append_drop i (l.take j), List.take_take, Nat.min_eq_left (by omega), List.drop_take]
  have h5 : Wk E u (l.take i ++ (l.drop i).take (j - i)) (vat u l j) := by rw [← e2]; exact h3
  obtain ⟨z, k1, k2⟩ := Wk.split h5
  have same : ∀ {a : List Ed} {u y z : Nat}, Wk E u a y → Wk E u a z → y = z := by
    intro a
    induction a with
    | nil => intro u y z h h'; cases h; exact h'
    | cons e a ih => intro u y z h h'; exact ih h.2.2 h'.2.2
  have hz := same k1 h1
  subst hz
  refine ⟨l.take i, (l.drop i).take (j - i), l.drop j, vat u l i, ?_, by rw [List.length_take]; omega, by rw [List.length_take, List.length_drop]; omega, h1, by rw [← e] at k2; exact k2, by rw [e]; exact h4⟩
  rw [← e2, List.take_append_drop]
theorem nodup_le : ∀ (n : Nat) (L : List Nat), L.Nodup → (∀ x ∈ L, x < n) → L.length ≤ n
  | 0, [], _, _ => Nat.le_refl _
  | 0, x :: _, _, h => absurd (h x (.head _)) (Nat.not_lt_zero _)
  | n + 1, L, hn, h => by
    by_cases hm : n ∈ L
    · have h1 := nodup_le n (L.erase n) (hn.erase n) fun x hx => by
        have h2 := (hn.mem_erase_iff).1 hx
        have := h x h2.2
        have := h2.1
        omega
      rw [List.length_erase_of_mem hm] at h1
      omega
    · have := nodup_le n L hn fun x hx => by
        have h1 := h x hx
        have : x ≠ n := fun e => hm (e ▸ hx)
        omega
      omega
theorem not_nodup {L : List Nat} (h : ¬ L.Nodup) : ∃ i j, i < j ∧ j < L.length ∧ L.getD i 0 = L.getD j 0 := by
  refine Classical.byContradiction fun hn => h ?_
  rw [List.Nodup, List.pairwise_iff_getElem]
  intro i j hi hj hij e
  exact hn ⟨i, j, hij, hj, by rw [List.getD_eq_getElem?_getD, List.getD_eq_getElem?_getD, List.getElem?_eq_getElem hi, List.getElem?_eq_getElem hj]; exact e⟩
/-- All bounds are between stations. -/
def Below (n : Nat) (E : List Ed) : Prop := ∀ e ∈ E, e.u < n ∧ e.v < n
theorem verts_lt {n : Nat} {E : List Ed} (hE : Below n E) {u v : Nat} {l : List Ed} (h : Wk E u l v) (hu : u < n) : ∀ x ∈ u :: l.map Ed.v, x < n := fun x hx => by
  rcases List.mem_cons.1 hx with rfl | hx
  · exact hu
  · obtain ⟨e, he, rfl⟩ := List.mem_map.1 hx
    exact (hE e (h.mem e he)).2
/-- Nothing that goes round is less than nothing. -/
def NoNeg (E : List Ed) : Prop := ∀ u l, Wk E u l u → 0 ≤ wt l
theorem Feas.noneg {x : Nat → Int} {E : List Ed} (h : Feas x E) : NoNeg E := fun _ _ hw => h.round hw
/-- A long way has a shorter one that is no greater, if nothing that goes round is less than nothing. -/
theorem shorten {n : Nat} {E : List Ed} (hE : Below n E) (hN : NoNeg E) : ∀ (k : Nat) {u v : Nat} {l : List Ed}, l.length = k → Wk E u l v → u < n → ∃ l', Wk E u l' v ∧ l'.length < n ∧ wt l' ≤ wt l := by
  intro k
  induction k using Nat.strongRecOn with
  | ind k ih =>
    intro u v l hk h hu
    by_cases hl : l.length < n
    · exact ⟨l, h, hl, Int.le_refl _⟩
    · have hnd : ¬ (u :: l.map Ed.v).Nodup := fun hn => by
        have := nodup_le n _ hn (verts_lt hE h hu)
        rw [List.length_cons, List.length_map] at this
        omega
      obtain ⟨i, j, hij, hj, e⟩ := not_nodup hnd
      rw [List.length_cons, List.length_map] at hj
      obtain ⟨a, b, c, z, rfl, ha, hb, k1, k2, k3⟩ := h.cut hij (by omega) e
      have hlen : (a ++ c).length < k := by
        rw [← hk, List.length_append, List.length_append, List.length_append]; omega
      obtain ⟨l', q1, q2, q3⟩ := ih _ hlen rfl (k1.app k3) hu
      refine ⟨l', q1, q2, Int.le_trans q3 ?_⟩
      have := hN z b k2
      rw [wt_app, wt_app, wt_app]
      omega
/-- What goes round and is less than nothing has a part that does, too, and passes no station twice. -/
theorem neg_simple {E : List Ed} : ∀ (k : Nat) {u : Nat} {l : List Ed}, l.length = k → Wk E u l u → wt l < 0 → ∃ z b, Wk E z b z ∧ wt b < 0 ∧ (b.map Ed.v).Nodup := by
  intro k
  induction k using Nat.strongRecOn with
  | ind k ih =>
    intro u l hk h hw
    by_cases hn : (l.map Ed.v).Nodup
    · exact ⟨u, l, h, hw, hn⟩
    · obtain ⟨i, j, hij, hj, e⟩ := not_nodup hn
      rw [List.length_map] at hj
      obtain ⟨a, b, c, z, rfl, ha, hb, k1, k2, k3⟩ := h.cut (i := i + 1) (j := j + 1) (by omega) (by omega) e
      by_cases hb0 : wt b < 0
      · exact ih b.length (by rw [← hk, List.length_append, List.length_append]; omega) rfl k2 hb0
      · refine ih (a ++ c).length (by rw [← hk, List.length_append, List.length_append, List.length_append]; omega) rfl (k1.app k3) ?_
        rw [wt_app, wt_app] at hw
        rw [wt_app]
        omega
end Go.ChaM

namespace Go.ChaM
/-- What is known so far of how far each station can be. -/
abbrev Mst := Nat → Option Int
def put (s : Mst) (v : Nat) (m : Int) : Mst := fun y => if y = v then some m else s y
theorem put_self (s : Mst) (v : Nat) (m : Int) : put s v m v = some m := if_pos rfl
theorem put_other (s : Mst) {v y : Nat} (m : Int) (h : y ≠ v) : put s v m y = s y := if_neg h
def rlx (s : Mst) (e : Ed) : Mst := match s e.u with
  | none => s
  | some n => match s e.v with
    | none => put s e.v (n + e.w)
    | some o => if n + e.w < o then put s e.v (n + e.w) else s
def Le (s s' : Mst) : Prop := ∀ v m, s v = some m → ∃ m', s' v = some m' ∧ m' ≤ m
theorem Le.refl (s : Mst) : Le s s := fun _ m h => ⟨m, h, Int.le_refl _⟩
theorem Le.trans {a b c : Mst} (h : Le a b) (h' : Le b c) : Le a c := fun v m hm =>
  let ⟨m1, h1, h2⟩ := h v m hm
  let ⟨m2, h3, h4⟩ := h' v m1 h1
  ⟨m2, h3, Int.le_trans h4 h2⟩
theorem rlx_cases (s : Mst) (e : Ed) : (s e.u = none ∧ rlx s e = s) ∨ ∃ n, s e.u = some n ∧ ((s e.v = none ∧ rlx s e = put s e.v (n + e.w)) ∨ ∃ o, s e.v = some o ∧ ((n + e.w < o ∧ rlx s e = put s e.v (n + e.w)) ∨ (¬ n + e.w < o ∧ rlx s e = s))) := by
  cases hu : s e.u with
  | none => exact .inl ⟨rfl, by simp only [rlx, hu]⟩
  | some n =>
    refine .inr ⟨n, rfl, ?_⟩
    cases hv : s e.v with
    | none => exact .inl ⟨rfl, by simp only [rlx, hu, hv]⟩
    | some o =>
      refine .inr ⟨o, rfl, ?_⟩
      by_cases h : n + e.w < o
      · exact .inl ⟨h, by simp only [rlx, hu, hv, if_pos h]⟩
      · exact .inr ⟨h, by simp only [rlx, hu, hv, if_neg h]⟩
theorem rlx_le (s : Mst) (e : Ed) : Le s (rlx s e) := by
  rcases rlx_cases s e with ⟨_, h⟩ | ⟨n, hu, ⟨hv, h⟩ | ⟨o, hv, ⟨hlt, h⟩ | ⟨_, h⟩⟩⟩
  · rw [h]; exact Le.refl s
  · rw [h]
    intro v m hm
    have hne : v ≠ e.v := fun h => by rw [h, hv] at hm; cases hm
    exact ⟨m, by rw [put_other _ _ hne]; exact hm, Int.le_refl _⟩
  · rw [h]
    intro v m hm
    by_cases he : v = e.v
    · subst he
      rw [hv] at hm; cases hm
      exact ⟨_, put_self _ _ _, by omega⟩
    · exact ⟨m, by rw [put_other _ _ he]; exact hm, Int.le_refl _⟩
  · rw [h]; exact Le.refl s
theorem rlx_edge {s : Mst} {e : Ed} {a : Int} (ha : s e.u = some a) : ∃ b, rlx s e e.v = some b ∧ b ≤ a + e.w := by
  rcases rlx_cases s e with ⟨h0, _⟩ | ⟨n, hu, ⟨hv, h⟩ | ⟨o, hv, ⟨hlt, h⟩ | ⟨hge, h⟩⟩⟩
  · rw [ha] at h0; cases h0
  · rw [ha] at hu; cases hu
    rw [h]; exact ⟨_, put_self _ _ _, Int.le_refl _⟩
  · rw [ha] at hu; cases hu
    rw [h]; exact ⟨_, put_self _ _ _, Int.le_refl _⟩
  · rw [ha] at hu; cases hu
    rw [h]; exact ⟨o, hv, by omega⟩
theorem rlx_sound {s : Mst} {e : Ed} {P : Nat → Int → Prop} (hs : ∀ v m, s v = some m → P v m) (hP : ∀ n, P e.u n → P e.v (n + e.w)) : ∀ v m, rlx s e v = some m → P v m := by
  have hput : ∀ {n}, s e.u = some n → ∀ v m, put s e.v (n + e.w) v = some m → P v m := fun {n} hn v m hm => by
    by_cases hv : v = e.v
    · subst hv; rw [put_self] at hm; cases hm; exact hP n (hs _ _ hn)
    · rw [put_other _ _ hv] at hm; exact hs v m hm
  rcases rlx_cases s e with ⟨_, h⟩ | ⟨n, hu, ⟨_, h⟩ | ⟨o, _, ⟨_, h⟩ | ⟨_, h⟩⟩⟩
  · rw [h]; exact hs
  · rw [h]; exact hput hu
  · rw [h]; exact hput hu
  · rw [h]; exact hs
def rnd (L : List Ed) (s : Mst) : Mst := L.foldl rlx s
theorem rnd_le : ∀ (L : List Ed) (s : Mst), Le s (rnd L s)
  | [], s => Le.refl s
  | e :: L, s => (rlx_le s e).trans (rnd_le L (rlx s e))
theorem rnd_edge : ∀ (L : List Ed) (s : Mst) {e : Ed} {a : Int}, e ∈ L → s e.u = some a → ∃ b, rnd L s e.v = some b ∧ b ≤ a + e.w
  | x :: L, s, e, a, he, h => by
    rcases List.mem_cons.1 he with rfl | he
    · obtain ⟨b, h1, h2⟩ := rlx_edge h
      obtain ⟨c, h3, h4⟩ := rnd_le L (rlx s e) _ _ h1
      exact ⟨c, h3, Int.le_trans h4 h2⟩
    · obtain ⟨a', h1, h2⟩ := rlx_le s x _ _ h
      obtain ⟨b, h3, h4⟩ := rnd_edge L (rlx s x) he h1
      exact ⟨b, h3, by omega⟩
theorem rnd_sound {P : Nat → Int → Prop} : ∀ (L : List Ed) (s : Mst), (∀ v m, s v = some m → P v m) → (∀ e ∈ L, ∀ n, P e.u n → P e.v (n + e.w)) → ∀ v m, rnd L s v = some m → P v m
  | [], _, h, _ => h
  | e :: L, s, h, hP => rnd_sound L (rlx s e) (rlx_sound h (hP e (.head _))) fun x hx => hP x (.tail _ hx)
def rnds (L : List Ed) (s : Mst) : Nat → Mst
  | 0 => s
  | k + 1 => rnd L (rnds L s k)
theorem rnds_le (L : List Ed) (s : Mst) : ∀ k, Le s (rnds L s k)
  | 0 => Le.refl s
  | k + 1 => (rnds_le L s k).trans (rnd_le L _)
theorem rnds_sound {P : Nat → Int → Prop} {L : List Ed} {s : Mst} (h : ∀ v m, s v = some m → P v m) (hP : ∀ e ∈ L, ∀ n, P e.u n → P e.v (n + e.w)) : ∀ k v m, rnds L s k v = some m → P v m
  | 0 => h
  | k + 1 => rnd_sound L _ (rnds_sound h hP k) hP
def s0 (src : Nat) : Mst := fun y => if y = src then some 0 else none
theorem bf_sound {E L : List Ed} {src : Nat} (hL : ∀ e ∈ L, e ∈ E) (k : Nat) : ∀ v m, rnds L (s0 src) k v = some m → ∃ l, Wk E src l v ∧ wt l = m := by
  refine rnds_sound (P := fun v m => ∃ l, Wk E src l v ∧ wt l = m) (fun v m hm => ?_) (fun e he n hn => ?_) k
  · unfold s0 at hm
    split at hm
    · rename_i h; cases hm; exact ⟨[], h.symm, rfl⟩
    · cases hm
  · obtain ⟨l, h1, h2⟩ := hn
    refine ⟨l ++ [e], h1.app ⟨hL e he, rfl, rfl⟩, ?_⟩
    rw [wt_app, h2]; show n + (e.w + 0) = n + e.w; omega
theorem bf_walk {E L : List Ed} {src : Nat} (hL : ∀ e ∈ E, e ∈ L) : ∀ (k : Nat) {l : List Ed} {v : Nat}, l.length ≤ k → Wk E src l v → ∃ b, rnds L (s0 src) k v = some b ∧ b ≤ wt l
  | k, [], v, _, h => by
    cases h
    obtain ⟨m, h1, h2⟩ := rnds_le L (s0 src) k src 0 (if_pos rfl)
    exact ⟨m, h1, h2⟩
  | 0, e :: l, v, hl, _ => by rw [List.length_cons] at hl; omega
  | k + 1, e :: l, v, hl, h => by
    rcases List.eq_nil_or_concat (e :: l) with h0 | ⟨l', x, h0⟩
    · cases h0
    · rw [h0] at hl h ⊢
      rw [List.concat_eq_append] at hl h ⊢
      obtain ⟨z, h1, h2⟩ := Wk.split h
      obtain ⟨h3, h4, h5⟩ := h2
      cases h5
      rw [List.length_append] at hl
      obtain ⟨b, k1, k2⟩ := bf_walk hL k (l := l') (by simp at hl; omega) h1
      subst h4
      obtain ⟨c, k3, k4⟩ := rnd_edge L _ (hL x h3) k1
      refine ⟨c, k3, ?_⟩
      rw [wt_app]; show c ≤ wt l' + (x.w + 0); omega
termination_by k => k
/-- The least that a way from one station to another one can be. -/
def Dst (E : List Ed) (u v : Nat) (m : Int) : Prop := (∃ l, Wk E u l v ∧ wt l = m) ∧ ∀ l, Wk E u l v → m ≤ wt l
theorem Dst.uniq {E : List Ed} {u v : Nat} {m m' : Int} (h : Dst E u v m) (h' : Dst E u v m') : m = m' := by
  obtain ⟨⟨l, h1, h2⟩, h3⟩ := h
  obtain ⟨⟨l', k1, k2⟩, k3⟩ := h'
  have := h3 l' k1
  have := k3 l h1
  omega
theorem Dst.same {E E' : List Ed} (hE : ∀ e, e ∈ E ↔ e ∈ E') {u v : Nat} {m : Int} (h : Dst E u v m) : Dst E' u v m :=
  let ⟨l, h1, h2⟩ := h.1
  ⟨⟨l, h1.mono fun e he => (hE e).1 he, h2⟩, fun l hl => h.2 l (hl.mono fun e he => (hE e).2 he)⟩
section
variable {n : Nat} {E L : List Ed} {src : Nat} (hE : Below n E) (hN : NoNeg E) (hL : ∀ e, e ∈ L ↔ e ∈ E) (hs : src < n)
include hE hN hL hs
theorem bf_all {l : List Ed} {v : Nat} (h : Wk E src l v) : ∃ b, rnds L (s0 src) n v = some b ∧ b ≤ wt l := by
  obtain ⟨l', h1, h2, h3⟩ := shorten hE hN _ rfl h hs
  obtain ⟨b, h4, h5⟩ := bf_walk (fun e he => (hL e).2 he) n (by omega) h1
  exact ⟨b, h4, Int.le_trans h5 h3⟩
theorem bf_dst {v : Nat} {m : Int} : rnds L (s0 src) n v = some m ↔ Dst E src v m := by
  have snd : ∀ {m : Int}, rnds L (s0 src) n v = some m → Dst E src v m := fun {m} h => by
    refine ⟨bf_sound (fun e he => (hL e).1 he) n v m h, fun l hl => ?_⟩
    obtain ⟨b, h1, h2⟩ := bf_all hE hN hL hs hl
    rw [h] at h1; cases h1; exact h2
  refine ⟨snd, fun h => ?_⟩
  obtain ⟨l, h1, _⟩ := h.1
  obtain ⟨b, h2, _⟩ := bf_all hE hN hL hs h1
  rw [h2, (snd h2).uniq h]
theorem bf_none {v : Nat} : rnds L (s0 src) n v = none ↔ ∀ l, ¬ Wk E src l v := by
  constructor
  · intro h l hl
    obtain ⟨b, h1, _⟩ := bf_all hE hN hL hs hl
    rw [h] at h1; cases h1
  · intro h
    cases e : rnds L (s0 src) n v with
    | none => rfl
    | some m =>
      obtain ⟨l, h1, _⟩ := bf_sound (fun e he => (hL e).1 he) n v m e
      exact absurd h1 (h l)
end
def mn : List Int → Int
  | [] => 0
  | x :: l => min x (mn l)
theorem mn_le : ∀ {l : List Int}, mn l ≤ 0 ∧ ∀ x ∈ l, mn l ≤ x
  | [] => ⟨Int.le_refl _, fun _ h => by cases h⟩
  | y :: l => by
    obtain ⟨h1, h2⟩ := mn_le (l := l)
    refine ⟨by show min y (mn l) ≤ 0; omega, fun x hx => ?_⟩
    show min y (mn l) ≤ x
    rcases List.mem_cons.1 hx with rfl | hx
    · omega
    · have := h2 x hx; omega
theorem mn_mem : ∀ (l : List Int), mn l = 0 ∨ mn l ∈ l
  | [] => .inl rfl
  | y :: l => by
    show min y (mn l) = 0 ∨ min y (mn l) ∈ y :: l
    by_cases h : y ≤ mn l
    · rw [Int.min_eq_left h]; exact .inr (.head _)
    · rw [Int.min_eq_right (by omega)]
      rcases mn_mem l with h1 | h1
      · exact .inl h1
      · exact .inr (.tail _ h1)
/-- Places: the least way to each station from any one. -/
def pot (n : Nat) (L : List Ed) (v : Nat) : Int := mn ((List.range n).filterMap fun s => rnds L (s0 s) n v)
theorem pot_feas {n : Nat} {E : List Ed} (hE : Below n E) (hN : NoNeg E) : Feas (pot n E) E := fun e he => by
  obtain ⟨hu, hv⟩ := hE e he
  have hL : ∀ x, x ∈ E ↔ x ∈ E := fun _ => Iff.rfl
  have key : ∀ s, s < n → ∀ l, Wk E s l e.u → pot n E e.v ≤ wt l + e.w := fun s hs l hl => by
    obtain ⟨b, h1, h2⟩ := bf_all hE hN hL hs (hl.app (b := [e]) (v := e.v) ⟨he, rfl, rfl⟩)
    have h3 := (mn_le (l := (List.range n).filterMap fun s => rnds E (s0 s) n e.v)).2 b (List.mem_filterMap.2 ⟨s, List.mem_range.2 hs, h1⟩)
    rw [wt_app] at h2
    have h4 : wt [e] = e.w := Int.add_zero _
    unfold pot
    omega
  rcases mn_mem ((List.range n).filterMap fun s => rnds E (s0 s) n e.u) with h | h
  · have h1 := key e.u hu [] rfl
    have h2 : pot n E e.u = 0 := h
    have h3 : wt [] = 0 := rfl
    omega
  · obtain ⟨s, hs, h1⟩ := List.mem_filterMap.1 h
    obtain ⟨l, h2, h3⟩ := bf_sound (fun x hx => hx) n _ _ h1
    have h4 := key s (List.mem_range.1 hs) l h2
    have h5 : pot n E e.u = wt l := h3.symm
    omega
theorem feas_iff {n : Nat} {E : List Ed} (hE : Below n E) : (∃ x, Feas x E) ↔ NoNeg E :=
  ⟨fun ⟨_, h⟩ => h.noneg, fun h => ⟨_, pot_feas hE h⟩⟩
end Go.ChaM

namespace Go.ChaM
structure SiD where
  (fr to el eh nl nh : Int)
structure ChD where
  n : Int
  si : List SiD
/-- The ends of a sight's span: to the east, or to the north. -/
def loA (a : Bool) (s : SiD) : Int := if a then s.nl else s.el
def hiA (a : Bool) (s : SiD) : Int := if a then s.nh else s.eh
structure SiOk (n : Int) (s : SiD) : Prop where
  f0 : 0 ≤ s.fr
  f1 : s.fr < n
  t0 : 0 ≤ s.to
  t1 : s.to < n
  ne : s.fr ≠ s.to
  l : ∀ a, -1073741824 ≤ loA a s
  m : ∀ a, loA a s ≤ hiA a s
  h : ∀ a, hiA a s ≤ 1073741824
structure ChOk (c : ChD) : Prop where
  n1 : 1 ≤ c.n
  n2 : c.n ≤ 8
  l : c.si.length ≤ 10
  s : ∀ s ∈ c.si, SiOk c.n s
def inC (n a b : Int) : Bool := decide (a ≤ n) && decide (n ≤ b)
def siB (n : Int) (s : SiD) : Bool := inC s.fr 0 (n - 1) && inC s.to 0 (n - 1) && !decide (s.fr = s.to) && (inC s.el (-1073741824) s.eh && decide (s.eh ≤ 1073741824)) && (inC s.nl (-1073741824) s.nh && decide (s.nh ≤ 1073741824))
def chB (c : ChD) : Bool := inC c.n 1 8 && decide (c.si.length ≤ 10) && c.si.all (siB c.n)
theorem siB_iff {n : Int} {s : SiD} : siB n s = true ↔ SiOk n s := by
  unfold siB inC
  simp only [Bool.and_eq_true, decide_eq_true_eq, Bool.not_eq_true', decide_eq_false_iff_not]
  constructor
  · rintro ⟨⟨⟨⟨⟨h1, h2⟩, h3, h4⟩, h5⟩, ⟨h6, h7⟩, h8⟩, ⟨h9, h10⟩, h11⟩
    exact ⟨h1, by omega, h3, by omega, h5, fun a => by cases a <;> assumption, fun a => by cases a <;> assumption, fun a => by cases a <;> assumption⟩
  · intro h
    have h1 := h.f1; have h2 := h.t1
    exact ⟨⟨⟨⟨⟨h.f0, by omega⟩, h.t0, by omega⟩, h.ne⟩, ⟨h.l false, h.m false⟩, h.h false⟩, ⟨h.l true, h.m true⟩, h.h true⟩
theorem chB_iff {c : ChD} : chB c = true ↔ ChOk c := by
  unfold chB inC
  simp only [Bool.and_eq_true, decide_eq_true_eq, List.all_eq_true]
  exact ⟨fun ⟨⟨⟨h1, h2⟩, h3⟩, h4⟩ => ⟨h1, h2, h3, fun s hs => siB_iff.1 (h4 s hs)⟩, fun h => ⟨⟨⟨h.n1, h.n2⟩, h.l⟩, fun s hs => siB_iff.2 (h.s s hs)⟩⟩
/-- What a sight bounds, from either end; the tag tells the sight, and the end. -/
def edF (a : Bool) (i : Nat) (s : SiD) : Ed := ⟨s.fr.toNat, s.to.toNat, hiA a s, 2 * i⟩
def edT (a : Bool) (i : Nat) (s : SiD) : Ed := ⟨s.to.toNat, s.fr.toNat, -loA a s, 2 * i + 1⟩
/-- What some sights bound. -/
def edE (c : ChD) (a : Bool) (S : Nat → Bool) : List Ed := (List.range c.si.length).flatMap fun i => if S i then (match c.si[i]? with | some s => [edF a i s, edT a i s] | none => []) else []
theorem edE_mem {c : ChD} {a : Bool} {S : Nat → Bool} {e : Ed} : e ∈ edE c a S ↔ ∃ i s, c.si[i]? = some s ∧ S i = true ∧ (e = edF a i s ∨ e = edT a i s) := by
  unfold edE
  rw [List.mem_flatMap]
  constructor
  · rintro ⟨i, _, h⟩
    split at h
    · rename_i hS
      cases hs : c.si[i]? with
      | none => rw [hs] at h; cases h
      | some s =>
        rw [hs] at h
        simp only [List.mem_cons, List.not_mem_nil, or_false] at h
        exact ⟨i, s, hs, hS, h⟩
    · cases h
  · rintro ⟨i, s, hs, hS, h⟩
    refine ⟨i, List.mem_range.2 (List.getElem?_eq_some_iff.1 hs).1, ?_⟩
    rw [if_pos hS, hs]
    simp only [List.mem_cons, List.not_mem_nil, or_false]
    exact h
theorem edE_below {c : ChD} (hO : ChOk c) (a : Bool) (S : Nat → Bool) : Below c.n.toNat (edE c a S) := fun e he => by
  obtain ⟨i, s, hs, _, h⟩ := edE_mem.1 he
  have ho := hO.s s (List.mem_of_getElem? hs)
  have h1 := ho.f0; have h2 := ho.f1; have h3 := ho.t0; have h4 := ho.t1
  rcases h with rfl | rfl
  · exact ⟨by show s.fr.toNat < _; omega, by show s.to.toNat < _; omega⟩
  · exact ⟨by show s.to.toNat < _; omega, by show s.fr.toNat < _; omega⟩
theorem edE_mono {c : ChD} {a : Bool} {S S' : Nat → Bool} (h : ∀ i, S i = true → S' i = true) : ∀ e ∈ edE c a S, e ∈ edE c a S' := fun e he => by
  obtain ⟨i, s, hs, hS, h1⟩ := edE_mem.1 he
  exact edE_mem.2 ⟨i, s, hs, h i hS, h1⟩
/-- A sight is right: its far end lies within its span, seen from its near end. -/
def Right (a : Bool) (x : Nat → Int) (s : SiD) : Prop := loA a s ≤ x s.to.toNat - x s.fr.toNat ∧ x s.to.toNat - x s.fr.toNat ≤ hiA a s
theorem feas_E {c : ChD} {a : Bool} {S : Nat → Bool} {x : Nat → Int} : Feas x (edE c a S) ↔ ∀ i s, c.si[i]? = some s → S i = true → Right a x s := by
  constructor
  · intro h i s hs hS
    have h1 := h _ (edE_mem.2 ⟨i, s, hs, hS, .inl rfl⟩)
    have h2 := h _ (edE_mem.2 ⟨i, s, hs, hS, .inr rfl⟩)
    replace h1 : x s.to.toNat ≤ x s.fr.toNat + hiA a s := h1
    replace h2 : x s.fr.toNat ≤ x s.to.toNat + -loA a s := h2
    exact ⟨by omega, by omega⟩
  · intro h e he
    obtain ⟨i, s, hs, hS, h1⟩ := edE_mem.1 he
    obtain ⟨h2, h3⟩ := h i s hs hS
    rcases h1 with rfl | rfl
    · show x s.to.toNat ≤ x s.fr.toNat + hiA a s; omega
    · show x s.fr.toNat ≤ x s.to.toNat + -loA a s; omega
/-- Some sights can all be right. -/
def Can (c : ChD) (S : Nat → Bool) : Prop := ∀ a, NoNeg (edE c a S)
theorem can_iff {c : ChD} (hO : ChOk c) {S : Nat → Bool} : Can c S ↔ ∀ a, ∃ x, ∀ i s, c.si[i]? = some s → S i = true → Right a x s := by
  constructor
  · intro h a
    obtain ⟨x, hx⟩ := (feas_iff (edE_below hO a S)).2 (h a)
    exact ⟨x, feas_E.1 hx⟩
  · intro h a
    obtain ⟨x, hx⟩ := h a
    exact (feas_E.2 hx).noneg
theorem Can.less {c : ChD} {S S' : Nat → Bool} (h : Can c S') (hS : ∀ i, S i = true → S' i = true) : Can c S := fun a u l hl => h a u l (hl.mono (edE_mono hS))
/-- A sight that is looked at from one end. -/
structure LkD where
  (i to : Nat)
  back : Bool
def lkOf (u i : Nat) (s : SiD) : List LkD := if s.fr = (u : Int) then [⟨i, s.to.toNat, false⟩] else if s.to = (u : Int) then [⟨i, s.fr.toNat, true⟩] else []
/-- The sights of a station, in their order. -/
def lkT (c : ChD) (u : Nat) : Nat → List LkD
  | 0 => []
  | i + 1 => lkT c u i ++ (match c.si[i]? with | some s => lkOf u i s | none => [])
def lks (c : ChD) (u : Nat) : List LkD := lkT c u c.si.length
theorem lkT_mem {c : ChD} {u : Nat} {l : LkD} : ∀ {n : Nat}, l ∈ lkT c u n ↔ ∃ s, l.i < n ∧ c.si[l.i]? = some s ∧ l ∈ lkOf u l.i s
  | 0 => by simp [lkT]
  | n + 1 => by
    have own : ∀ {i : Nat} {s : SiD}, l ∈ lkOf u i s → l.i = i := fun {i s} h => by
      unfold lkOf at h
      split at h
      · rw [List.mem_singleton.1 h]
      · split at h
        · rw [List.mem_singleton.1 h]
        · cases h
    rw [lkT, List.mem_append, lkT_mem]
    constructor
    · rintro (⟨s, h1, h2, h3⟩ | h)
      · exact ⟨s, by omega, h2, h3⟩
      · cases hs : c.si[n]? with
        | none => rw [hs] at h; cases h
        | some s =>
          rw [hs] at h
          have e := own h
          exact ⟨s, by omega, by rw [e]; exact hs, by rw [e]; exact h⟩
    · rintro ⟨s, h1, h2, h3⟩
      by_cases e : l.i = n
      · right
        rw [← e, h2]; exact h3
      · exact .inl ⟨s, by omega, h2, h3⟩
theorem lks_mem {c : ChD} {u : Nat} {l : LkD} : l ∈ lks c u ↔ ∃ s, c.si[l.i]? = some s ∧ l ∈ lkOf u l.i s := by
  unfold lks
  rw [lkT_mem]
  exact ⟨fun ⟨s, _, h2, h3⟩ => ⟨s, h2, h3⟩, fun ⟨s, h2, h3⟩ => ⟨s, (List.getElem?_eq_some_iff.1 h2).1, h2, h3⟩⟩
/-- The ends of a look's span. -/
def lkH (c : ChD) (a : Bool) (l : LkD) : Int := match c.si[l.i]? with | some s => if l.back then -loA a s else hiA a s | none => 0
def lkL (c : ChD) (a : Bool) (l : LkD) : Int := match c.si[l.i]? with | some s => if l.back then -hiA a s else loA a s | none => 0
def lkE (c : ChD) (a : Bool) (u : Nat) (l : LkD) : Ed := ⟨u, l.to, lkH c a l, 2 * l.i + if l.back then 1 else 0⟩
/-- All bounds, in the order in which they are gone through; some sights are left out. -/
def edL (c : ChD) (a : Bool) (out : Nat → Bool) : List Ed := (List.range c.n.toNat).flatMap fun u => ((lks c u).filter fun l => !out l.i).map (lkE c a u)
theorem lk_ed {c : ChD} {a : Bool} {u : Nat} {l : LkD} {s : SiD} (hs : c.si[l.i]? = some s) (h : l ∈ lkOf u l.i s) : (lkE c a u l = edF a l.i s ∧ s.fr = (u : Int) ∧ l.back = false) ∨ (lkE c a u l = edT a l.i s ∧ s.to = (u : Int) ∧ l.back = true) := by
  unfold lkOf at h
  split at h
  · rename_i hu
    have e := List.mem_singleton.1 h
    have e1 : l.to = s.to.toNat := by rw [e]
    have e2 : l.back = false := by rw [e]
    refine .inl ⟨?_, hu, e2⟩
    unfold lkE lkH edF
    rw [hs, e1, e2, hu]
    simp
  · split at h
    · rename_i hu
      have e := List.mem_singleton.1 h
      have e1 : l.to = s.fr.toNat := by rw [e]
      have e2 : l.back = true := by rw [e]
      refine .inr ⟨?_, hu, e2⟩
      unfold lkE lkH edT
      rw [hs, e1, e2, hu]
      simp
    · cases h
theorem edL_mem {c : ChD} (hO : ChOk c) {a : Bool} {out : Nat → Bool} {e : Ed} : e ∈ edL c a out ↔ e ∈ edE c a (fun i => !out i) := by
  unfold edL
  rw [List.mem_flatMap, edE_mem]
  constructor
  · rintro ⟨u, _, h⟩
    obtain ⟨l, hl, rfl⟩ := List.mem_map.1 h
    obtain ⟨h1, h2⟩ := List.mem_filter.1 hl
    obtain ⟨s, hs, h3⟩ := lks_mem.1 h1
    refine ⟨l.i, s, hs, h2, ?_⟩
    rcases lk_ed (a := a) hs h3 with ⟨h, _⟩ | ⟨h, _⟩
    · exact .inl h
    · exact .inr h
  · rintro ⟨i, s, hs, hS, h⟩
    have ho := hO.s s (List.mem_of_getElem? hs)
    have h1 := ho.f0; have h2 := ho.f1; have h3 := ho.t0; have h4 := ho.t1; have h5 := ho.ne
    rcases h with rfl | rfl
    · refine ⟨s.fr.toNat, List.mem_range.2 (by omega), List.mem_map.2 ⟨⟨i, s.to.toNat, false⟩, List.mem_filter.2 ⟨lks_mem.2 ⟨s, hs, ?_⟩, hS⟩, ?_⟩⟩
      · unfold lkOf; rw [if_pos (by omega)]; exact .head _
      · unfold lkE lkH edF; simp only [hs]; rfl
    · refine ⟨s.to.toNat, List.mem_range.2 (by omega), List.mem_map.2 ⟨⟨i, s.fr.toNat, true⟩, List.mem_filter.2 ⟨lks_mem.2 ⟨s, hs, ?_⟩, hS⟩, ?_⟩⟩
      · unfold lkOf; rw [if_neg (by omega), if_pos (by omega)]; exact .head _
      · unfold lkE lkH edT; simp only [hs]; rfl
end Go.ChaM

namespace Go.ChaM
/-- All circles from a station on, past some, by a way so far. -/
def cirN (c : ChD) (b : Nat) : Nat → Nat → Nat → List LkD → List (List LkD)
  | 0, _, _, _ => []
  | f + 1, at_, ps, way => (lks c at_).flatMap fun l => if l.to < b ∨ way.any (fun o => decide (o.i = l.i)) = true then [] else if l.to = b then [way ++ [l]] else if ps.testBit l.to = true then [] else cirN c b f l.to (ps ||| 2 ^ l.to) (way ++ [l])
def Cir (c : ChD) (b : Nat) : Nat → Nat → List LkD → List LkD → Prop
  | _, _, _, [] => False
  | at_, ps, way, l :: tl => l ∈ lks c at_ ∧ b ≤ l.to ∧ (∀ o ∈ way, o.i ≠ l.i) ∧ ((l.to = b ∧ tl = []) ∨ (l.to ≠ b ∧ ps.testBit l.to = false ∧ Cir c b l.to (ps ||| 2 ^ l.to) (way ++ [l]) tl))
theorem cirN_mem {c : ChD} {b : Nat} : ∀ {f at_ ps : Nat} {way w : List LkD}, w ∈ cirN c b f at_ ps way ↔ ∃ tl, tl.length ≤ f ∧ w = way ++ tl ∧ Cir c b at_ ps way tl
  | 0, at_, ps, way, w => by
    constructor
    · intro h; cases h
    · rintro ⟨tl, h1, _, h3⟩
      have e : tl = [] := List.eq_nil_of_length_eq_zero (by omega)
      rw [e] at h3
      exact h3.elim
  | f + 1, at_, ps, way, w => by
    rw [cirN, List.mem_flatMap]
    constructor
    · rintro ⟨l, hl, h⟩
      split at h
      · cases h
      · rename_i hn
        have h1 : b ≤ l.to := by
          refine Decidable.byContradiction fun h => hn (.inl (by omega))
        have h2 : ∀ o ∈ way, o.i ≠ l.i := fun o ho e => hn (.inr (List.any_eq_true.2 ⟨o, ho, decide_eq_true e⟩))
        split at h
        · rename_i hb
          exact ⟨[l], by simp, List.mem_singleton.1 h, hl, h1, h2, .inl ⟨hb, rfl⟩⟩
        · rename_i hb
          split at h
          · cases h
          · rename_i hp
            obtain ⟨tl, k1, k2, k3⟩ := cirN_mem.1 h
            exact ⟨l :: tl, by simp; omega, by rw [k2]; simp, hl, h1, h2, .inr ⟨hb, by simpa using hp, k3⟩⟩
    · rintro ⟨tl, h1, h2, h3⟩
      cases tl with
      | nil => exact h3.elim
      | cons l tl =>
        obtain ⟨k1, k2, k3, k4⟩ := h3
        refine ⟨l, k1, ?_⟩
        rw [if_neg (by
          rintro (h | h)
          · omega
          · obtain ⟨o, ho, e⟩ := List.any_eq_true.1 h
            exact k3 o ho (of_decide_eq_true e))]
        rcases k4 with ⟨hb, rfl⟩ | ⟨hb, hp, hc⟩
        · rw [if_pos hb, h2]; exact .head _
        · rw [if_neg hb, if_neg (by rw [hp]; decide)]
          exact cirN_mem.2 ⟨tl, by rw [List.length_cons] at h1; omega, by rw [h2]; simp, hc⟩
/-- All circles of a chart, in the order in which they are looked for. -/
def cirL (c : ChD) : List (List LkD) := (List.range c.n.toNat).flatMap fun b => cirN c b c.n.toNat b (2 ^ b) []
/-- Looks, one after the other. -/
def LkC (c : ChD) : Nat → List LkD → Nat → Prop
  | u, [], v => u = v
  | u, l :: w, v => l ∈ lks c u ∧ LkC c l.to w v
theorem cir_chain {c : ChD} {b : Nat} : ∀ {tl way : List LkD} {at_ ps : Nat}, Cir c b at_ ps way tl → LkC c at_ tl b
  | _ :: _, _, _, _, h => by
    obtain ⟨k1, _, _, k4⟩ := h
    refine ⟨k1, ?_⟩
    rcases k4 with ⟨hb, rfl⟩ | ⟨_, _, hc⟩
    · exact hb
    · exact cir_chain hc
def sumH (c : ChD) (a : Bool) : List LkD → Int
  | [] => 0
  | l :: w => lkH c a l + sumH c a w
def sumL (c : ChD) (a : Bool) : List LkD → Int
  | [] => 0
  | l :: w => lkL c a l + sumL c a w
theorem chain_ends {c : ChD} (hO : ChOk c) {a : Bool} {x : Nat → Int} {S : Nat → Bool} (hx : ∀ i s, c.si[i]? = some s → S i = true → Right a x s) : ∀ {w : List LkD} {u v : Nat}, (∀ l ∈ w, S l.i = true) → LkC c u w v → sumL c a w ≤ x v - x u ∧ x v - x u ≤ sumH c a w
  | [], u, v, _, h => by cases h; exact ⟨by show (0 : Int) ≤ _; omega, by show _ ≤ (0 : Int); omega⟩
  | l :: w, u, v, hS, h => by
    obtain ⟨h1, h2⟩ := chain_ends hO hx (fun l hl => hS l (.tail _ hl)) h.2
    obtain ⟨s, hs, hl⟩ := lks_mem.1 h.1
    obtain ⟨r1, r2⟩ := hx l.i s hs (hS l (.head _))
    have ho := hO.s s (List.mem_of_getElem? hs)
    show lkL c a l + sumL c a w ≤ _ ∧ _ ≤ lkH c a l + sumH c a w
    unfold lkOf at hl
    split at hl
    · rename_i hu
      have e := List.mem_singleton.1 hl
      have e1 : l.to = s.to.toNat := by rw [e]
      have e2 : l.back = false := by rw [e]
      have e3 : s.fr.toNat = u := by rw [hu]; rfl
      rw [e1] at h1 h2
      rw [e3] at r1 r2
      unfold lkL lkH
      rw [hs, e2]
      dsimp only
      simp only [Bool.false_eq_true, if_false]
      omega
    · split at hl
      · rename_i hu
        have e := List.mem_singleton.1 hl
        have e1 : l.to = s.fr.toNat := by rw [e]
        have e2 : l.back = true := by rw [e]
        have e3 : s.to.toNat = u := by rw [hu]; rfl
        rw [e1] at h1 h2
        rw [e3] at r1 r2
        unfold lkL lkH
        rw [hs, e2]
        dsimp only
        simp only [if_true]
        omega
      · cases hl
/-- A circle that cannot be right: it does not come back. -/
def badW (c : ChD) (a : Bool) (w : List LkD) : Bool := decide (0 < sumL c a w) || decide (sumH c a w < 0)
theorem bad_can {c : ChD} (hO : ChOk c) {S : Nat → Bool} (hC : Can c S) {w : List LkD} (hw : w ∈ cirL c) (hS : ∀ l ∈ w, S l.i = true) (a : Bool) : badW c a w = false := by
  obtain ⟨x, hx⟩ := (can_iff hO).1 hC a
  obtain ⟨b, _, h⟩ := List.mem_flatMap.1 hw
  obtain ⟨tl, _, h2, h3⟩ := cirN_mem.1 h
  rw [List.nil_append] at h2
  subst h2
  obtain ⟨h4, h5⟩ := chain_ends hO hx hS (cir_chain h3)
  unfold badW
  rw [decide_eq_false (by omega), decide_eq_false (by omega)]; rfl
/-- Round and less than nothing: told from its least station on. -/
theorem neg_round {E : List Ed} (h : ¬ NoNeg E) : ∃ m L, Wk E m L m ∧ wt L < 0 ∧ (L.map Ed.v).Nodup ∧ (∀ e ∈ L, m ≤ e.v) := by
  have h1 : ∃ u l, Wk E u l u ∧ wt l < 0 := by
    refine Classical.byContradiction fun hn => h fun u l hl => ?_
    refine Decidable.byContradiction fun hw => hn ⟨u, l, hl, by omega⟩
  obtain ⟨u, l, hl, hw⟩ := h1
  obtain ⟨z, b, k1, k2, k3⟩ := neg_simple _ rfl hl hw
  have hmin : ∀ (b : List Ed), b ≠ [] → ∃ p e q, b = p ++ e :: q ∧ ∀ x ∈ b, e.v ≤ x.v := by
    intro b
    induction b with
    | nil => intro h; exact absurd rfl h
    | cons y b ih =>
      intro _
      by_cases hb : b = []
      · subst hb
        exact ⟨[], y, [], rfl, fun x hx => by rw [List.mem_singleton.1 hx]; exact Nat.le_refl _⟩
      · obtain ⟨p, e, q, e1, e2⟩ := ih hb
        by_cases hle : y.v ≤ e.v
        · exact ⟨[], y, b, rfl, fun x hx => by
            rcases List.mem_cons.1 hx with rfl | hx
            · exact Nat.le_refl _
            · exact Nat.le_trans hle (e2 x hx)⟩
        · exact ⟨y :: p, e, q, by rw [e1]; rfl, fun x hx => by
            rcases List.mem_cons.1 hx with rfl | hx
            · omega
            · exact e2 x hx⟩
  obtain ⟨p, e, q, rfl, hm⟩ := hmin b (fun h => by rw [h] at k2; exact absurd k2 (Int.lt_irrefl 0))
  obtain ⟨y, q1, q2⟩ := Wk.split k1
  obtain ⟨q3, q4, q5⟩ := q2
  have hperm : (q ++ (p ++ [e])).Perm (p ++ e :: q) := by
    refine List.perm_append_comm.trans ?_
    rw [List.append_assoc]; exact .refl _
  refine ⟨e.v, q ++ (p ++ [e]), q5.app (q1.app (b := [e]) ⟨q3, q4, rfl⟩), ?_, (hperm.map Ed.v).nodup_iff.2 k3, fun x hx => hm x (hperm.mem_iff.1 hx)⟩
  rw [wt_app] at k2
  rw [wt_app, wt_app]
  have h1 : wt (e :: q) = e.w + wt q := rfl
  have h2 : wt [e] = e.w + 0 := rfl
  omega
end Go.ChaM

namespace Go.ChaM
def toL (e : Ed) : LkD := ⟨e.t / 2, e.v, decide (e.t % 2 = 1)⟩
theorem toL_ok {c : ChD} (hO : ChOk c) {a : Bool} {S : Nat → Bool} {e : Ed} (he : e ∈ edE c a S) : toL e ∈ lks c e.u ∧ lkH c a (toL e) = e.w ∧ S (e.t / 2) = true := by
  obtain ⟨i, s, hs, hS, h⟩ := edE_mem.1 he
  have ho := hO.s s (List.mem_of_getElem? hs)
  have h1 := ho.f0; have h3 := ho.t0; have h5 := ho.ne
  rcases h with rfl | rfl
  · have e1 : toL (edF a i s) = ⟨i, s.to.toNat, false⟩ := by
      show (⟨2 * i / 2, s.to.toNat, decide (2 * i % 2 = 1)⟩ : LkD) = _
      rw [show 2 * i / 2 = i by omega, decide_eq_false (by omega)]
    have e2 : (edF a i s).t / 2 = i := by show 2 * i / 2 = i; omega
    rw [e1, e2]
    refine ⟨lks_mem.2 ⟨s, hs, ?_⟩, ?_, hS⟩
    · show _ ∈ lkOf s.fr.toNat i s
      unfold lkOf; rw [if_pos (by omega)]; exact .head _
    · unfold lkH; simp only [hs]; rfl
  · have e1 : toL (edT a i s) = ⟨i, s.fr.toNat, true⟩ := by
      show (⟨(2 * i + 1) / 2, s.fr.toNat, decide ((2 * i + 1) % 2 = 1)⟩ : LkD) = _
      rw [show (2 * i + 1) / 2 = i by omega, decide_eq_true (by omega)]
    have e2 : (edT a i s).t / 2 = i := by show (2 * i + 1) / 2 = i; omega
    rw [e1, e2]
    refine ⟨lks_mem.2 ⟨s, hs, ?_⟩, ?_, hS⟩
    · show _ ∈ lkOf s.to.toNat i s
      unfold lkOf; rw [if_neg (by omega), if_pos (by omega)]; exact .head _
    · unfold lkH; simp only [hs]; rfl
theorem wk_get {E : List Ed} : ∀ {L : List Ed} {u v i : Nat} {e : Ed}, Wk E u L v → L[i]? = some e → e.u = vat u L i ∧ e.v = vat u L (i + 1)
  | x :: L, u, v, 0, e, h, he => by
    cases he
    exact ⟨h.2.1, rfl⟩
  | x :: L, u, v, i + 1, e, h, he => wk_get (u := x.v) h.2.2 he
theorem wk_end {E : List Ed} : ∀ {L : List Ed} {u v : Nat}, Wk E u L v → vat u L L.length = v
  | [], _, _, h => h
  | x :: L, u, v, h => wk_end (u := x.v) h.2.2
theorem wk_last {E : List Ed} : ∀ {L : List Ed} {u v : Nat}, Wk E u L v → L ≠ [] → v ∈ L.map Ed.v
  | [x], u, v, h, _ => by
    have h1 : x.v = v := h.2.2
    rw [← h1]; exact .head _
  | x :: y :: L, u, v, h, _ => .tail _ (wk_last h.2.2 (by simp))
theorem getD_inj {L : List Nat} (hn : L.Nodup) {p q : Nat} (hp : p < L.length) (hq : q < L.length) (e : L.getD p 0 = L.getD q 0) : p = q := by
  rw [List.Nodup, List.pairwise_iff_getElem] at hn
  rw [List.getD_eq_getElem?_getD, List.getD_eq_getElem?_getD, List.getElem?_eq_getElem hp, List.getElem?_eq_getElem hq] at e
  rcases Nat.lt_trichotomy p q with h | h | h
  · exact absurd e (hn p q hp hq h)
  · exact h
  · exact absurd e.symm (hn q p hq hp h)
theorem vat_inj {u : Nat} {L : List Ed} (hn : (L.map Ed.v).Nodup) {p q : Nat} (hp : p < L.length) (hq : q < L.length) (e : vat u L (p + 1) = vat u L (q + 1)) : p = q :=
  getD_inj hn (by rw [List.length_map]; exact hp) (by rw [List.length_map]; exact hq) e
theorem sights_nodup {c : ChD} (hO : ChOk c) {a : Bool} {S : Nat → Bool} {m : Nat} {L : List Ed} (h : Wk (edE c a S) m L m) (hw : wt L < 0) (hn : (L.map Ed.v).Nodup) : (L.map fun e => e.t / 2).Nodup := by
  refine Decidable.byContradiction fun hnd => ?_
  obtain ⟨i, j, hij, hj, e⟩ := not_nodup hnd
  rw [List.length_map] at hj
  have gi : L[i]? = some L[i] := List.getElem?_eq_getElem (by omega)
  have gj : L[j]? = some L[j] := List.getElem?_eq_getElem hj
  obtain ⟨x, hx⟩ : ∃ x, x = L[i] := ⟨_, rfl⟩
  obtain ⟨y, hy⟩ : ∃ y, y = L[j] := ⟨_, rfl⟩
  rw [← hx] at gi
  rw [← hy] at gj
  have et : x.t / 2 = y.t / 2 := by
    rw [List.getD_eq_getElem?_getD, List.getD_eq_getElem?_getD, List.getElem?_map, List.getElem?_map, gi, gj] at e
    exact e
  obtain ⟨x1, x2⟩ := wk_get h gi
  obtain ⟨y1, y2⟩ := wk_get h gj
  have hxm := h.mem x (List.mem_of_getElem? gi)
  have hym := h.mem y (List.mem_of_getElem? gj)
  have hend := wk_end h
  have opp : x.v = y.u → y.v = x.u → 0 ≤ x.w + y.w → False := fun o1 o2 o3 => by
    rw [x2, y1] at o1
    rw [y2, x1] at o2
    obtain ⟨j', rfl⟩ : ∃ j', j = j' + 1 := ⟨j - 1, by omega⟩
    have hij2 := vat_inj hn (by omega) (by omega) o1
    subst hij2
    cases i with
    | succ i =>
      have := vat_inj hn (p := i + 1 + 1) (q := i) hj (by omega) o2
      omega
    | zero =>
      have o4 : vat m L (0 + 1 + 1) = vat m L L.length := by rw [o2, hend]; rfl
      obtain ⟨k, hk⟩ : ∃ k, L.length = k + 1 := ⟨L.length - 1, by omega⟩
      rw [hk] at o4
      have := vat_inj hn (p := 0 + 1) (q := k) (by omega) (by omega) o4
      have hl : L.length = 2 := by omega
      match L, hl with
      | [p, q], _ =>
        cases gi; cases gj
        have : wt [x, y] = x.w + (y.w + 0) := rfl
        omega
  obtain ⟨i0, s, hs, _, hc⟩ := edE_mem.1 hxm
  obtain ⟨i1, s', hs', _, hc'⟩ := edE_mem.1 hym
  have same : i0 = i1 → s = s' := fun e => by rw [e, hs'] at hs; exact (Option.some.inj hs).symm
  have hv : x.v ≠ y.v := fun e => by
    rw [x2, y2] at e
    have := vat_inj hn (by omega) (by omega) e
    omega
  have lo := fun a => (hO.s s (List.mem_of_getElem? hs)).m a
  rcases hc with rfl | rfl <;> rcases hc' with rfl | rfl
  · have e3 : i0 = i1 := by replace et : 2 * i0 / 2 = 2 * i1 / 2 := et; omega
    have e4 := same e3
    exact hv (by rw [e4]; rfl)
  · have e3 : i0 = i1 := by replace et : 2 * i0 / 2 = (2 * i1 + 1) / 2 := et; omega
    have e4 := same e3
    subst e4
    refine opp rfl rfl ?_
    have := lo a
    show 0 ≤ hiA a s + -loA a s; omega
  · have e3 : i0 = i1 := by replace et : (2 * i0 + 1) / 2 = 2 * i1 / 2 := et; omega
    have e4 := same e3
    subst e4
    refine opp rfl rfl ?_
    have := lo a
    show 0 ≤ -loA a s + hiA a s; omega
  · have e3 : i0 = i1 := by replace et : (2 * i0 + 1) / 2 = (2 * i1 + 1) / 2 := et; omega
    have e4 := same e3
    exact hv (by rw [e4]; rfl)
theorem cir_of {c : ChD} (hO : ChOk c) {a : Bool} {S : Nat → Bool} {m : Nat} : ∀ {tl : List Ed} {at_ ps : Nat} {way : List LkD}, Wk (edE c a S) at_ tl m → tl ≠ [] → (tl.map Ed.v).Nodup → (∀ e ∈ tl, m ≤ e.v) → (∀ e ∈ tl, e.v ≠ m → ps.testBit e.v = false) →
    (tl.map fun e => e.t / 2).Nodup → (∀ o ∈ way, ∀ e ∈ tl, o.i ≠ e.t / 2) → Cir c m at_ ps way (tl.map toL)
  | e :: tl, at_, ps, way, h, _, hn, hm, hp, ht, hw => by
    obtain ⟨h1, h2, h3⟩ := h
    subst h2
    obtain ⟨k1, _, _⟩ := toL_ok hO h1
    rw [List.map_cons, List.nodup_cons] at hn ht
    refine ⟨k1, hm e (.head _), fun o ho => hw o ho e (.head _), ?_⟩
    by_cases hv : e.v = m
    · left
      refine ⟨hv, ?_⟩
      cases tl with
      | nil => rfl
      | cons x tl =>
        refine absurd ?_ hn.1
        rw [hv]
        exact wk_last h3 (by simp)
    · right
      have hne : tl ≠ [] := fun e0 => by rw [e0] at h3; exact hv h3
      refine ⟨hv, hp e (.head _) hv, cir_of hO h3 hne hn.2 (fun x hx => hm x (.tail _ hx)) (fun x hx hxm => ?_) ht.2 (fun o ho x hx => ?_)⟩
      · have h4 : e.v ≠ x.v := fun e4 => hn.1 (by rw [e4]; exact List.mem_map.2 ⟨x, hx, rfl⟩)
        have h5 : (toL e).to = e.v := rfl
        rw [h5, Nat.testBit_or, hp x (.tail _ hx) hxm, Nat.testBit_two_pow, decide_eq_false h4]; rfl
      · rcases List.mem_append.1 ho with ho | ho
        · exact hw o ho x (.tail _ hx)
        · rw [List.mem_singleton.1 ho]
          intro e4
          exact ht.1 (List.mem_map.2 ⟨x, hx, e4.symm⟩)
theorem sum_toL {c : ChD} (hO : ChOk c) {a : Bool} {S : Nat → Bool} : ∀ {L : List Ed}, (∀ e ∈ L, e ∈ edE c a S) → sumH c a (L.map toL) = wt L
  | [], _ => rfl
  | e :: L, h => by
    rw [List.map_cons, sumH, (toL_ok hO (h e (.head _))).2.1, sum_toL hO fun x hx => h x (.tail _ hx)]; rfl
theorem bad_of {c : ChD} (hO : ChOk c) {S : Nat → Bool} (hC : ¬ Can c S) : ∃ w a, w ∈ cirL c ∧ badW c a w = true ∧ ∀ l ∈ w, S l.i = true := by
  have h1 : ∃ a, ¬ NoNeg (edE c a S) := Classical.byContradiction fun hn => hC fun a => Classical.byContradiction fun h => hn ⟨a, h⟩
  obtain ⟨a, ha⟩ := h1
  obtain ⟨m, L, k1, k2, k3, k4⟩ := neg_round ha
  have hne : L ≠ [] := fun e => by rw [e] at k2; exact absurd k2 (Int.lt_irrefl 0)
  have hB := edE_below hO a S
  have hmL := wk_last k1 hne
  obtain ⟨y, hy, hym⟩ := List.mem_map.1 hmL
  have hmn : m < c.n.toNat := by rw [← hym]; exact (hB y (k1.mem y hy)).2
  have hlen : L.length ≤ c.n.toNat := by
    have := nodup_le c.n.toNat _ k3 fun x hx => by
      obtain ⟨e, he, rfl⟩ := List.mem_map.1 hx
      exact (hB e (k1.mem e he)).2
    rwa [List.length_map] at this
  refine ⟨L.map toL, a, List.mem_flatMap.2 ⟨m, List.mem_range.2 hmn, cirN_mem.2 ⟨L.map toL, by rw [List.length_map]; exact hlen, rfl, ?_⟩⟩, ?_, fun l hl => ?_⟩
  · refine cir_of hO k1 hne k3 k4 (fun e _ he => ?_) (sights_nodup hO k1 k2 k3) (fun o ho => by cases ho)
    rw [Nat.testBit_two_pow, decide_eq_false (fun h => he h.symm)]
  · unfold badW
    rw [sum_toL hO fun e he => k1.mem e he, decide_eq_true k2, Bool.or_true]
  · obtain ⟨e, he, rfl⟩ := List.mem_map.1 hl
    exact (toL_ok hO (k1.mem e he)).2.2
/-- Some sights can all be right just if each circle among them can. -/
theorem can_cir {c : ChD} (hO : ChOk c) {S : Nat → Bool} : Can c S ↔ ∀ w ∈ cirL c, ∀ a, badW c a w = true → ∃ l ∈ w, S l.i = false := by
  constructor
  · intro h w hw a hb
    refine Classical.byContradiction fun hn => ?_
    have := bad_can hO h hw (fun l hl => by
      cases e : S l.i with
      | true => rfl
      | false => exact absurd ⟨l, hl, e⟩ hn) a
    rw [hb] at this; cases this
  · intro h
    refine Classical.byContradiction fun hn => ?_
    obtain ⟨w, a, h1, h2, h3⟩ := bad_of hO hn
    obtain ⟨l, hl, e⟩ := h w h1 a h2
    rw [h3 l hl] at e; cases e
end Go.ChaM

namespace Go.Sy
def popF : Nat → Nat → Nat
  | 0, _ => 0
  | k + 1, n => n % 2 + popF k (n / 2)
/-- How many bits of a number are set. -/
def pc (n : Nat) : Nat := popF 64 n

theorem popF_more : ∀ (k n : Nat), n < 2 ^ k → popF (k + 1) n = popF k n
  | 0, n, h => by have : n = 0 := by simp at h; omega
                  subst this; simp [popF]
  | k + 1, n, h => by
    rw [popF, popF_more k (n / 2) (by rw [Nat.pow_succ] at h; omega), popF]
theorem popF_le : ∀ (k n : Nat), popF k n ≤ k
  | 0, _ => by simp [popF]
  | k + 1, n => by have := popF_le k (n / 2); rw [popF]; omega
theorem popF_eq : ∀ (j k n : Nat), n < 2 ^ k → k ≤ j → popF j n = popF k n
  | 0, k, n, h, hj => by have : k = 0 := by omega
                         subst this; rfl
  | j + 1, k, n, h, hj => by
    by_cases hk : k = j + 1
    · subst hk; rfl
    · rw [popF_more j n (Nat.lt_of_lt_of_le h (Nat.pow_le_pow_right (by omega) (by omega))), popF_eq j k n h (by omega)]
theorem popF_add : ∀ (k j n m : Nat), n < 2 ^ k → popF (k + j) (2 ^ k * m + n) = popF k n + popF j m
  | 0, j, n, m, h => by have : n = 0 := by simp at h; omega
                        subst this; simp [popF]
  | k + 1, j, n, m, h => by
    have e1 : (2 ^ (k + 1) * m + n) % 2 = n % 2 := by rw [Nat.pow_succ, Nat.mul_right_comm]; omega
    have e2 : (2 ^ (k + 1) * m + n) / 2 = 2 ^ k * m + n / 2 := by rw [Nat.pow_succ, Nat.mul_right_comm]; omega
    rw [show k + 1 + j = (k + j) + 1 by omega, popF, e1, e2, popF_add k j (n / 2) m (by rw [Nat.pow_succ] at h; omega), popF]
    omega
theorem pc_bytes {h l : Nat} (hh : h < 256) (hl : l < 256) : pc (256 * h + l) = pc h + pc l := by
  have h1 := popF_add 8 8 l h hl
  unfold pc
  rw [popF_eq 64 16 (256 * h + l) (by omega) (by omega), popF_eq 64 8 h hh (by omega), popF_eq 64 8 l hl (by omega)]
  simpa [Nat.add_comm] using h1

theorem land_split (a b m M : Nat) (ha : a < 256) (hm : m < 256) : (256 * b + a) &&& (256 * M + m) = 256 * (b &&& M) + (a &&& m) := by
  have hx : a &&& m < 2 ^ 8 := Nat.and_lt_two_pow _ (by omega)
  apply Nat.eq_of_testBit_eq
  intro j
  rw [Nat.testBit_and, show 256 = 2 ^ 8 from rfl, Nat.testBit_two_pow_mul_add _ (by omega), Nat.testBit_two_pow_mul_add _ (by omega), Nat.testBit_two_pow_mul_add _ (by omega)]
  split <;> simp [Nat.testBit_and]

def sw1 (x : Nat) : Nat := ((x / 2) &&& 6148914691236517205) + (x &&& 6148914691236517205)
def sw2 (x : Nat) : Nat := ((x / 4) &&& 3689348814741910323) + (x &&& 3689348814741910323)
def sw3 (x : Nat) : Nat := (x / 16 + x) &&& 1085102592571150095
def sw4 (x : Nat) : Nat := x + x / 256
def sw5 (x : Nat) : Nat := x + x / 65536
def sw6 (x : Nat) : Nat := x + x / 4294967296
def sw (x : Nat) : Nat := (sw6 (sw5 (sw4 (sw3 (sw2 (sw1 x)))))) &&& 127

def upto (p : Nat → Bool) : Nat → Bool
  | 0 => true
  | n + 1 => p n && upto p n
theorem upto_get {p : Nat → Bool} : ∀ {n : Nat}, upto p n = true → ∀ i, i < n → p i = true
  | 0, _, i, hi => by omega
  | n + 1, h, i, hi => by
    simp only [upto, Bool.and_eq_true] at h
    by_cases e : i = n
    · subst e; exact h.1
    · exact upto_get h.2 i (by omega)

theorem byte1 : upto (fun l => Nat.beq ((128 + l / 2) &&& 85) ((l / 2) &&& 85) && Nat.beq ((l / 2) &&& 6148914691236517205) ((l / 2) &&& 85) && Nat.beq (l &&& 6148914691236517205) (l &&& 85) && Nat.blt (sw1 l) 171) 256 = true := by kernel_rfl
theorem byte2 : upto (fun l => Nat.beq ((64 + l / 4) &&& 51) ((l / 4) &&& 51) && Nat.beq ((128 + l / 4) &&& 51) ((l / 4) &&& 51) && Nat.beq ((192 + l / 4) &&& 51) ((l / 4) &&& 51) && Nat.beq ((l / 4) &&& 3689348814741910323) ((l / 4) &&& 51) && Nat.beq (l &&& 3689348814741910323) (l &&& 51) && Nat.blt (sw2 l) 103) 256 = true := by kernel_rfl
theorem byte0 : upto (fun l => Nat.beq (sw3 (sw2 (sw1 l))) (pc l) && Nat.ble (sw2 (sw1 l)) 68 && Nat.ble (sw2 (sw1 l) % 16) 4 && Nat.blt (sw1 l) 171) 256 = true := by kernel_rfl
theorem nib : upto (fun l => Nat.beq (l &&& 15) (l % 16) && Nat.beq (l &&& 1085102592571150095) (l % 16)) 256 = true := by kernel_rfl

theorem sw1_bytes {h l : Nat} (hh : h < 256) (hl : l < 256) : sw1 (256 * h + l) = 256 * sw1 h + sw1 l := by
  have bl := upto_get byte1 l hl
  have bh := upto_get byte1 h hh
  simp only [Bool.and_eq_true, Nat.beq_eq] at bl bh
  have e : (256 * h + l) / 2 = 256 * (h / 2) + (128 * (h % 2) + l / 2) := by omega
  have k : (128 * (h % 2) + l / 2) &&& 85 = (l / 2) &&& 85 := by
    rcases Nat.mod_two_eq_zero_or_one h with h0 | h0 <;> rw [h0]
    · simp
    · exact bl.1.1.1
  unfold sw1
  rw [e, show 6148914691236517205 = 256 * 24019198012642645 + 85 from rfl, land_split _ _ _ _ (by omega) (by omega), land_split _ _ _ _ hl (by omega), k]
  have c1 : (h / 2) &&& 24019198012642645 = (h / 2) &&& 85 := by
    have := land_split (h / 2) 0 85 93824992236885 (by omega) (by omega)
    simpa using this
  have c2 : h &&& 24019198012642645 = h &&& 85 := by
    have := land_split h 0 85 93824992236885 hh (by omega)
    simpa using this
  rw [c1, c2, ← show 6148914691236517205 = 256 * 24019198012642645 + 85 from rfl, bh.1.1.2, bh.1.2, bl.1.1.2, bl.1.2]
  omega
theorem sw2_bytes {h l : Nat} (hh : h < 256) (hl : l < 256) : sw2 (256 * h + l) = 256 * sw2 h + sw2 l := by
  have bl := upto_get byte2 l hl
  have bh := upto_get byte2 h hh
  simp only [Bool.and_eq_true, Nat.beq_eq] at bl bh
  have e : (256 * h + l) / 4 = 256 * (h / 4) + (64 * (h % 4) + l / 4) := by omega
  have k : (64 * (h % 4) + l / 4) &&& 51 = (l / 4) &&& 51 := by
    have h4 : h % 4 = 0 ∨ h % 4 = 1 ∨ h % 4 = 2 ∨ h % 4 = 3 := by omega
    rcases h4 with h0 | h0 | h0 | h0 <;> rw [h0]
    · simp
    · exact bl.1.1.1.1.1
    · exact bl.1.1.1.1.2
    · exact bl.1.1.1.2
  unfold sw2
  rw [e, show 3689348814741910323 = 256 * 14411518807585587 + 51 from rfl, land_split _ _ _ _ (by omega) (by omega), land_split _ _ _ _ hl (by omega), k]
  have c1 : (h / 4) &&& 14411518807585587 = (h / 4) &&& 51 := by
    have := land_split (h / 4) 0 51 56294995342131 (by omega) (by omega)
    simpa using this
  have c2 : h &&& 14411518807585587 = h &&& 51 := by
    have := land_split h 0 51 56294995342131 hh (by omega)
    simpa using this
  rw [c1, c2, ← show 3689348814741910323 = 256 * 14411518807585587 + 51 from rfl, bh.1.1.2, bh.1.2, bl.1.1.2, bl.1.2]
  omega
theorem sw3_bytes {h l : Nat} (hh : h ≤ 68) (h4 : h % 16 ≤ 4) (hl : l ≤ 68) : sw3 (256 * h + l) = 256 * sw3 h + sw3 l := by
  have e : (256 * h + l) / 16 + (256 * h + l) = 256 * (h / 16 + h) + (16 * (h % 16) + l / 16 + l) := by omega
  have n1 := upto_get nib (16 * (h % 16) + l / 16 + l) (by omega)
  have n2 := upto_get nib (l / 16 + l) (by omega)
  have n3 := upto_get nib (h / 16 + h) (by omega)
  simp only [Bool.and_eq_true, Nat.beq_eq] at n1 n2 n3
  unfold sw3
  rw [e, n2.2, n3.2, show 1085102592571150095 = 256 * 4238682002231055 + 15 from rfl, land_split _ _ _ _ (by omega) (by omega), n1.1]
  have c : (h / 16 + h) &&& 4238682002231055 = (h / 16 + h) % 16 := by
    have := land_split (h / 16 + h) 0 15 16557351571215 (by omega) (by omega)
    simp only [Nat.mul_zero, Nat.zero_add, Nat.zero_and] at this
    rw [show 256 * 16557351571215 + 15 = 4238682002231055 from rfl] at this
    rw [this, n3.1]
  rw [c]
  omega

/-- The library's way of counting bits. -/
theorem sw_pc {x : Nat} (hx : x < 65536) : sw x = pc x := by
  obtain ⟨h, l, hh, hl, rfl⟩ : ∃ h l, h < 256 ∧ l < 256 ∧ x = 256 * h + l := ⟨x / 256, x % 256, by omega, by omega, by omega⟩
  have bl := upto_get byte0 l hl
  have bh := upto_get byte0 h hh
  simp only [Bool.and_eq_true, Nat.beq_eq, Nat.ble_eq] at bl bh
  have ll := Nat.le_of_ble_eq_true bl.2
  have lh := Nat.le_of_ble_eq_true bh.2
  have e3 : sw3 (sw2 (sw1 (256 * h + l))) = 256 * pc h + pc l := by
    rw [sw1_bytes hh hl, sw2_bytes (by omega) (by omega), sw3_bytes bh.1.1.2 bh.1.2 bl.1.1.2, bl.1.1.1, bh.1.1.1]
  have p1 : pc h ≤ 8 := by unfold pc; rw [popF_eq 64 8 h hh (by omega)]; exact popF_le 8 h
  have p2 : pc l ≤ 8 := by unfold pc; rw [popF_eq 64 8 l hl (by omega)]; exact popF_le 8 l
  have e4 : sw4 (256 * pc h + pc l) = 256 * pc h + (pc l + pc h) := by unfold sw4; omega
  have e5 : sw5 (256 * pc h + (pc l + pc h)) = 256 * pc h + (pc l + pc h) := by unfold sw5; omega
  have e6 : sw6 (256 * pc h + (pc l + pc h)) = 256 * pc h + (pc l + pc h) := by unfold sw6; omega
  unfold sw
  rw [e3, e4, e5, e6, pc_bytes hh hl]
  have := land_split (pc l + pc h) (pc h) 127 0 (by omega) (by omega)
  simp only [Nat.mul_zero, Nat.zero_add, Nat.and_zero] at this
  rw [this]
  have n : (pc l + pc h) &&& 127 = (pc l + pc h) % 128 := Nat.and_two_pow_sub_one_eq_mod _ 7
  rw [n]; omega
attribute [irreducible] pc sw
end Go.Sy
namespace Go.Sy
theorem sw1_le (x : Nat) (h : x < 65536) : sw1 x ≤ 131072 := by
  have a := Nat.and_le_left (n := x / 2) (m := 6148914691236517205); have b := Nat.and_le_left (n := x) (m := 6148914691236517205)
  unfold sw1; omega
theorem sw2_le (x : Nat) (h : x < 65536) : sw2 (sw1 x) ≤ 262144 := by
  have k := sw1_le x h
  have a := Nat.and_le_left (n := sw1 x / 4) (m := 3689348814741910323); have b := Nat.and_le_left (n := sw1 x) (m := 3689348814741910323)
  unfold sw2; omega
theorem sw3_le (x : Nat) (h : x < 65536) : sw3 (sw2 (sw1 x)) ≤ 524288 := by
  have k := sw2_le x h
  have a := Nat.and_le_left (n := sw2 (sw1 x) / 16 + sw2 (sw1 x)) (m := 1085102592571150095)
  unfold sw3; omega
theorem sw4_le (x : Nat) (h : x < 65536) : sw4 (sw3 (sw2 (sw1 x))) ≤ 1048576 := by
  have k := sw3_le x h
  unfold sw4; omega
theorem sw5_le (x : Nat) (h : x < 65536) : sw5 (sw4 (sw3 (sw2 (sw1 x)))) ≤ 2097152 := by
  have k := sw4_le x h
  unfold sw5; omega
theorem sw6_le (x : Nat) (h : x < 65536) : sw6 (sw5 (sw4 (sw3 (sw2 (sw1 x))))) ≤ 4194304 := by
  have k := sw5_le x h
  unfold sw6; omega
end Go.Sy

namespace Go.ChaM
open Go Go.Sy
/-- A set that is better: the smaller one, or the one with the lesser number. -/
def Bet (s o : Nat) : Prop := pc s < pc o ∨ (pc s = pc o ∧ s < o)
instance (s o : Nat) : Decidable (Bet s o) := inferInstanceAs (Decidable (_ ∨ _))
theorem Bet.tri (s o : Nat) : Bet s o ∨ s = o ∨ Bet o s := by
  unfold Bet; omega
theorem Bet.trans {a b c : Nat} (h : Bet a b) (h' : Bet b c) : Bet a c := by
  unfold Bet at *; omega
theorem Bet.irr {a : Nat} : ¬ Bet a a := by
  unfold Bet; omega
/-- The best of some sets. -/
def bst : List Nat → Nat
  | [] => 0
  | x :: l => if l = [] then x else if Bet x (bst l) then x else bst l
theorem bst_mem : ∀ {l : List Nat}, l ≠ [] → bst l ∈ l
  | [], h => absurd rfl h
  | x :: l, _ => by
    unfold bst
    split
    · exact .head _
    · rename_i h
      split
      · exact .head _
      · exact .tail _ (bst_mem h)
theorem bst_le : ∀ {l : List Nat}, ∀ x ∈ l, bst l = x ∨ Bet (bst l) x
  | y :: l, x, hx => by
    unfold bst
    split
    · rename_i h
      subst h
      exact .inl (List.mem_singleton.1 hx).symm
    · split
      · rename_i hb
        rcases List.mem_cons.1 hx with rfl | hx
        · exact .inl rfl
        · rcases bst_le x hx with h | h
          · exact .inr (h ▸ hb)
          · exact .inr (hb.trans h)
      · rename_i hb
        rcases List.mem_cons.1 hx with rfl | hx
        · rcases Bet.tri x (bst l) with h | h | h
          · exact absurd h hb
          · exact .inl h.symm
          · exact .inr h
        · exact bst_le x hx
theorem bst_uniq {l : List Nat} {s : Nat} (hs : s ∈ l) (h : ∀ x ∈ l, s = x ∨ Bet s x) : bst l = s := by
  have h1 := bst_le s hs
  have h2 := h (bst l) (bst_mem (fun e => by rw [e] at hs; cases hs))
  rcases h1 with h1 | h1
  · exact h1
  · rcases h2 with h2 | h2
    · exact h2.symm
    · exact absurd (h1.trans h2) Bet.irr
/-- The sights of a circle. -/
def setW : List LkD → Nat
  | [] => 0
  | l :: w => 2 ^ l.i ||| setW w
theorem setW_bit {k : Nat} : ∀ {w : List LkD}, (setW w).testBit k = true ↔ ∃ l ∈ w, l.i = k
  | [] => by simp [setW]
  | l :: w => by
    rw [setW, Nat.testBit_or, Bool.or_eq_true, setW_bit, Nat.testBit_two_pow, decide_eq_true_eq]
    constructor
    · rintro (h | ⟨x, hx, h⟩)
      · exact ⟨l, .head _, h⟩
      · exact ⟨x, .tail _ hx, h⟩
    · rintro ⟨x, hx, h⟩
      rcases List.mem_cons.1 hx with rfl | hx
      · exact .inl h
      · exact .inr ⟨x, hx, h⟩
/-- The sets of sights of circles that cannot all be right. -/
def wrL (c : ChD) : List Nat := (cirL c).flatMap fun w => (if badW c false w then [setW w] else []) ++ (if badW c true w then [setW w] else [])
theorem wr_mem {c : ChD} {s : Nat} : s ∈ wrL c ↔ ∃ w ∈ cirL c, ∃ a, badW c a w = true ∧ setW w = s := by
  unfold wrL
  rw [List.mem_flatMap]
  constructor
  · rintro ⟨w, hw, h⟩
    rcases List.mem_append.1 h with h | h
    · split at h
      · rename_i hb; exact ⟨w, hw, false, hb, (List.mem_singleton.1 h).symm⟩
      · cases h
    · split at h
      · rename_i hb; exact ⟨w, hw, true, hb, (List.mem_singleton.1 h).symm⟩
      · cases h
  · rintro ⟨w, hw, a, hb, rfl⟩
    refine ⟨w, hw, List.mem_append.2 ?_⟩
    cases a
    · left; rw [if_pos hb]; exact .head _
    · right; rw [if_pos hb]; exact .head _
theorem chain_lt {c : ChD} : ∀ {w : List LkD} {u v : Nat}, LkC c u w v → ∀ l ∈ w, l.i < c.si.length
  | x :: w, u, v, h, l, hl => by
    rcases List.mem_cons.1 hl with rfl | hl
    · obtain ⟨s, hs, _⟩ := lks_mem.1 h.1
      exact (List.getElem?_eq_some_iff.1 hs).1
    · exact chain_lt h.2 l hl
theorem cir_of_mem {c : ChD} {w : List LkD} (h : w ∈ cirL c) : w ≠ [] ∧ ∀ l ∈ w, l.i < c.si.length := by
  obtain ⟨b, _, h⟩ := List.mem_flatMap.1 h
  obtain ⟨tl, _, h2, h3⟩ := cirN_mem.1 h
  rw [List.nil_append] at h2
  subst h2
  exact ⟨fun e => by rw [e] at h3; exact h3.elim, chain_lt (cir_chain h3)⟩
theorem wr_lt {c : ChD} {s : Nat} (h : s ∈ wrL c) : s < 2 ^ c.si.length ∧ s ≠ 0 := by
  obtain ⟨w, hw, a, _, rfl⟩ := wr_mem.1 h
  obtain ⟨h1, h2⟩ := cir_of_mem hw
  refine ⟨Nat.lt_pow_two_of_testBit _ fun i hi => ?_, fun e => ?_⟩
  · cases e : (setW w).testBit i with
    | false => rfl
    | true =>
      obtain ⟨l, hl, rfl⟩ := setW_bit.1 e
      have := h2 l hl
      omega
  · cases w with
    | nil => exact h1 rfl
    | cons l w =>
      have h3 : (setW (l :: w)).testBit l.i = true := setW_bit.2 ⟨l, .head _, rfl⟩
      rw [e] at h3
      simp at h3
theorem can_wr {c : ChD} (hO : ChOk c) {S : Nat → Bool} : Can c S ↔ ∀ s ∈ wrL c, ∃ k, s.testBit k = true ∧ S k = false := by
  rw [can_cir hO]
  constructor
  · intro h s hs
    obtain ⟨w, hw, a, hb, rfl⟩ := wr_mem.1 hs
    obtain ⟨l, hl, e⟩ := h w hw a hb
    exact ⟨l.i, setW_bit.2 ⟨l, hl, rfl⟩, e⟩
  · intro h w hw a hb
    obtain ⟨k, h1, h2⟩ := h _ (wr_mem.2 ⟨w, hw, a, hb, rfl⟩)
    obtain ⟨l, hl, rfl⟩ := setW_bit.1 h1
    exact ⟨l, hl, h2⟩
/-- All can be right just if no circle cannot. -/
theorem can_all {c : ChD} (hO : ChOk c) : Can c (fun _ => true) ↔ wrL c = [] := by
  rw [can_wr hO]
  constructor
  · intro h
    cases e : wrL c with
    | nil => rfl
    | cons s l =>
      obtain ⟨k, _, h2⟩ := h s (by rw [e]; exact .head _)
      cases h2
  · intro h s hs
    rw [h] at hs; cases hs
end Go.ChaM

namespace Go.ChaM
/-- Whichever way one can go, one can come back. -/
def Sym (E : List Ed) : Prop := ∀ e ∈ E, ∃ e' ∈ E, e'.u = e.v ∧ e'.v = e.u
theorem edE_sym (c : ChD) (a : Bool) (S : Nat → Bool) : Sym (edE c a S) := fun e he => by
  obtain ⟨i, s, hs, hS, h⟩ := edE_mem.1 he
  rcases h with rfl | rfl
  · exact ⟨_, edE_mem.2 ⟨i, s, hs, hS, .inr rfl⟩, rfl, rfl⟩
  · exact ⟨_, edE_mem.2 ⟨i, s, hs, hS, .inl rfl⟩, rfl, rfl⟩
theorem wk_back {E : List Ed} (hS : Sym E) : ∀ {l : List Ed} {u v : Nat}, Wk E u l v → ∃ l', Wk E v l' u
  | [], _, _, h => ⟨[], h.symm⟩
  | e :: l, u, v, h => by
    obtain ⟨l', h1⟩ := wk_back hS h.2.2
    obtain ⟨e', h2, h3, h4⟩ := hS e h.1
    exact ⟨l' ++ [e'], h1.app ⟨h2, h3, by rw [← h.2.1]; exact h4⟩⟩
/-- What is known after all rounds of how much greater stations are than one. -/
def bndV (c : ChD) (a : Bool) (out : Nat → Bool) (src : Nat) : Mst := rnds (edL c a out) (s0 src) c.n.toNat
section
variable {c : ChD} (hO : ChOk c) {a : Bool} {out : Nat → Bool} (hN : NoNeg (edE c a fun i => !out i)) {src : Nat} (hs : src < c.n.toNat)
include hO hN hs
theorem bnd_dst {v : Nat} {m : Int} : bndV c a out src v = some m ↔ Dst (edE c a fun i => !out i) src v m := bf_dst (edE_below hO a _) hN (fun _ => edL_mem hO) hs
theorem bnd_none {v : Nat} : bndV c a out src v = none ↔ ∀ l, ¬ Wk (edE c a fun i => !out i) src l v := bf_none (edE_below hO a _) hN (fun _ => edL_mem hO) hs
end
theorem dst_self {E : List Ed} (hN : NoNeg E) (u : Nat) : Dst E u u 0 := ⟨⟨[], rfl, rfl⟩, fun l hl => hN u l hl⟩
theorem dst_on {E : List Ed} {u : Nat} {m k : Int} {e : Ed} (he : e ∈ E) (h : Dst E u e.u m) (h' : Dst E u e.v k) : k ≤ m + e.w := by
  obtain ⟨l, h1, h2⟩ := h.1
  have := h'.2 (l ++ [e]) (h1.app (b := [e]) ⟨he, rfl, rfl⟩)
  rw [wt_app, h2] at this
  have h4 : wt [e] = e.w := Int.add_zero _
  omega
/-- Places that reach the bound of each station with which one is linked. -/
theorem reach {n : Nat} {E : List Ed} (hE : Below n E) (hN : NoNeg E) (hS : Sym E) {u : Nat} (hu : u < n) : ∃ x, Feas x E ∧ ∀ v m, Dst E u v m → x v - x u = m := by
  have hL : ∀ e, e ∈ E ↔ e ∈ E := fun _ => Iff.rfl
  have h0 : rnds E (s0 u) n u = some 0 := (bf_dst hE hN hL hu).2 (dst_self hN u)
  refine ⟨fun y => (rnds E (s0 u) n y).getD (pot n E y), fun e he => ?_, fun v m hd => ?_⟩
  · dsimp only
    cases h1 : rnds E (s0 u) n e.u with
    | some m =>
      have d1 := (bf_dst hE hN hL hu).1 h1
      cases h2 : rnds E (s0 u) n e.v with
      | some k =>
        show k ≤ m + e.w
        exact dst_on he d1 ((bf_dst hE hN hL hu).1 h2)
      | none =>
        obtain ⟨l, k1, _⟩ := d1.1
        exact absurd (k1.app (b := [e]) ⟨he, rfl, rfl⟩) ((bf_none hE hN hL hu).1 h2 _)
    | none =>
      cases h2 : rnds E (s0 u) n e.v with
      | some k =>
        obtain ⟨⟨l, k1, _⟩, _⟩ := (bf_dst hE hN hL hu).1 h2
        obtain ⟨e', q1, q2, q3⟩ := hS e he
        exact absurd (k1.app (b := [e']) ⟨q1, q2, q3⟩) ((bf_none hE hN hL hu).1 h1 _)
      | none => exact pot_feas hE hN e he
  · dsimp only
    rw [(bf_dst hE hN hL hu).2 hd, h0]
    show m - 0 = m
    omega
end Go.ChaM

namespace Go.ChaM
/-- What is known of how much greater each station is than each other one. -/
abbrev M2 := Nat → Nat → Option Int
def put2 (b : M2) (i k : Nat) (n : Int) : M2 := fun x y => if x = i ∧ y = k then some n else b x y
def low (b : M2) (i k : Nat) (n : Int) : M2 := match b i k with
  | none => put2 b i k n
  | some o => if n < o then put2 b i k n else b
def Le2 (b b' : M2) : Prop := ∀ i k m, b i k = some m → ∃ m', b' i k = some m' ∧ m' ≤ m
theorem Le2.refl (b : M2) : Le2 b b := fun _ _ m h => ⟨m, h, Int.le_refl _⟩
theorem Le2.trans {a b c : M2} (h : Le2 a b) (h' : Le2 b c) : Le2 a c := fun i k m hm =>
  let ⟨m1, h1, h2⟩ := h i k m hm
  let ⟨m2, h3, h4⟩ := h' i k m1 h1
  ⟨m2, h3, Int.le_trans h4 h2⟩
theorem low_cases (b : M2) (i k : Nat) (n : Int) : (low b i k n = put2 b i k n ∧ (b i k = none ∨ ∃ o, b i k = some o ∧ n < o)) ∨ (low b i k n = b ∧ ∃ o, b i k = some o ∧ o ≤ n) := by
  cases h : b i k with
  | none => exact .inl ⟨by simp only [low, h], .inl rfl⟩
  | some o =>
    by_cases h1 : n < o
    · exact .inl ⟨by simp only [low, h, if_pos h1], .inr ⟨o, rfl, h1⟩⟩
    · exact .inr ⟨by simp only [low, h, if_neg h1], o, rfl, by omega⟩
def Snd (E : List Ed) (b : M2) : Prop := ∀ i k m, b i k = some m → ∃ l, Wk E i l k ∧ wt l = m
/-- By way of one station. -/
def via (b : M2) (y i k : Nat) : M2 := match b i y, b y k with
  | some p, some q => low b i k (p + q)
  | _, _ => b
theorem via_cases (b : M2) (y i k : Nat) : (∃ p q, b i y = some p ∧ b y k = some q ∧ via b y i k = low b i k (p + q)) ∨ (via b y i k = b ∧ (b i y = none ∨ b y k = none)) := by
  cases h : b i y with
  | none => exact .inr ⟨by simp only [via, h], .inl rfl⟩
  | some p =>
    cases h2 : b y k with
    | none => exact .inr ⟨by simp only [via, h, h2], .inr rfl⟩
    | some q => exact .inl ⟨p, q, rfl, rfl, by simp only [via, h, h2]⟩
/-- All stations between lie below a number. -/
def Mid (Y : Nat) : List Ed → Prop
  | [] => True
  | [_] => True
  | e :: x :: l => e.v < Y ∧ Mid Y (x :: l)
theorem Mid.tail {Y : Nat} {e : Ed} : ∀ {l : List Ed}, Mid Y (e :: l) → Mid Y l
  | [], _ => trivial
  | _ :: _, h => h.2
end Go.ChaM

namespace Go.ChaM
/-- Each bound is known at first. -/
structure Beg (n : Nat) (E : List Ed) (b : M2) : Prop where
  s : Snd E b
  d : ∀ i, i < n → ∃ m, b i i = some m ∧ m ≤ 0
  e : ∀ e ∈ E, ∃ m, b e.u e.v = some m ∧ m ≤ e.w
section
variable {n : Nat} {E : List Ed} {b : M2} (hE : Below n E) (hB : Beg n E b)
include hE hB
end
end Go.ChaM

namespace Go.ChaM
open Go Go.Sy
end Go.ChaM

namespace Go.ChaM
open Go Go.Sy
theorem Can.congr {c : ChD} {S S' : Nat → Bool} (h : ∀ i, i < c.si.length → S i = S' i) : Can c S ↔ Can c S' := by
  have key : ∀ {S S' : Nat → Bool}, (∀ i, i < c.si.length → S i = S' i) → ∀ a, ∀ e ∈ edE c a S, e ∈ edE c a S' := fun {S S'} h a e he => by
    obtain ⟨i, s, hs, hS, h1⟩ := edE_mem.1 he
    exact edE_mem.2 ⟨i, s, hs, by rw [← h i (List.getElem?_eq_some_iff.1 hs).1]; exact hS, h1⟩
  exact ⟨fun hc a u l hl => hc a u l (hl.mono (key (fun i hi => (h i hi).symm) a)), fun hc a u l hl => hc a u l (hl.mono (key h a))⟩
end Go.ChaM

namespace Go.ChaM
open Go Go.Sy
def allS : Nat → Bool := fun _ => true
def noneS : Nat → Bool := fun _ => false
def stB (c : ChD) (x : Int) : Bool := inC x 0 (c.n - 1)
/-- The errno, and the spans, of Between. -/
def betE (c : ChD) (x y : Int) : Int := if chB c = false then 1 else if (stB c x && stB c y) = false then 2 else if wrL c ≠ [] then 4 else if bndV c false noneS x.toNat y.toNat = none then 12 else 0
def betV (c : ChD) (a : Bool) (x y : Int) : Int × Int := if betE c x y = 0 then (-(bndV c a noneS y.toNat x.toNat).getD 0, (bndV c a noneS x.toNat y.toNat).getD 0) else (0, 0)
def whyE (c : ChD) : Int := if chB c = false then 1 else if wrL c = [] then 0 else 11
theorem wr_noneg {c : ChD} (hO : ChOk c) (h : wrL c = []) (a : Bool) : NoNeg (edE c a fun i => !noneS i) := (can_all hO).2 h a
theorem st_lt {c : ChD} {x : Int} (h : stB c x = true) : 0 ≤ x ∧ x.toNat < c.n.toNat := by
  unfold stB inC at h
  simp only [Bool.and_eq_true, decide_eq_true_eq] at h
  omega
theorem bet_ok {c : ChD} {x y : Int} (h : betE c x y = 0) : ChOk c ∧ wrL c = [] ∧ stB c x = true ∧ stB c y = true ∧ ∀ a, ∃ lo hi, betV c a x y = (lo, hi) ∧ Dst (edE c a allS) x.toNat y.toNat hi ∧ Dst (edE c a allS) y.toNat x.toNat (-lo) := by
  have h0 := h
  unfold betE at h
  split at h
  · cases h
  · rename_i h1
    split at h
    · cases h
    · rename_i h2
      split at h
      · cases h
      · rename_i h3
        split at h
        · cases h
        · rename_i h4
          have hO := chB_iff.1 (by simpa using h1)
          have hw : wrL c = [] := by simpa using h3
          rw [Bool.not_eq_false, Bool.and_eq_true] at h2
          have hx := (st_lt h2.1).2
          have hy := (st_lt h2.2).2
          refine ⟨hO, hw, h2.1, h2.2, fun a => ?_⟩
          have hN := wr_noneg hO hw
          cases e : bndV c false noneS x.toNat y.toNat with
          | none => exact absurd e h4
          | some m0 =>
            obtain ⟨⟨l, q1, _⟩, _⟩ := (bnd_dst hO (hN false) hx).1 e
            have lift : ∀ {a : Bool} {l : List Ed} {u v : Nat}, Wk (edE c false fun i => !noneS i) u l v → ∃ l', Wk (edE c a fun i => !noneS i) u l' v := by
              intro a l
              induction l with
              | nil => intro u v h; exact ⟨[], h⟩
              | cons e l ih =>
                intro u v h
                obtain ⟨l', k1⟩ := ih h.2.2
                obtain ⟨i, s, hs, hS, hc⟩ := edE_mem.1 h.1
                rcases hc with hc | hc
                · exact ⟨edF a i s :: l', edE_mem.2 ⟨i, s, hs, hS, .inl rfl⟩, by rw [← h.2.1, hc]; rfl, by rw [hc] at k1; exact k1⟩
                · exact ⟨edT a i s :: l', edE_mem.2 ⟨i, s, hs, hS, .inr rfl⟩, by rw [← h.2.1, hc]; rfl, by rw [hc] at k1; exact k1⟩
            obtain ⟨la, q2⟩ := lift (a := a) q1
            obtain ⟨lb, q3⟩ := wk_back (edE_sym c a _) q2
            obtain ⟨hi, k1, _⟩ := bf_all (L := edL c a noneS) (edE_below hO a _) (hN a) (fun _ => edL_mem hO) hx q2
            obtain ⟨m, k2, _⟩ := bf_all (L := edL c a noneS) (edE_below hO a _) (hN a) (fun _ => edL_mem hO) hy q3
            have k3 : bndV c a noneS x.toNat y.toNat = some hi := k1
            have k4 : bndV c a noneS y.toNat x.toNat = some m := k2
            refine ⟨-m, hi, by unfold betV; rw [if_pos h0, k3, k4]; rfl, (bnd_dst hO (hN a) hx).1 k3, ?_⟩
            rw [Int.neg_neg]
            exact (bnd_dst hO (hN a) hy).1 k4
end Go.ChaM

namespace Go.ChaM
open Go Go.Sy
theorem bet_self {c : ChD} {x : Int} (h : betE c x x = 0) (a : Bool) : betV c a x x = (0, 0) := by
  obtain ⟨hO, hw, _, _, hb⟩ := bet_ok h
  obtain ⟨lo, hi, e, d1, d2⟩ := hb a
  have hN : NoNeg (edE c a allS) := (can_all hO).2 hw a
  have h1 := d1.uniq (dst_self hN _)
  have h2 := d2.uniq (dst_self hN _)
  rw [e, h1, show lo = 0 by omega]
end Go.ChaM

namespace Go.ChaM
open Go Go.Sy
end Go.ChaM

namespace Go.ChaM
open Go Go.Sy
end Go.ChaM

namespace Go.ChaM
open Go Go.Sy
section
variable {c : ChD} {σ τ : Nat → Nat} (hO : ChOk c) (hs : ∀ i, i < c.n.toNat → σ i < c.n.toNat ∧ τ (σ i) = i) (ht : ∀ i, i < c.n.toNat → τ i < c.n.toNat ∧ σ (τ i) = i)
include hO hs
end
end Go.ChaM

namespace Go.ChaM
open Go Go.Sy
section
variable {c : ChD} (hO : ChOk c) (hw : wrL c = []) {i : Nat} {s : SiD} (hs : c.si[i]? = some s)
include hO hw hs
end
theorem link_wk {E E' : List Ed} (h : ∀ e ∈ E, ∃ e' ∈ E', e'.u = e.u ∧ e'.v = e.v) : ∀ {l : List Ed} {u v : Nat}, Wk E u l v → ∃ l', Wk E' u l' v
  | [], _, _, hw => ⟨[], hw⟩
  | e :: l, u, v, hw => by
    obtain ⟨e', h1, h2, h3⟩ := h e hw.1
    obtain ⟨l', h4⟩ := link_wk h hw.2.2
    exact ⟨e' :: l', h1, by rw [h2]; exact hw.2.1, by rw [h3]; exact h4⟩
end Go.ChaM

