/- Lemmas, in order: Bounds between stations: walks, what goes round, and when all bounds can hold. Bounds between stations: the least ways, round after round, and places by which all bounds hold. Charts: their sights, what each one bounds, and which sights can all be right. Charts: circles of sights; some sights can all be right just if no circle among them cannot. Charts: sights that cannot all be right have a circle among them that cannot. How many bits are set: the library's way of counting, on numbers below 65536; the lowest bit. Charts: the fewest sights that cannot all be right, and that must be wrong. Charts: how much greater one station can be than another one; places that reach this end; sights that tell nothing. Charts: the document's tightest bounds, by way of each station in turn. Charts: the tightest bounds are the least ways; what cannot be shows in a station that lies below itself. Charts: the document's answers: what can be, why, what to drop. Charts: what to drop, and what tells nothing, by the program and by the document. Charts: what the exported functions tell, by the program and by the document; truths; ends of spans. Charts: a sight more at the end of a span; the map; narrower sights; charts of which the same can be. Charts: a part of a chart, with some of its sights alone. Charts: sights looked at from the other end; how many are in a set. Charts: stations numbered otherwise, sights told the other way round. Charts: the same bounds, the same spans; sights that tell nothing; what is linked stays linked.. -/
import Derived.Test.YtccjnjhlnpgocaaQ1
import Derived.KernelRfl
namespace Go.ChaM
/-- A bound: one station is at most so much greater than another one; it has a tag. -/
structure Ed where
  u : Nat
  v : Nat
  w : Int
  t : Nat
/-- A way from one station to another one, bound after bound. -/
def Wk (E : List Ed) : Nat → List Ed → Nat → Prop
  | u, [], v => u = v
  | u, e :: l, v => e ∈ E ∧ e.u = u ∧ Wk E e.v l v
def wt : List Ed → Int
  | [] => 0
  | e :: l => e.w + wt l
theorem wt_app : ∀ (a b : List Ed), wt (a ++ b) = wt a + wt b
  | [], b => (Int.zero_add _).symm
  | e :: a, b => by rw [List.cons_append, wt, wt, wt_app a b, Int.add_assoc]
theorem Wk.app {E : List Ed} : ∀ {a : List Ed} {u z v : Nat} {b : List Ed}, Wk E u a z → Wk E z b v → Wk E u (a ++ b) v
  | [], u, z, v, b, h, h' => by cases h; exact h'
  | _ :: _, _, _, _, _, h, h' => ⟨h.1, h.2.1, Wk.app h.2.2 h'⟩
theorem Wk.split {E : List Ed} : ∀ {a : List Ed} {u v : Nat} {b : List Ed}, Wk E u (a ++ b) v → ∃ z, Wk E u a z ∧ Wk E z b v
  | [], u, _, _, h => ⟨u, rfl, h⟩
  | _ :: _, _, _, _, h =>
    let ⟨z, h1, h2⟩ := Wk.split h.2.2
    ⟨z, ⟨h.1, h.2.1, h1⟩, h2⟩
theorem Wk.mem {E : List Ed} : ∀ {l : List Ed} {u v : Nat}, Wk E u l v → ∀ e ∈ l, e ∈ E
  | _ :: _, _, _, h, e, he => by
    rcases List.mem_cons.1 he with rfl | he
    · exact h.1
    · exact Wk.mem h.2.2 e he
theorem Wk.mono {E E' : List Ed} (hE : ∀ e ∈ E, e ∈ E') : ∀ {l : List Ed} {u v : Nat}, Wk E u l v → Wk E' u l v
  | [], _, _, h => h
  | _ :: _, _, _, h => ⟨hE _ h.1, h.2.1, Wk.mono hE h.2.2⟩
/-- Places by which all bounds hold. -/
def Feas (x : Nat → Int) (E : List Ed) : Prop := ∀ e ∈ E, x e.v ≤ x e.u + e.w
theorem Feas.walk {x : Nat → Int} {E : List Ed} (h : Feas x E) : ∀ {l : List Ed} {u v : Nat}, Wk E u l v → x v ≤ x u + wt l
  | [], u, v, hw => by cases hw; show x u ≤ x u + 0; omega
  | e :: l, u, v, hw => by
    have h1 := h e hw.1
    have h2 := h.walk hw.2.2
    have h3 := hw.2.1
    subst h3
    show x v ≤ x e.u + (e.w + wt l)
    omega
theorem Feas.round {x : Nat → Int} {E : List Ed} (h : Feas x E) {l : List Ed} {u : Nat} (hw : Wk E u l u) : 0 ≤ wt l := by
  have := h.walk hw; omega
/-- Where one is after so many bounds. -/
def vat (u : Nat) (l : List Ed) (i : Nat) : Nat := (u :: l.map Ed.v).getD i 0
theorem vat_zero (u : Nat) (l : List Ed) : vat u l 0 = u := rfl
theorem vat_succ (u : Nat) (e : Ed) (l : List Ed) (i : Nat) : vat u (e :: l) (i + 1) = vat e.v l i := rfl
theorem Wk.at {E : List Ed} : ∀ {l : List Ed} {u v : Nat} (i : Nat), Wk E u l v → i ≤ l.length → Wk E u (l.take i) (vat u l i) ∧ Wk E (vat u l i) (l.drop i) v
  | l, u, v, 0, h, _ => ⟨by rw [List.take_zero]; exact rfl, h⟩
  | e :: l, u, v, i + 1, h, hi => by
    obtain ⟨h1, h2⟩ := Wk.at i h.2.2 (by simpa using hi)
    exact ⟨⟨h.1, h.2.1, h1⟩, h2⟩
theorem Wk.cut {E : List Ed} {l : List Ed} {u v i j : Nat} (h : Wk E u l v) (hij : i < j) (hj : j ≤ l.length) (e : vat u l i = vat u l j) :
    ∃ a b c z, l = a ++ b ++ c ∧ a.length = i ∧ b.length = j - i ∧ Wk E u a z ∧ Wk E z b z ∧ Wk E z c v := by
  obtain ⟨h1, h2⟩ := Wk.at i h (by omega)
  obtain ⟨h3, h4⟩ := Wk.at j h hj
  have e2 : l.take j = l.take i ++ (l.drop i).take (j - i) := by
    rw [← List.take_append_drop i (l.take j), List.take_take, Nat.min_eq_left (by omega), List.drop_take]
  have h5 : Wk E u (l.take i ++ (l.drop i).take (j - i)) (vat u l j) := by rw [← e2]; exact h3
  obtain ⟨z, k1, k2⟩ := Wk.split h5
  have same : ∀ {a : List Ed} {u y z : Nat}, Wk E u a y → Wk E u a z → y = z := by
    intro a
    induction a with
    | nil => intro u y z h h'; cases h; exact h'
    | cons e a ih => intro u y z h h'; exact ih h.2.2 h'.2.2
  have hz := same k1 h1
  subst hz
  refine ⟨l.take i, (l.drop i).take (j - i), l.drop j, vat u l i, ?_, by rw [List.length_take]; omega, by rw [List.length_take, List.length_drop]; omega, h1, by rw [← e] at k2; exact k2, by rw [e]; exact h4⟩
  rw [← e2, List.take_append_drop]
theorem nodup_le : ∀ (n : Nat) (L : List Nat), L.Nodup → (∀ x ∈ L, x < n) → L.length ≤ n
  | 0, [], _, _ => Nat.le_refl _
  | 0, x :: _, _, h => absurd (h x (.head _)) (Nat.not_lt_zero _)
  | n + 1, L, hn, h => by
    by_cases hm : n ∈ L
    · have h1 := nodup_le n (L.erase n) (hn.erase n) fun x hx => by
        have h2 := (hn.mem_erase_iff).1 hx
        have := h x h2.2
        have := h2.1
        omega
      rw [List.length_erase_of_mem hm] at h1
      omega
    · have := nodup_le n L hn fun x hx => by
        have h1 := h x hx
        have : x ≠ n := fun e => hm (e ▸ hx)
        omega
      omega
theorem not_nodup {L : List Nat} (h : ¬ L.Nodup) : ∃ i j, i < j ∧ j < L.length ∧ L.getD i 0 = L.getD j 0 := by
  refine Classical.byContradiction fun hn => h ?_
  rw [List.Nodup, List.pairwise_iff_getElem]
  intro i j hi hj hij e
  exact hn ⟨i, j, hij, hj, by rw [List.getD_eq_getElem?_getD, List.getD_eq_getElem?_getD, List.getElem?_eq_getElem hi, List.getElem?_eq_getElem hj]; exact e⟩
/-- All bounds are between stations. -/
def Below (n : Nat) (E : List Ed) : Prop := ∀ e ∈ E, e.u < n ∧ e.v < n
theorem verts_lt {n : Nat} {E : List Ed} (hE : Below n E) {u v : Nat} {l : List Ed} (h : Wk E u l v) (hu : u < n) : ∀ x ∈ u :: l.map Ed.v, x < n := fun x hx => by
  rcases List.mem_cons.1 hx with rfl | hx
  · exact hu
  · obtain ⟨e, he, rfl⟩ := List.mem_map.1 hx
    exact (hE e (h.mem e he)).2
theorem wk_lt {n : Nat} {E : List Ed} (hE : Below n E) : ∀ {l : List Ed} {u v : Nat}, Wk E u l v → u < n → v < n
  | [], _, _, h, hu => by cases h; exact hu
  | e :: _, _, _, h, _ => wk_lt hE h.2.2 (hE e h.1).2
/-- Nothing that goes round is less than nothing. -/
def NoNeg (E : List Ed) : Prop := ∀ u l, Wk E u l u → 0 ≤ wt l
theorem Feas.noneg {x : Nat → Int} {E : List Ed} (h : Feas x E) : NoNeg E := fun _ _ hw => h.round hw
/-- A long way has a shorter one that is no greater, if nothing that goes round is less than nothing. -/
theorem shorten {n : Nat} {E : List Ed} (hE : Below n E) (hN : NoNeg E) : ∀ (k : Nat) {u v : Nat} {l : List Ed}, l.length = k → Wk E u l v → u < n → ∃ l', Wk E u l' v ∧ l'.length < n ∧ wt l' ≤ wt l := by
  intro k
  induction k using Nat.strongRecOn with
  | ind k ih =>
    intro u v l hk h hu
    by_cases hl : l.length < n
    · exact ⟨l, h, hl, Int.le_refl _⟩
    · have hnd : ¬ (u :: l.map Ed.v).Nodup := fun hn => by
        have := nodup_le n _ hn (verts_lt hE h hu)
        rw [List.length_cons, List.length_map] at this
        omega
      obtain ⟨i, j, hij, hj, e⟩ := not_nodup hnd
      rw [List.length_cons, List.length_map] at hj
      obtain ⟨a, b, c, z, rfl, ha, hb, k1, k2, k3⟩ := h.cut hij (by omega) e
      have hlen : (a ++ c).length < k := by
        rw [← hk, List.length_append, List.length_append, List.length_append]; omega
      obtain ⟨l', q1, q2, q3⟩ := ih _ hlen rfl (k1.app k3) hu
      refine ⟨l', q1, q2, Int.le_trans q3 ?_⟩
      have := hN z b k2
      rw [wt_app, wt_app, wt_app]
      omega
/-- What goes round and is less than nothing has a part that does, too, and passes no station twice. -/
theorem neg_simple {E : List Ed} : ∀ (k : Nat) {u : Nat} {l : List Ed}, l.length = k → Wk E u l u → wt l < 0 → ∃ z b, Wk E z b z ∧ wt b < 0 ∧ (b.map Ed.v).Nodup := by
  intro k
  induction k using Nat.strongRecOn with
  | ind k ih =>
    intro u l hk h hw
    by_cases hn : (l.map Ed.v).Nodup
    · exact ⟨u, l, h, hw, hn⟩
    · obtain ⟨i, j, hij, hj, e⟩ := not_nodup hn
      rw [List.length_map] at hj
      obtain ⟨a, b, c, z, rfl, ha, hb, k1, k2, k3⟩ := h.cut (i := i + 1) (j := j + 1) (by omega) (by omega) e
      by_cases hb0 : wt b < 0
      · exact ih b.length (by rw [← hk, List.length_append, List.length_append]; omega) rfl k2 hb0
      · refine ih (a ++ c).length (by rw [← hk, List.length_append, List.length_append, List.length_append]; omega) rfl (k1.app k3) ?_
        rw [wt_app, wt_app] at hw
        rw [wt_app]
        omega
end Go.ChaM
namespace Go.ChaM
/-- What is known so far of how far each station can be. -/
abbrev Mst := Nat → Option Int
def put (s : Mst) (v : Nat) (m : Int) : Mst := fun y => if y = v then some m else s y
theorem put_self (s : Mst) (v : Nat) (m : Int) : put s v m v = some m := if_pos rfl
theorem put_other (s : Mst) {v y : Nat} (m : Int) (h : y ≠ v) : put s v m y = s y := if_neg h
def rlx (s : Mst) (e : Ed) : Mst := match s e.u with
  | none => s
  | some n => match s e.v with
    | none => put s e.v (n + e.w)
    | some o => if n + e.w < o then put s e.v (n + e.w) else s
def Le (s s' : Mst) : Prop := ∀ v m, s v = some m → ∃ m', s' v = some m' ∧ m' ≤ m
theorem Le.refl (s : Mst) : Le s s := fun _ m h => ⟨m, h, Int.le_refl _⟩
theorem Le.trans {a b c : Mst} (h : Le a b) (h' : Le b c) : Le a c := fun v m hm =>
  let ⟨m1, h1, h2⟩ := h v m hm
  let ⟨m2, h3, h4⟩ := h' v m1 h1
  ⟨m2, h3, Int.le_trans h4 h2⟩
theorem rlx_cases (s : Mst) (e : Ed) : (s e.u = none ∧ rlx s e = s) ∨ ∃ n, s e.u = some n ∧ ((s e.v = none ∧ rlx s e = put s e.v (n + e.w)) ∨ ∃ o, s e.v = some o ∧ ((n + e.w < o ∧ rlx s e = put s e.v (n + e.w)) ∨ (¬ n + e.w < o ∧ rlx s e = s))) := by
  cases hu : s e.u with
  | none => exact .inl ⟨rfl, by simp only [rlx, hu]⟩
  | some n =>
    refine .inr ⟨n, rfl, ?_⟩
    cases hv : s e.v with
    | none => exact .inl ⟨rfl, by simp only [rlx, hu, hv]⟩
    | some o =>
      refine .inr ⟨o, rfl, ?_⟩
      by_cases h : n + e.w < o
      · exact .inl ⟨h, by simp only [rlx, hu, hv, if_pos h]⟩
      · exact .inr ⟨h, by simp only [rlx, hu, hv, if_neg h]⟩
theorem rlx_le (s : Mst) (e : Ed) : Le s (rlx s e) := by
  rcases rlx_cases s e with ⟨_, h⟩ | ⟨n, hu, ⟨hv, h⟩ | ⟨o, hv, ⟨hlt, h⟩ | ⟨_, h⟩⟩⟩
  · rw [h]; exact Le.refl s
  · rw [h]
    intro v m hm
    have hne : v ≠ e.v := fun h => by rw [h, hv] at hm; cases hm
    exact ⟨m, by rw [put_other _ _ hne]; exact hm, Int.le_refl _⟩
  · rw [h]
    intro v m hm
    by_cases he : v = e.v
    · subst he
      rw [hv] at hm; cases hm
      exact ⟨_, put_self _ _ _, by omega⟩
    · exact ⟨m, by rw [put_other _ _ he]; exact hm, Int.le_refl _⟩
  · rw [h]; exact Le.refl s
theorem rlx_edge {s : Mst} {e : Ed} {a : Int} (ha : s e.u = some a) : ∃ b, rlx s e e.v = some b ∧ b ≤ a + e.w := by
  rcases rlx_cases s e with ⟨h0, _⟩ | ⟨n, hu, ⟨hv, h⟩ | ⟨o, hv, ⟨hlt, h⟩ | ⟨hge, h⟩⟩⟩
  · rw [ha] at h0; cases h0
  · rw [ha] at hu; cases hu
    rw [h]; exact ⟨_, put_self _ _ _, Int.le_refl _⟩
  · rw [ha] at hu; cases hu
    rw [h]; exact ⟨_, put_self _ _ _, Int.le_refl _⟩
  · rw [ha] at hu; cases hu
    rw [h]; exact ⟨o, hv, by omega⟩
theorem rlx_sound {s : Mst} {e : Ed} {P : Nat → Int → Prop} (hs : ∀ v m, s v = some m → P v m) (hP : ∀ n, P e.u n → P e.v (n + e.w)) : ∀ v m, rlx s e v = some m → P v m := by
  have hput : ∀ {n}, s e.u = some n → ∀ v m, put s e.v (n + e.w) v = some m → P v m := fun {n} hn v m hm => by
    by_cases hv : v = e.v
    · subst hv; rw [put_self] at hm; cases hm; exact hP n (hs _ _ hn)
    · rw [put_other _ _ hv] at hm; exact hs v m hm
  rcases rlx_cases s e with ⟨_, h⟩ | ⟨n, hu, ⟨_, h⟩ | ⟨o, _, ⟨_, h⟩ | ⟨_, h⟩⟩⟩
  · rw [h]; exact hs
  · rw [h]; exact hput hu
  · rw [h]; exact hput hu
  · rw [h]; exact hs
def rnd (L : List Ed) (s : Mst) : Mst := L.foldl rlx s
theorem rnd_le : ∀ (L : List Ed) (s : Mst), Le s (rnd L s)
  | [], s => Le.refl s
  | e :: L, s => (rlx_le s e).trans (rnd_le L (rlx s e))
theorem rnd_edge : ∀ (L : List Ed) (s : Mst) {e : Ed} {a : Int}, e ∈ L → s e.u = some a → ∃ b, rnd L s e.v = some b ∧ b ≤ a + e.w
  | x :: L, s, e, a, he, h => by
    rcases List.mem_cons.1 he with rfl | he
    · obtain ⟨b, h1, h2⟩ := rlx_edge h
      obtain ⟨c, h3, h4⟩ := rnd_le L (rlx s e) _ _ h1
      exact ⟨c, h3, Int.le_trans h4 h2⟩
    · obtain ⟨a', h1, h2⟩ := rlx_le s x _ _ h
      obtain ⟨b, h3, h4⟩ := rnd_edge L (rlx s x) he h1
      exact ⟨b, h3, by omega⟩
theorem rnd_sound {P : Nat → Int → Prop} : ∀ (L : List Ed) (s : Mst), (∀ v m, s v = some m → P v m) → (∀ e ∈ L, ∀ n, P e.u n → P e.v (n + e.w)) → ∀ v m, rnd L s v = some m → P v m
  | [], _, h, _ => h
  | e :: L, s, h, hP => rnd_sound L (rlx s e) (rlx_sound h (hP e (.head _))) fun x hx => hP x (.tail _ hx)
def rnds (L : List Ed) (s : Mst) : Nat → Mst
  | 0 => s
  | k + 1 => rnd L (rnds L s k)
theorem rnds_le (L : List Ed) (s : Mst) : ∀ k, Le s (rnds L s k)
  | 0 => Le.refl s
  | k + 1 => (rnds_le L s k).trans (rnd_le L _)
theorem rnds_sound {P : Nat → Int → Prop} {L : List Ed} {s : Mst} (h : ∀ v m, s v = some m → P v m) (hP : ∀ e ∈ L, ∀ n, P e.u n → P e.v (n + e.w)) : ∀ k v m, rnds L s k v = some m → P v m
  | 0 => h
  | k + 1 => rnd_sound L _ (rnds_sound h hP k) hP
def s0 (src : Nat) : Mst := fun y => if y = src then some 0 else none
theorem bf_sound {E L : List Ed} {src : Nat} (hL : ∀ e ∈ L, e ∈ E) (k : Nat) : ∀ v m, rnds L (s0 src) k v = some m → ∃ l, Wk E src l v ∧ wt l = m := by
  refine rnds_sound (P := fun v m => ∃ l, Wk E src l v ∧ wt l = m) (fun v m hm => ?_) (fun e he n hn => ?_) k
  · unfold s0 at hm
    split at hm
    · rename_i h; cases hm; exact ⟨[], h.symm, rfl⟩
    · cases hm
  · obtain ⟨l, h1, h2⟩ := hn
    refine ⟨l ++ [e], h1.app ⟨hL e he, rfl, rfl⟩, ?_⟩
    rw [wt_app, h2]; show n + (e.w + 0) = n + e.w; omega
theorem bf_walk {E L : List Ed} {src : Nat} (hL : ∀ e ∈ E, e ∈ L) : ∀ (k : Nat) {l : List Ed} {v : Nat}, l.length ≤ k → Wk E src l v → ∃ b, rnds L (s0 src) k v = some b ∧ b ≤ wt l
  | k, [], v, _, h => by
    cases h
    obtain ⟨m, h1, h2⟩ := rnds_le L (s0 src) k src 0 (if_pos rfl)
    exact ⟨m, h1, h2⟩
  | 0, e :: l, v, hl, _ => by rw [List.length_cons] at hl; omega
  | k + 1, e :: l, v, hl, h => by
    rcases List.eq_nil_or_concat (e :: l) with h0 | ⟨l', x, h0⟩
    · cases h0
    · rw [h0] at hl h ⊢
      rw [List.concat_eq_append] at hl h ⊢
      obtain ⟨z, h1, h2⟩ := Wk.split h
      obtain ⟨h3, h4, h5⟩ := h2
      cases h5
      rw [List.length_append] at hl
      obtain ⟨b, k1, k2⟩ := bf_walk hL k (l := l') (by simp at hl; omega) h1
      subst h4
      obtain ⟨c, k3, k4⟩ := rnd_edge L _ (hL x h3) k1
      refine ⟨c, k3, ?_⟩
      rw [wt_app]; show c ≤ wt l' + (x.w + 0); omega
termination_by k => k
/-- The least that a way from one station to another one can be. -/
def Dst (E : List Ed) (u v : Nat) (m : Int) : Prop := (∃ l, Wk E u l v ∧ wt l = m) ∧ ∀ l, Wk E u l v → m ≤ wt l
theorem Dst.uniq {E : List Ed} {u v : Nat} {m m' : Int} (h : Dst E u v m) (h' : Dst E u v m') : m = m' := by
  obtain ⟨⟨l, h1, h2⟩, h3⟩ := h
  obtain ⟨⟨l', k1, k2⟩, k3⟩ := h'
  have := h3 l' k1
  have := k3 l h1
  omega
theorem Dst.same {E E' : List Ed} (hE : ∀ e, e ∈ E ↔ e ∈ E') {u v : Nat} {m : Int} (h : Dst E u v m) : Dst E' u v m :=
  let ⟨l, h1, h2⟩ := h.1
  ⟨⟨l, h1.mono fun e he => (hE e).1 he, h2⟩, fun l hl => h.2 l (hl.mono fun e he => (hE e).2 he)⟩
section
variable {n : Nat} {E L : List Ed} {src : Nat} (hE : Below n E) (hN : NoNeg E) (hL : ∀ e, e ∈ L ↔ e ∈ E) (hs : src < n)
include hE hN hL hs
theorem bf_all {l : List Ed} {v : Nat} (h : Wk E src l v) : ∃ b, rnds L (s0 src) n v = some b ∧ b ≤ wt l := by
  obtain ⟨l', h1, h2, h3⟩ := shorten hE hN _ rfl h hs
  obtain ⟨b, h4, h5⟩ := bf_walk (fun e he => (hL e).2 he) n (by omega) h1
  exact ⟨b, h4, Int.le_trans h5 h3⟩
theorem bf_dst {v : Nat} {m : Int} : rnds L (s0 src) n v = some m ↔ Dst E src v m := by
  have snd : ∀ {m : Int}, rnds L (s0 src) n v = some m → Dst E src v m := fun {m} h => by
    refine ⟨bf_sound (fun e he => (hL e).1 he) n v m h, fun l hl => ?_⟩
    obtain ⟨b, h1, h2⟩ := bf_all hE hN hL hs hl
    rw [h] at h1; cases h1; exact h2
  refine ⟨snd, fun h => ?_⟩
  obtain ⟨l, h1, _⟩ := h.1
  obtain ⟨b, h2, _⟩ := bf_all hE hN hL hs h1
  rw [h2, (snd h2).uniq h]
theorem bf_none {v : Nat} : rnds L (s0 src) n v = none ↔ ∀ l, ¬ Wk E src l v := by
  constructor
  · intro h l hl
    obtain ⟨b, h1, _⟩ := bf_all hE hN hL hs hl
    rw [h] at h1; cases h1
  · intro h
    cases e : rnds L (s0 src) n v with
    | none => rfl
    | some m =>
      obtain ⟨l, h1, _⟩ := bf_sound (fun e he => (hL e).1 he) n v m e
      exact absurd h1 (h l)
end
def mn : List Int → Int
  | [] => 0
  | x :: l => min x (mn l)
theorem mn_le : ∀ {l : List Int}, mn l ≤ 0 ∧ ∀ x ∈ l, mn l ≤ x
  | [] => ⟨Int.le_refl _, fun _ h => by cases h⟩
  | y :: l => by
    obtain ⟨h1, h2⟩ := mn_le (l := l)
    refine ⟨by show min y (mn l) ≤ 0; omega, fun x hx => ?_⟩
    show min y (mn l) ≤ x
    rcases List.mem_cons.1 hx with rfl | hx
    · omega
    · have := h2 x hx; omega
theorem mn_mem : ∀ (l : List Int), mn l = 0 ∨ mn l ∈ l
  | [] => .inl rfl
  | y :: l => by
    show min y (mn l) = 0 ∨ min y (mn l) ∈ y :: l
    by_cases h : y ≤ mn l
    · rw [Int.min_eq_left h]; exact .inr (.head _)
    · rw [Int.min_eq_right (by omega)]
      rcases mn_mem l with h1 | h1
      · exact .inl h1
      · exact .inr (.tail _ h1)
/-- Places: the least way to each station from any one. -/
def pot (n : Nat) (L : List Ed) (v : Nat) : Int := mn ((List.range n).filterMap fun s => rnds L (s0 s) n v)
theorem pot_feas {n : Nat} {E : List Ed} (hE : Below n E) (hN : NoNeg E) : Feas (pot n E) E := fun e he => by
  obtain ⟨hu, hv⟩ := hE e he
  have hL : ∀ x, x ∈ E ↔ x ∈ E := fun _ => Iff.rfl
  have key : ∀ s, s < n → ∀ l, Wk E s l e.u → pot n E e.v ≤ wt l + e.w := fun s hs l hl => by
    obtain ⟨b, h1, h2⟩ := bf_all hE hN hL hs (hl.app (b := [e]) (v := e.v) ⟨he, rfl, rfl⟩)
    have h3 := (mn_le (l := (List.range n).filterMap fun s => rnds E (s0 s) n e.v)).2 b (List.mem_filterMap.2 ⟨s, List.mem_range.2 hs, h1⟩)
    rw [wt_app] at h2
    have h4 : wt [e] = e.w := Int.add_zero _
    unfold pot
    omega
  rcases mn_mem ((List.range n).filterMap fun s => rnds E (s0 s) n e.u) with h | h
  · have h1 := key e.u hu [] rfl
    have h2 : pot n E e.u = 0 := h
    have h3 : wt [] = 0 := rfl
    omega
  · obtain ⟨s, hs, h1⟩ := List.mem_filterMap.1 h
    obtain ⟨l, h2, h3⟩ := bf_sound (fun x hx => hx) n _ _ h1
    have h4 := key s (List.mem_range.1 hs) l h2
    have h5 : pot n E e.u = wt l := h3.symm
    omega
theorem feas_iff {n : Nat} {E : List Ed} (hE : Below n E) : (∃ x, Feas x E) ↔ NoNeg E :=
  ⟨fun ⟨_, h⟩ => h.noneg, fun h => ⟨_, pot_feas hE h⟩⟩
end Go.ChaM
namespace Go.ChaM
structure SiD where
  (fr to el eh nl nh : Int)
structure ChD where
  n : Int
  si : List SiD
/-- The ends of a sight's span: to the east, or to the north. -/
def loA (a : Bool) (s : SiD) : Int := if a then s.nl else s.el
def hiA (a : Bool) (s : SiD) : Int := if a then s.nh else s.eh
structure SiOk (n : Int) (s : SiD) : Prop where
  f0 : 0 ≤ s.fr
  f1 : s.fr < n
  t0 : 0 ≤ s.to
  t1 : s.to < n
  ne : s.fr ≠ s.to
  l : ∀ a, -1073741824 ≤ loA a s
  m : ∀ a, loA a s ≤ hiA a s
  h : ∀ a, hiA a s ≤ 1073741824
structure ChOk (c : ChD) : Prop where
  n1 : 1 ≤ c.n
  n2 : c.n ≤ 8
  l : c.si.length ≤ 10
  s : ∀ s ∈ c.si, SiOk c.n s
def inC (n a b : Int) : Bool := decide (a ≤ n) && decide (n ≤ b)
def siB (n : Int) (s : SiD) : Bool := inC s.fr 0 (n - 1) && inC s.to 0 (n - 1) && !decide (s.fr = s.to) && (inC s.el (-1073741824) s.eh && decide (s.eh ≤ 1073741824)) && (inC s.nl (-1073741824) s.nh && decide (s.nh ≤ 1073741824))
def chB (c : ChD) : Bool := inC c.n 1 8 && decide (c.si.length ≤ 10) && c.si.all (siB c.n)
theorem siB_iff {n : Int} {s : SiD} : siB n s = true ↔ SiOk n s := by
  unfold siB inC
  simp only [Bool.and_eq_true, decide_eq_true_eq, Bool.not_eq_true', decide_eq_false_iff_not]
  constructor
  · rintro ⟨⟨⟨⟨⟨h1, h2⟩, h3, h4⟩, h5⟩, ⟨h6, h7⟩, h8⟩, ⟨h9, h10⟩, h11⟩
    exact ⟨h1, by omega, h3, by omega, h5, fun a => by cases a <;> assumption, fun a => by cases a <;> assumption, fun a => by cases a <;> assumption⟩
  · intro h
    have h1 := h.f1; have h2 := h.t1
    exact ⟨⟨⟨⟨⟨h.f0, by omega⟩, h.t0, by omega⟩, h.ne⟩, ⟨h.l false, h.m false⟩, h.h false⟩, ⟨h.l true, h.m true⟩, h.h true⟩
theorem chB_iff {c : ChD} : chB c = true ↔ ChOk c := by
  unfold chB inC
  simp only [Bool.and_eq_true, decide_eq_true_eq, List.all_eq_true]
  exact ⟨fun ⟨⟨⟨h1, h2⟩, h3⟩, h4⟩ => ⟨h1, h2, h3, fun s hs => siB_iff.1 (h4 s hs)⟩, fun h => ⟨⟨⟨h.n1, h.n2⟩, h.l⟩, fun s hs => siB_iff.2 (h.s s hs)⟩⟩
/-- What a sight bounds, from either end; the tag tells the sight, and the end. -/
def edF (a : Bool) (i : Nat) (s : SiD) : Ed := ⟨s.fr.toNat, s.to.toNat, hiA a s, 2 * i⟩
def edT (a : Bool) (i : Nat) (s : SiD) : Ed := ⟨s.to.toNat, s.fr.toNat, -loA a s, 2 * i + 1⟩
/-- What some sights bound. -/
def edE (c : ChD) (a : Bool) (S : Nat → Bool) : List Ed := (List.range c.si.length).flatMap fun i => if S i then (match c.si[i]? with | some s => [edF a i s, edT a i s] | none => []) else []
theorem edE_mem {c : ChD} {a : Bool} {S : Nat → Bool} {e : Ed} : e ∈ edE c a S ↔ ∃ i s, c.si[i]? = some s ∧ S i = true ∧ (e = edF a i s ∨ e = edT a i s) := by
  unfold edE
  rw [List.mem_flatMap]
  constructor
  · rintro ⟨i, _, h⟩
    split at h
    · rename_i hS
      cases hs : c.si[i]? with
      | none => rw [hs] at h; cases h
      | some s =>
        rw [hs] at h
        simp only [List.mem_cons, List.not_mem_nil, or_false] at h
        exact ⟨i, s, hs, hS, h⟩
    · cases h
  · rintro ⟨i, s, hs, hS, h⟩
    refine ⟨i, List.mem_range.2 (List.getElem?_eq_some_iff.1 hs).1, ?_⟩
    rw [if_pos hS, hs]
    simp only [List.mem_cons, List.not_mem_nil, or_false]
    exact h
theorem edE_below {c : ChD} (hO : ChOk c) (a : Bool) (S : Nat → Bool) : Below c.n.toNat (edE c a S) := fun e he => by
  obtain ⟨i, s, hs, _, h⟩ := edE_mem.1 he
  have ho := hO.s s (List.mem_of_getElem? hs)
  have h1 := ho.f0; have h2 := ho.f1; have h3 := ho.t0; have h4 := ho.t1
  rcases h with rfl | rfl
  · exact ⟨by show s.fr.toNat < _; omega, by show s.to.toNat < _; omega⟩
  · exact ⟨by show s.to.toNat < _; omega, by show s.fr.toNat < _; omega⟩
theorem edE_mono {c : ChD} {a : Bool} {S S' : Nat → Bool} (h : ∀ i, S i = true → S' i = true) : ∀ e ∈ edE c a S, e ∈ edE c a S' := fun e he => by
  obtain ⟨i, s, hs, hS, h1⟩ := edE_mem.1 he
  exact edE_mem.2 ⟨i, s, hs, h i hS, h1⟩
/-- A sight is right: its far end lies within its span, seen from its near end. -/
def Right (a : Bool) (x : Nat → Int) (s : SiD) : Prop := loA a s ≤ x s.to.toNat - x s.fr.toNat ∧ x s.to.toNat - x s.fr.toNat ≤ hiA a s
theorem feas_E {c : ChD} {a : Bool} {S : Nat → Bool} {x : Nat → Int} : Feas x (edE c a S) ↔ ∀ i s, c.si[i]? = some s → S i = true → Right a x s := by
  constructor
  · intro h i s hs hS
    have h1 := h _ (edE_mem.2 ⟨i, s, hs, hS, .inl rfl⟩)
    have h2 := h _ (edE_mem.2 ⟨i, s, hs, hS, .inr rfl⟩)
    replace h1 : x s.to.toNat ≤ x s.fr.toNat + hiA a s := h1
    replace h2 : x s.fr.toNat ≤ x s.to.toNat + -loA a s := h2
    exact ⟨by omega, by omega⟩
  · intro h e he
    obtain ⟨i, s, hs, hS, h1⟩ := edE_mem.1 he
    obtain ⟨h2, h3⟩ := h i s hs hS
    rcases h1 with rfl | rfl
    · show x s.to.toNat ≤ x s.fr.toNat + hiA a s; omega
    · show x s.fr.toNat ≤ x s.to.toNat + -loA a s; omega
/-- Some sights can all be right. -/
def Can (c : ChD) (S : Nat → Bool) : Prop := ∀ a, NoNeg (edE c a S)
theorem can_iff {c : ChD} (hO : ChOk c) {S : Nat → Bool} : Can c S ↔ ∀ a, ∃ x, ∀ i s, c.si[i]? = some s → S i = true → Right a x s := by
  constructor
  · intro h a
    obtain ⟨x, hx⟩ := (feas_iff (edE_below hO a S)).2 (h a)
    exact ⟨x, feas_E.1 hx⟩
  · intro h a
    obtain ⟨x, hx⟩ := h a
    exact (feas_E.2 hx).noneg
theorem Can.less {c : ChD} {S S' : Nat → Bool} (h : Can c S') (hS : ∀ i, S i = true → S' i = true) : Can c S := fun a u l hl => h a u l (hl.mono (edE_mono hS))
/-- A sight that is looked at from one end. -/
structure LkD where
  (i to : Nat)
  back : Bool
def lkOf (u i : Nat) (s : SiD) : List LkD := if s.fr = (u : Int) then [⟨i, s.to.toNat, false⟩] else if s.to = (u : Int) then [⟨i, s.fr.toNat, true⟩] else []
/-- The sights of a station, in their order. -/
def lkT (c : ChD) (u : Nat) : Nat → List LkD
  | 0 => []
  | i + 1 => lkT c u i ++ (match c.si[i]? with | some s => lkOf u i s | none => [])
def lks (c : ChD) (u : Nat) : List LkD := lkT c u c.si.length
theorem lkT_mem {c : ChD} {u : Nat} {l : LkD} : ∀ {n : Nat}, l ∈ lkT c u n ↔ ∃ s, l.i < n ∧ c.si[l.i]? = some s ∧ l ∈ lkOf u l.i s
  | 0 => by simp [lkT]
  | n + 1 => by
    have own : ∀ {i : Nat} {s : SiD}, l ∈ lkOf u i s → l.i = i := fun {i s} h => by
      unfold lkOf at h
      split at h
      · rw [List.mem_singleton.1 h]
      · split at h
        · rw [List.mem_singleton.1 h]
        · cases h
    rw [lkT, List.mem_append, lkT_mem]
    constructor
    · rintro (⟨s, h1, h2, h3⟩ | h)
      · exact ⟨s, by omega, h2, h3⟩
      · cases hs : c.si[n]? with
        | none => rw [hs] at h; cases h
        | some s =>
          rw [hs] at h
          have e := own h
          exact ⟨s, by omega, by rw [e]; exact hs, by rw [e]; exact h⟩
    · rintro ⟨s, h1, h2, h3⟩
      by_cases e : l.i = n
      · right
        rw [← e, h2]; exact h3
      · exact .inl ⟨s, by omega, h2, h3⟩
theorem lks_mem {c : ChD} {u : Nat} {l : LkD} : l ∈ lks c u ↔ ∃ s, c.si[l.i]? = some s ∧ l ∈ lkOf u l.i s := by
  unfold lks
  rw [lkT_mem]
  exact ⟨fun ⟨s, _, h2, h3⟩ => ⟨s, h2, h3⟩, fun ⟨s, h2, h3⟩ => ⟨s, (List.getElem?_eq_some_iff.1 h2).1, h2, h3⟩⟩
/-- The ends of a look's span. -/
def lkH (c : ChD) (a : Bool) (l : LkD) : Int := match c.si[l.i]? with | some s => if l.back then -loA a s else hiA a s | none => 0
def lkL (c : ChD) (a : Bool) (l : LkD) : Int := match c.si[l.i]? with | some s => if l.back then -hiA a s else loA a s | none => 0
def lkE (c : ChD) (a : Bool) (u : Nat) (l : LkD) : Ed := ⟨u, l.to, lkH c a l, 2 * l.i + if l.back then 1 else 0⟩
/-- All bounds, in the order in which they are gone through; some sights are left out. -/
def edL (c : ChD) (a : Bool) (out : Nat → Bool) : List Ed := (List.range c.n.toNat).flatMap fun u => ((lks c u).filter fun l => !out l.i).map (lkE c a u)
theorem lk_ed {c : ChD} {a : Bool} {u : Nat} {l : LkD} {s : SiD} (hs : c.si[l.i]? = some s) (h : l ∈ lkOf u l.i s) : (lkE c a u l = edF a l.i s ∧ s.fr = (u : Int) ∧ l.back = false) ∨ (lkE c a u l = edT a l.i s ∧ s.to = (u : Int) ∧ l.back = true) := by
  unfold lkOf at h
  split at h
  · rename_i hu
    have e := List.mem_singleton.1 h
    have e1 : l.to = s.to.toNat := by rw [e]
    have e2 : l.back = false := by rw [e]
    refine .inl ⟨?_, hu, e2⟩
    unfold lkE lkH edF
    rw [hs, e1, e2, hu]
    simp
  · split at h
    · rename_i hu
      have e := List.mem_singleton.1 h
      have e1 : l.to = s.fr.toNat := by rw [e]
      have e2 : l.back = true := by rw [e]
      refine .inr ⟨?_, hu, e2⟩
      unfold lkE lkH edT
      rw [hs, e1, e2, hu]
      simp
    · cases h
theorem edL_mem {c : ChD} (hO : ChOk c) {a : Bool} {out : Nat → Bool} {e : Ed} : e ∈ edL c a out ↔ e ∈ edE c a (fun i => !out i) := by
  unfold edL
  rw [List.mem_flatMap, edE_mem]
  constructor
  · rintro ⟨u, _, h⟩
    obtain ⟨l, hl, rfl⟩ := List.mem_map.1 h
    obtain ⟨h1, h2⟩ := List.mem_filter.1 hl
    obtain ⟨s, hs, h3⟩ := lks_mem.1 h1
    refine ⟨l.i, s, hs, h2, ?_⟩
    rcases lk_ed (a := a) hs h3 with ⟨h, _⟩ | ⟨h, _⟩
    · exact .inl h
    · exact .inr h
  · rintro ⟨i, s, hs, hS, h⟩
    have ho := hO.s s (List.mem_of_getElem? hs)
    have h1 := ho.f0; have h2 := ho.f1; have h3 := ho.t0; have h4 := ho.t1; have h5 := ho.ne
    rcases h with rfl | rfl
    · refine ⟨s.fr.toNat, List.mem_range.2 (by omega), List.mem_map.2 ⟨⟨i, s.to.toNat, false⟩, List.mem_filter.2 ⟨lks_mem.2 ⟨s, hs, ?_⟩, hS⟩, ?_⟩⟩
      · unfold lkOf; rw [if_pos (by omega)]; exact .head _
      · unfold lkE lkH edF; simp only [hs]; rfl
    · refine ⟨s.to.toNat, List.mem_range.2 (by omega), List.mem_map.2 ⟨⟨i, s.fr.toNat, true⟩, List.mem_filter.2 ⟨lks_mem.2 ⟨s, hs, ?_⟩, hS⟩, ?_⟩⟩
      · unfold lkOf; rw [if_neg (by omega), if_pos (by omega)]; exact .head _
      · unfold lkE lkH edT; simp only [hs]; rfl
end Go.ChaM
namespace Go.ChaM
/-- All circles from a station on, past some, by a way so far. -/
def cirN (c : ChD) (b : Nat) : Nat → Nat → Nat → List LkD → List (List LkD)
  | 0, _, _, _ => []
  | f + 1, at_, ps, way => (lks c at_).flatMap fun l => if l.to < b ∨ way.any (fun o => decide (o.i = l.i)) = true then [] else if l.to = b then [way ++ [l]] else if ps.testBit l.to = true then [] else cirN c b f l.to (ps ||| 2 ^ l.to) (way ++ [l])
def Cir (c : ChD) (b : Nat) : Nat → Nat → List LkD → List LkD → Prop
  | _, _, _, [] => False
  | at_, ps, way, l :: tl => l ∈ lks c at_ ∧ b ≤ l.to ∧ (∀ o ∈ way, o.i ≠ l.i) ∧ ((l.to = b ∧ tl = []) ∨ (l.to ≠ b ∧ ps.testBit l.to = false ∧ Cir c b l.to (ps ||| 2 ^ l.to) (way ++ [l]) tl))
theorem cirN_mem {c : ChD} {b : Nat} : ∀ {f at_ ps : Nat} {way w : List LkD}, w ∈ cirN c b f at_ ps way ↔ ∃ tl, tl.length ≤ f ∧ w = way ++ tl ∧ Cir c b at_ ps way tl
  | 0, at_, ps, way, w => by
    constructor
    · intro h; cases h
    · rintro ⟨tl, h1, _, h3⟩
      have e : tl = [] := List.eq_nil_of_length_eq_zero (by omega)
      rw [e] at h3
      exact h3.elim
  | f + 1, at_, ps, way, w => by
    rw [cirN, List.mem_flatMap]
    constructor
    · rintro ⟨l, hl, h⟩
      split at h
      · cases h
      · rename_i hn
        have h1 : b ≤ l.to := by
          refine Decidable.byContradiction fun h => hn (.inl (by omega))
        have h2 : ∀ o ∈ way, o.i ≠ l.i := fun o ho e => hn (.inr (List.any_eq_true.2 ⟨o, ho, decide_eq_true e⟩))
        split at h
        · rename_i hb
          exact ⟨[l], by simp, List.mem_singleton.1 h, hl, h1, h2, .inl ⟨hb, rfl⟩⟩
        · rename_i hb
          split at h
          · cases h
          · rename_i hp
            obtain ⟨tl, k1, k2, k3⟩ := cirN_mem.1 h
            exact ⟨l :: tl, by simp; omega, by rw [k2]; simp, hl, h1, h2, .inr ⟨hb, by simpa using hp, k3⟩⟩
    · rintro ⟨tl, h1, h2, h3⟩
      cases tl with
      | nil => exact h3.elim
      | cons l tl =>
        obtain ⟨k1, k2, k3, k4⟩ := h3
        refine ⟨l, k1, ?_⟩
        rw [if_neg (by
          rintro (h | h)
          · omega
          · obtain ⟨o, ho, e⟩ := List.any_eq_true.1 h
            exact k3 o ho (of_decide_eq_true e))]
        rcases k4 with ⟨hb, rfl⟩ | ⟨hb, hp, hc⟩
        · rw [if_pos hb, h2]; exact .head _
        · rw [if_neg hb, if_neg (by rw [hp]; decide)]
          exact cirN_mem.2 ⟨tl, by rw [List.length_cons] at h1; omega, by rw [h2]; simp, hc⟩
/-- All circles of a chart, in the order in which they are looked for. -/
def cirL (c : ChD) : List (List LkD) := (List.range c.n.toNat).flatMap fun b => cirN c b c.n.toNat b (2 ^ b) []
/-- Looks, one after the other. -/
def LkC (c : ChD) : Nat → List LkD → Nat → Prop
  | u, [], v => u = v
  | u, l :: w, v => l ∈ lks c u ∧ LkC c l.to w v
theorem cir_chain {c : ChD} {b : Nat} : ∀ {tl way : List LkD} {at_ ps : Nat}, Cir c b at_ ps way tl → LkC c at_ tl b
  | _ :: _, _, _, _, h => by
    obtain ⟨k1, _, _, k4⟩ := h
    refine ⟨k1, ?_⟩
    rcases k4 with ⟨hb, rfl⟩ | ⟨_, _, hc⟩
    · exact hb
    · exact cir_chain hc
def sumH (c : ChD) (a : Bool) : List LkD → Int
  | [] => 0
  | l :: w => lkH c a l + sumH c a w
def sumL (c : ChD) (a : Bool) : List LkD → Int
  | [] => 0
  | l :: w => lkL c a l + sumL c a w
theorem chain_ends {c : ChD} (hO : ChOk c) {a : Bool} {x : Nat → Int} {S : Nat → Bool} (hx : ∀ i s, c.si[i]? = some s → S i = true → Right a x s) : ∀ {w : List LkD} {u v : Nat}, (∀ l ∈ w, S l.i = true) → LkC c u w v → sumL c a w ≤ x v - x u ∧ x v - x u ≤ sumH c a w
  | [], u, v, _, h => by cases h; exact ⟨by show (0 : Int) ≤ _; omega, by show _ ≤ (0 : Int); omega⟩
  | l :: w, u, v, hS, h => by
    obtain ⟨h1, h2⟩ := chain_ends hO hx (fun l hl => hS l (.tail _ hl)) h.2
    obtain ⟨s, hs, hl⟩ := lks_mem.1 h.1
    obtain ⟨r1, r2⟩ := hx l.i s hs (hS l (.head _))
    have ho := hO.s s (List.mem_of_getElem? hs)
    show lkL c a l + sumL c a w ≤ _ ∧ _ ≤ lkH c a l + sumH c a w
    unfold lkOf at hl
    split at hl
    · rename_i hu
      have e := List.mem_singleton.1 hl
      have e1 : l.to = s.to.toNat := by rw [e]
      have e2 : l.back = false := by rw [e]
      have e3 : s.fr.toNat = u := by rw [hu]; rfl
      rw [e1] at h1 h2
      rw [e3] at r1 r2
      unfold lkL lkH
      rw [hs, e2]
      dsimp only
      simp only [Bool.false_eq_true, if_false]
      omega
    · split at hl
      · rename_i hu
        have e := List.mem_singleton.1 hl
        have e1 : l.to = s.fr.toNat := by rw [e]
        have e2 : l.back = true := by rw [e]
        have e3 : s.to.toNat = u := by rw [hu]; rfl
        rw [e1] at h1 h2
        rw [e3] at r1 r2
        unfold lkL lkH
        rw [hs, e2]
        dsimp only
        simp only [if_true]
        omega
      · cases hl
/-- A circle that cannot be right: it does not come back. -/
def badW (c : ChD) (a : Bool) (w : List LkD) : Bool := decide (0 < sumL c a w) || decide (sumH c a w < 0)
theorem bad_can {c : ChD} (hO : ChOk c) {S : Nat → Bool} (hC : Can c S) {w : List LkD} (hw : w ∈ cirL c) (hS : ∀ l ∈ w, S l.i = true) (a : Bool) : badW c a w = false := by
  obtain ⟨x, hx⟩ := (can_iff hO).1 hC a
  obtain ⟨b, _, h⟩ := List.mem_flatMap.1 hw
  obtain ⟨tl, _, h2, h3⟩ := cirN_mem.1 h
  rw [List.nil_append] at h2
  subst h2
  obtain ⟨h4, h5⟩ := chain_ends hO hx hS (cir_chain h3)
  unfold badW
  rw [decide_eq_false (by omega), decide_eq_false (by omega)]; rfl
/-- Round and less than nothing: told from its least station on. -/
theorem neg_round {E : List Ed} (h : ¬ NoNeg E) : ∃ m L, Wk E m L m ∧ wt L < 0 ∧ (L.map Ed.v).Nodup ∧ (∀ e ∈ L, m ≤ e.v) := by
  have h1 : ∃ u l, Wk E u l u ∧ wt l < 0 := by
    refine Classical.byContradiction fun hn => h fun u l hl => ?_
    refine Decidable.byContradiction fun hw => hn ⟨u, l, hl, by omega⟩
  obtain ⟨u, l, hl, hw⟩ := h1
  obtain ⟨z, b, k1, k2, k3⟩ := neg_simple _ rfl hl hw
  have hmin : ∀ (b : List Ed), b ≠ [] → ∃ p e q, b = p ++ e :: q ∧ ∀ x ∈ b, e.v ≤ x.v := by
    intro b
    induction b with
    | nil => intro h; exact absurd rfl h
    | cons y b ih =>
      intro _
      by_cases hb : b = []
      · subst hb
        exact ⟨[], y, [], rfl, fun x hx => by rw [List.mem_singleton.1 hx]; exact Nat.le_refl _⟩
      · obtain ⟨p, e, q, e1, e2⟩ := ih hb
        by_cases hle : y.v ≤ e.v
        · exact ⟨[], y, b, rfl, fun x hx => by
            rcases List.mem_cons.1 hx with rfl | hx
            · exact Nat.le_refl _
            · exact Nat.le_trans hle (e2 x hx)⟩
        · exact ⟨y :: p, e, q, by rw [e1]; rfl, fun x hx => by
            rcases List.mem_cons.1 hx with rfl | hx
            · omega
            · exact e2 x hx⟩
  obtain ⟨p, e, q, rfl, hm⟩ := hmin b (fun h => by rw [h] at k2; exact absurd k2 (Int.lt_irrefl 0))
  obtain ⟨y, q1, q2⟩ := Wk.split k1
  obtain ⟨q3, q4, q5⟩ := q2
  have hperm : (q ++ (p ++ [e])).Perm (p ++ e :: q) := by
    refine List.perm_append_comm.trans ?_
    rw [List.append_assoc]; exact .refl _
  refine ⟨e.v, q ++ (p ++ [e]), q5.app (q1.app (b := [e]) ⟨q3, q4, rfl⟩), ?_, (hperm.map Ed.v).nodup_iff.2 k3, fun x hx => hm x (hperm.mem_iff.1 hx)⟩
  rw [wt_app] at k2
  rw [wt_app, wt_app]
  have h1 : wt (e :: q) = e.w + wt q := rfl
  have h2 : wt [e] = e.w + 0 := rfl
  omega
end Go.ChaM
namespace Go.ChaM
def toL (e : Ed) : LkD := ⟨e.t / 2, e.v, decide (e.t % 2 = 1)⟩
theorem toL_ok {c : ChD} (hO : ChOk c) {a : Bool} {S : Nat → Bool} {e : Ed} (he : e ∈ edE c a S) : toL e ∈ lks c e.u ∧ lkH c a (toL e) = e.w ∧ S (e.t / 2) = true := by
  obtain ⟨i, s, hs, hS, h⟩ := edE_mem.1 he
  have ho := hO.s s (List.mem_of_getElem? hs)
  have h1 := ho.f0; have h3 := ho.t0; have h5 := ho.ne
  rcases h with rfl | rfl
  · have e1 : toL (edF a i s) = ⟨i, s.to.toNat, false⟩ := by
      show (⟨2 * i / 2, s.to.toNat, decide (2 * i % 2 = 1)⟩ : LkD) = _
      rw [show 2 * i / 2 = i by omega, decide_eq_false (by omega)]
    have e2 : (edF a i s).t / 2 = i := by show 2 * i / 2 = i; omega
    rw [e1, e2]
    refine ⟨lks_mem.2 ⟨s, hs, ?_⟩, ?_, hS⟩
    · show _ ∈ lkOf s.fr.toNat i s
      unfold lkOf; rw [if_pos (by omega)]; exact .head _
    · unfold lkH; simp only [hs]; rfl
  · have e1 : toL (edT a i s) = ⟨i, s.fr.toNat, true⟩ := by
      show (⟨(2 * i + 1) / 2, s.fr.toNat, decide ((2 * i + 1) % 2 = 1)⟩ : LkD) = _
      rw [show (2 * i + 1) / 2 = i by omega, decide_eq_true (by omega)]
    have e2 : (edT a i s).t / 2 = i := by show (2 * i + 1) / 2 = i; omega
    rw [e1, e2]
    refine ⟨lks_mem.2 ⟨s, hs, ?_⟩, ?_, hS⟩
    · show _ ∈ lkOf s.to.toNat i s
      unfold lkOf; rw [if_neg (by omega), if_pos (by omega)]; exact .head _
    · unfold lkH; simp only [hs]; rfl
theorem wk_get {E : List Ed} : ∀ {L : List Ed} {u v i : Nat} {e : Ed}, Wk E u L v → L[i]? = some e → e.u = vat u L i ∧ e.v = vat u L (i + 1)
  | x :: L, u, v, 0, e, h, he => by
    cases he
    exact ⟨h.2.1, rfl⟩
  | x :: L, u, v, i + 1, e, h, he => wk_get (u := x.v) h.2.2 he
theorem wk_end {E : List Ed} : ∀ {L : List Ed} {u v : Nat}, Wk E u L v → vat u L L.length = v
  | [], _, _, h => h
  | x :: L, u, v, h => wk_end (u := x.v) h.2.2
theorem wk_last {E : List Ed} : ∀ {L : List Ed} {u v : Nat}, Wk E u L v → L ≠ [] → v ∈ L.map Ed.v
  | [x], u, v, h, _ => by
    have h1 : x.v = v := h.2.2
    rw [← h1]; exact .head _
  | x :: y :: L, u, v, h, _ => .tail _ (wk_last h.2.2 (by simp))
theorem getD_inj {L : List Nat} (hn : L.Nodup) {p q : Nat} (hp : p < L.length) (hq : q < L.length) (e : L.getD p 0 = L.getD q 0) : p = q := by
  rw [List.Nodup, List.pairwise_iff_getElem] at hn
  rw [List.getD_eq_getElem?_getD, List.getD_eq_getElem?_getD, List.getElem?_eq_getElem hp, List.getElem?_eq_getElem hq] at e
  rcases Nat.lt_trichotomy p q with h | h | h
  · exact absurd e (hn p q hp hq h)
  · exact h
  · exact absurd e.symm (hn q p hq hp h)
theorem vat_inj {u : Nat} {L : List Ed} (hn : (L.map Ed.v).Nodup) {p q : Nat} (hp : p < L.length) (hq : q < L.length) (e : vat u L (p + 1) = vat u L (q + 1)) : p = q :=
  getD_inj hn (by rw [List.length_map]; exact hp) (by rw [List.length_map]; exact hq) e
theorem sights_nodup {c : ChD} (hO : ChOk c) {a : Bool} {S : Nat → Bool} {m : Nat} {L : List Ed} (h : Wk (edE c a S) m L m) (hw : wt L < 0) (hn : (L.map Ed.v).Nodup) : (L.map fun e => e.t / 2).Nodup := by
  refine Decidable.byContradiction fun hnd => ?_
  obtain ⟨i, j, hij, hj, e⟩ := not_nodup hnd
  rw [List.length_map] at hj
  have gi : L[i]? = some L[i] := List.getElem?_eq_getElem (by omega)
  have gj : L[j]? = some L[j] := List.getElem?_eq_getElem hj
  obtain ⟨x, hx⟩ : ∃ x, x = L[i] := ⟨_, rfl⟩
  obtain ⟨y, hy⟩ : ∃ y, y = L[j] := ⟨_, rfl⟩
  rw [← hx] at gi
  rw [← hy] at gj
  have et : x.t / 2 = y.t / 2 := by
    rw [List.getD_eq_getElem?_getD, List.getD_eq_getElem?_getD, List.getElem?_map, List.getElem?_map, gi, gj] at e
    exact e
  obtain ⟨x1, x2⟩ := wk_get h gi
  obtain ⟨y1, y2⟩ := wk_get h gj
  have hxm := h.mem x (List.mem_of_getElem? gi)
  have hym := h.mem y (List.mem_of_getElem? gj)
  have hend := wk_end h
  have opp : x.v = y.u → y.v = x.u → 0 ≤ x.w + y.w → False := fun o1 o2 o3 => by
    rw [x2, y1] at o1
    rw [y2, x1] at o2
    obtain ⟨j', rfl⟩ : ∃ j', j = j' + 1 := ⟨j - 1, by omega⟩
    have hij2 := vat_inj hn (by omega) (by omega) o1
    subst hij2
    cases i with
    | succ i =>
      have := vat_inj hn (p := i + 1 + 1) (q := i) hj (by omega) o2
      omega
    | zero =>
      have o4 : vat m L (0 + 1 + 1) = vat m L L.length := by rw [o2, hend]; rfl
      obtain ⟨k, hk⟩ : ∃ k, L.length = k + 1 := ⟨L.length - 1, by omega⟩
      rw [hk] at o4
      have := vat_inj hn (p := 0 + 1) (q := k) (by omega) (by omega) o4
      have hl : L.length = 2 := by omega
      match L, hl with
      | [p, q], _ =>
        cases gi; cases gj
        have : wt [x, y] = x.w + (y.w + 0) := rfl
        omega
  obtain ⟨i0, s, hs, _, hc⟩ := edE_mem.1 hxm
  obtain ⟨i1, s', hs', _, hc'⟩ := edE_mem.1 hym
  have same : i0 = i1 → s = s' := fun e => by rw [e, hs'] at hs; exact (Option.some.inj hs).symm
  have hv : x.v ≠ y.v := fun e => by
    rw [x2, y2] at e
    have := vat_inj hn (by omega) (by omega) e
    omega
  have lo := fun a => (hO.s s (List.mem_of_getElem? hs)).m a
  rcases hc with rfl | rfl <;> rcases hc' with rfl | rfl
  · have e3 : i0 = i1 := by replace et : 2 * i0 / 2 = 2 * i1 / 2 := et; omega
    have e4 := same e3
    exact hv (by rw [e4]; rfl)
  · have e3 : i0 = i1 := by replace et : 2 * i0 / 2 = (2 * i1 + 1) / 2 := et; omega
    have e4 := same e3
    subst e4
    refine opp rfl rfl ?_
    have := lo a
    show 0 ≤ hiA a s + -loA a s; omega
  · have e3 : i0 = i1 := by replace et : (2 * i0 + 1) / 2 = 2 * i1 / 2 := et; omega
    have e4 := same e3
    subst e4
    refine opp rfl rfl ?_
    have := lo a
    show 0 ≤ -loA a s + hiA a s; omega
  · have e3 : i0 = i1 := by replace et : (2 * i0 + 1) / 2 = (2 * i1 + 1) / 2 := et; omega
    have e4 := same e3
    exact hv (by rw [e4]; rfl)
theorem cir_of {c : ChD} (hO : ChOk c) {a : Bool} {S : Nat → Bool} {m : Nat} : ∀ {tl : List Ed} {at_ ps : Nat} {way : List LkD}, Wk (edE c a S) at_ tl m → tl ≠ [] → (tl.map Ed.v).Nodup → (∀ e ∈ tl, m ≤ e.v) → (∀ e ∈ tl, e.v ≠ m → ps.testBit e.v = false) →
    (tl.map fun e => e.t / 2).Nodup → (∀ o ∈ way, ∀ e ∈ tl, o.i ≠ e.t / 2) → Cir c m at_ ps way (tl.map toL)
  | e :: tl, at_, ps, way, h, _, hn, hm, hp, ht, hw => by
    obtain ⟨h1, h2, h3⟩ := h
    subst h2
    obtain ⟨k1, _, _⟩ := toL_ok hO h1
    rw [List.map_cons, List.nodup_cons] at hn ht
    refine ⟨k1, hm e (.head _), fun o ho => hw o ho e (.head _), ?_⟩
    by_cases hv : e.v = m
    · left
      refine ⟨hv, ?_⟩
      cases tl with
      | nil => rfl
      | cons x tl =>
        refine absurd ?_ hn.1
        rw [hv]
        exact wk_last h3 (by simp)
    · right
      have hne : tl ≠ [] := fun e0 => by rw [e0] at h3; exact hv h3
      refine ⟨hv, hp e (.head _) hv, cir_of hO h3 hne hn.2 (fun x hx => hm x (.tail _ hx)) (fun x hx hxm => ?_) ht.2 (fun o ho x hx => ?_)⟩
      · have h4 : e.v ≠ x.v := fun e4 => hn.1 (by rw [e4]; exact List.mem_map.2 ⟨x, hx, rfl⟩)
        have h5 : (toL e).to = e.v := rfl
        rw [h5, Nat.testBit_or, hp x (.tail _ hx) hxm, Nat.testBit_two_pow, decide_eq_false h4]; rfl
      · rcases List.mem_append.1 ho with ho | ho
        · exact hw o ho x (.tail _ hx)
        · rw [List.mem_singleton.1 ho]
          intro e4
          exact ht.1 (List.mem_map.2 ⟨x, hx, e4.symm⟩)
theorem sum_toL {c : ChD} (hO : ChOk c) {a : Bool} {S : Nat → Bool} : ∀ {L : List Ed}, (∀ e ∈ L, e ∈ edE c a S) → sumH c a (L.map toL) = wt L
  | [], _ => rfl
  | e :: L, h => by
    rw [List.map_cons, sumH, (toL_ok hO (h e (.head _))).2.1, sum_toL hO fun x hx => h x (.tail _ hx)]; rfl
theorem bad_of {c : ChD} (hO : ChOk c) {S : Nat → Bool} (hC : ¬ Can c S) : ∃ w a, w ∈ cirL c ∧ badW c a w = true ∧ ∀ l ∈ w, S l.i = true := by
  have h1 : ∃ a, ¬ NoNeg (edE c a S) := Classical.byContradiction fun hn => hC fun a => Classical.byContradiction fun h => hn ⟨a, h⟩
  obtain ⟨a, ha⟩ := h1
  obtain ⟨m, L, k1, k2, k3, k4⟩ := neg_round ha
  have hne : L ≠ [] := fun e => by rw [e] at k2; exact absurd k2 (Int.lt_irrefl 0)
  have hB := edE_below hO a S
  have hmL := wk_last k1 hne
  obtain ⟨y, hy, hym⟩ := List.mem_map.1 hmL
  have hmn : m < c.n.toNat := by rw [← hym]; exact (hB y (k1.mem y hy)).2
  have hlen : L.length ≤ c.n.toNat := by
    have := nodup_le c.n.toNat _ k3 fun x hx => by
      obtain ⟨e, he, rfl⟩ := List.mem_map.1 hx
      exact (hB e (k1.mem e he)).2
    rwa [List.length_map] at this
  refine ⟨L.map toL, a, List.mem_flatMap.2 ⟨m, List.mem_range.2 hmn, cirN_mem.2 ⟨L.map toL, by rw [List.length_map]; exact hlen, rfl, ?_⟩⟩, ?_, fun l hl => ?_⟩
  · refine cir_of hO k1 hne k3 k4 (fun e _ he => ?_) (sights_nodup hO k1 k2 k3) (fun o ho => by cases ho)
    rw [Nat.testBit_two_pow, decide_eq_false (fun h => he h.symm)]
  · unfold badW
    rw [sum_toL hO fun e he => k1.mem e he, decide_eq_true k2, Bool.or_true]
  · obtain ⟨e, he, rfl⟩ := List.mem_map.1 hl
    exact (toL_ok hO (k1.mem e he)).2.2
/-- Some sights can all be right just if each circle among them can. -/
theorem can_cir {c : ChD} (hO : ChOk c) {S : Nat → Bool} : Can c S ↔ ∀ w ∈ cirL c, ∀ a, badW c a w = true → ∃ l ∈ w, S l.i = false := by
  constructor
  · intro h w hw a hb
    refine Classical.byContradiction fun hn => ?_
    have := bad_can hO h hw (fun l hl => by
      cases e : S l.i with
      | true => rfl
      | false => exact absurd ⟨l, hl, e⟩ hn) a
    rw [hb] at this; cases this
  · intro h
    refine Classical.byContradiction fun hn => ?_
    obtain ⟨w, a, h1, h2, h3⟩ := bad_of hO hn
    obtain ⟨l, hl, e⟩ := h w h1 a h2
    rw [h3 l hl] at e; cases e
end Go.ChaM
namespace Go.Sy
def popF : Nat → Nat → Nat
  | 0, _ => 0
  | k + 1, n => n % 2 + popF k (n / 2)
/-- How many bits of a number are set. -/
def pc (n : Nat) : Nat := popF 64 n

theorem popF_zero : ∀ k, popF k 0 = 0
  | 0 => rfl
  | k + 1 => by simp [popF, popF_zero k]
theorem popF_more : ∀ (k n : Nat), n < 2 ^ k → popF (k + 1) n = popF k n
  | 0, n, h => by have : n = 0 := by simp at h; omega
                  subst this; simp [popF]
  | k + 1, n, h => by
    rw [popF, popF_more k (n / 2) (by rw [Nat.pow_succ] at h; omega), popF]
theorem pc_zero : pc 0 = 0 := popF_zero 64
theorem pc_step {n : Nat} (h : n < 2 ^ 64) : pc n = n % 2 + pc (n / 2) := by
  unfold pc
  have : popF 64 n = n % 2 + popF 63 (n / 2) := rfl
  rw [this, ← popF_more 63 (n / 2) (by omega)]
theorem popF_le : ∀ (k n : Nat), popF k n ≤ k
  | 0, _ => by simp [popF]
  | k + 1, n => by have := popF_le k (n / 2); rw [popF]; omega
theorem pc_le (n : Nat) : pc n ≤ 64 := popF_le 64 n
theorem popF_eq : ∀ (j k n : Nat), n < 2 ^ k → k ≤ j → popF j n = popF k n
  | 0, k, n, h, hj => by have : k = 0 := by omega
                         subst this; rfl
  | j + 1, k, n, h, hj => by
    by_cases hk : k = j + 1
    · subst hk; rfl
    · rw [popF_more j n (Nat.lt_of_lt_of_le h (Nat.pow_le_pow_right (by omega) (by omega))), popF_eq j k n h (by omega)]
theorem popF_add : ∀ (k j n m : Nat), n < 2 ^ k → popF (k + j) (2 ^ k * m + n) = popF k n + popF j m
  | 0, j, n, m, h => by have : n = 0 := by simp at h; omega
                        subst this; simp [popF]
  | k + 1, j, n, m, h => by
    have e1 : (2 ^ (k + 1) * m + n) % 2 = n % 2 := by rw [Nat.pow_succ, Nat.mul_right_comm]; omega
    have e2 : (2 ^ (k + 1) * m + n) / 2 = 2 ^ k * m + n / 2 := by rw [Nat.pow_succ, Nat.mul_right_comm]; omega
    rw [show k + 1 + j = (k + j) + 1 by omega, popF, e1, e2, popF_add k j (n / 2) m (by rw [Nat.pow_succ] at h; omega), popF]
    omega
theorem pc_bytes {h l : Nat} (hh : h < 256) (hl : l < 256) : pc (256 * h + l) = pc h + pc l := by
  have h1 := popF_add 8 8 l h hl
  unfold pc
  rw [popF_eq 64 16 (256 * h + l) (by omega) (by omega), popF_eq 64 8 h hh (by omega), popF_eq 64 8 l hl (by omega)]
  simpa [Nat.add_comm] using h1

theorem land_split (a b m M : Nat) (ha : a < 256) (hm : m < 256) : (256 * b + a) &&& (256 * M + m) = 256 * (b &&& M) + (a &&& m) := by
  have hx : a &&& m < 2 ^ 8 := Nat.and_lt_two_pow _ (by omega)
  apply Nat.eq_of_testBit_eq
  intro j
  rw [Nat.testBit_and, show 256 = 2 ^ 8 from rfl, Nat.testBit_two_pow_mul_add _ (by omega), Nat.testBit_two_pow_mul_add _ (by omega), Nat.testBit_two_pow_mul_add _ (by omega)]
  split <;> simp [Nat.testBit_and]

def sw1 (x : Nat) : Nat := ((x / 2) &&& 6148914691236517205) + (x &&& 6148914691236517205)
def sw2 (x : Nat) : Nat := ((x / 4) &&& 3689348814741910323) + (x &&& 3689348814741910323)
def sw3 (x : Nat) : Nat := (x / 16 + x) &&& 1085102592571150095
def sw4 (x : Nat) : Nat := x + x / 256
def sw5 (x : Nat) : Nat := x + x / 65536
def sw6 (x : Nat) : Nat := x + x / 4294967296
def sw (x : Nat) : Nat := (sw6 (sw5 (sw4 (sw3 (sw2 (sw1 x)))))) &&& 127

def upto (p : Nat → Bool) : Nat → Bool
  | 0 => true
  | n + 1 => p n && upto p n
theorem upto_get {p : Nat → Bool} : ∀ {n : Nat}, upto p n = true → ∀ i, i < n → p i = true
  | 0, _, i, hi => by omega
  | n + 1, h, i, hi => by
    simp only [upto, Bool.and_eq_true] at h
    by_cases e : i = n
    · subst e; exact h.1
    · exact upto_get h.2 i (by omega)

theorem byte1 : upto (fun l => Nat.beq ((128 + l / 2) &&& 85) ((l / 2) &&& 85) && Nat.beq ((l / 2) &&& 6148914691236517205) ((l / 2) &&& 85) && Nat.beq (l &&& 6148914691236517205) (l &&& 85) && Nat.blt (sw1 l) 171) 256 = true := by kernel_rfl
theorem byte2 : upto (fun l => Nat.beq ((64 + l / 4) &&& 51) ((l / 4) &&& 51) && Nat.beq ((128 + l / 4) &&& 51) ((l / 4) &&& 51) && Nat.beq ((192 + l / 4) &&& 51) ((l / 4) &&& 51) && Nat.beq ((l / 4) &&& 3689348814741910323) ((l / 4) &&& 51) && Nat.beq (l &&& 3689348814741910323) (l &&& 51) && Nat.blt (sw2 l) 103) 256 = true := by kernel_rfl
theorem byte0 : upto (fun l => Nat.beq (sw3 (sw2 (sw1 l))) (pc l) && Nat.ble (sw2 (sw1 l)) 68 && Nat.ble (sw2 (sw1 l) % 16) 4 && Nat.blt (sw1 l) 171) 256 = true := by kernel_rfl
theorem nib : upto (fun l => Nat.beq (l &&& 15) (l % 16) && Nat.beq (l &&& 1085102592571150095) (l % 16)) 256 = true := by kernel_rfl

theorem sw1_bytes {h l : Nat} (hh : h < 256) (hl : l < 256) : sw1 (256 * h + l) = 256 * sw1 h + sw1 l := by
  have bl := upto_get byte1 l hl
  have bh := upto_get byte1 h hh
  simp only [Bool.and_eq_true, Nat.beq_eq] at bl bh
  have e : (256 * h + l) / 2 = 256 * (h / 2) + (128 * (h % 2) + l / 2) := by omega
  have k : (128 * (h % 2) + l / 2) &&& 85 = (l / 2) &&& 85 := by
    rcases Nat.mod_two_eq_zero_or_one h with h0 | h0 <;> rw [h0]
    · simp
    · exact bl.1.1.1
  unfold sw1
  rw [e, show 6148914691236517205 = 256 * 24019198012642645 + 85 from rfl, land_split _ _ _ _ (by omega) (by omega), land_split _ _ _ _ hl (by omega), k]
  have c1 : (h / 2) &&& 24019198012642645 = (h / 2) &&& 85 := by
    have := land_split (h / 2) 0 85 93824992236885 (by omega) (by omega)
    simpa using this
  have c2 : h &&& 24019198012642645 = h &&& 85 := by
    have := land_split h 0 85 93824992236885 hh (by omega)
    simpa using this
  rw [c1, c2, ← show 6148914691236517205 = 256 * 24019198012642645 + 85 from rfl, bh.1.1.2, bh.1.2, bl.1.1.2, bl.1.2]
  omega
theorem sw2_bytes {h l : Nat} (hh : h < 256) (hl : l < 256) : sw2 (256 * h + l) = 256 * sw2 h + sw2 l := by
  have bl := upto_get byte2 l hl
  have bh := upto_get byte2 h hh
  simp only [Bool.and_eq_true, Nat.beq_eq] at bl bh
  have e : (256 * h + l) / 4 = 256 * (h / 4) + (64 * (h % 4) + l / 4) := by omega
  have k : (64 * (h % 4) + l / 4) &&& 51 = (l / 4) &&& 51 := by
    have h4 : h % 4 = 0 ∨ h % 4 = 1 ∨ h % 4 = 2 ∨ h % 4 = 3 := by omega
    rcases h4 with h0 | h0 | h0 | h0 <;> rw [h0]
    · simp
    · exact bl.1.1.1.1.1
    · exact bl.1.1.1.1.2
    · exact bl.1.1.1.2
  unfold sw2
  rw [e, show 3689348814741910323 = 256 * 14411518807585587 + 51 from rfl, land_split _ _ _ _ (by omega) (by omega), land_split _ _ _ _ hl (by omega), k]
  have c1 : (h / 4) &&& 14411518807585587 = (h / 4) &&& 51 := by
    have := land_split (h / 4) 0 51 56294995342131 (by omega) (by omega)
    simpa using this
  have c2 : h &&& 14411518807585587 = h &&& 51 := by
    have := land_split h 0 51 56294995342131 hh (by omega)
    simpa using this
  rw [c1, c2, ← show 3689348814741910323 = 256 * 14411518807585587 + 51 from rfl, bh.1.1.2, bh.1.2, bl.1.1.2, bl.1.2]
  omega
theorem sw3_bytes {h l : Nat} (hh : h ≤ 68) (h4 : h % 16 ≤ 4) (hl : l ≤ 68) : sw3 (256 * h + l) = 256 * sw3 h + sw3 l := by
  have e : (256 * h + l) / 16 + (256 * h + l) = 256 * (h / 16 + h) + (16 * (h % 16) + l / 16 + l) := by omega
  have n1 := upto_get nib (16 * (h % 16) + l / 16 + l) (by omega)
  have n2 := upto_get nib (l / 16 + l) (by omega)
  have n3 := upto_get nib (h / 16 + h) (by omega)
  simp only [Bool.and_eq_true, Nat.beq_eq] at n1 n2 n3
  unfold sw3
  rw [e, n2.2, n3.2, show 1085102592571150095 = 256 * 4238682002231055 + 15 from rfl, land_split _ _ _ _ (by omega) (by omega), n1.1]
  have c : (h / 16 + h) &&& 4238682002231055 = (h / 16 + h) % 16 := by
    have := land_split (h / 16 + h) 0 15 16557351571215 (by omega) (by omega)
    simp only [Nat.mul_zero, Nat.zero_add, Nat.zero_and] at this
    rw [show 256 * 16557351571215 + 15 = 4238682002231055 from rfl] at this
    rw [this, n3.1]
  rw [c]
  omega

/-- The library's way of counting bits. -/
theorem sw_pc {x : Nat} (hx : x < 65536) : sw x = pc x := by
  obtain ⟨h, l, hh, hl, rfl⟩ : ∃ h l, h < 256 ∧ l < 256 ∧ x = 256 * h + l := ⟨x / 256, x % 256, by omega, by omega, by omega⟩
  have bl := upto_get byte0 l hl
  have bh := upto_get byte0 h hh
  simp only [Bool.and_eq_true, Nat.beq_eq, Nat.ble_eq] at bl bh
  have ll := Nat.le_of_ble_eq_true bl.2
  have lh := Nat.le_of_ble_eq_true bh.2
  have e3 : sw3 (sw2 (sw1 (256 * h + l))) = 256 * pc h + pc l := by
    rw [sw1_bytes hh hl, sw2_bytes (by omega) (by omega), sw3_bytes bh.1.1.2 bh.1.2 bl.1.1.2, bl.1.1.1, bh.1.1.1]
  have p1 : pc h ≤ 8 := by unfold pc; rw [popF_eq 64 8 h hh (by omega)]; exact popF_le 8 h
  have p2 : pc l ≤ 8 := by unfold pc; rw [popF_eq 64 8 l hl (by omega)]; exact popF_le 8 l
  have e4 : sw4 (256 * pc h + pc l) = 256 * pc h + (pc l + pc h) := by unfold sw4; omega
  have e5 : sw5 (256 * pc h + (pc l + pc h)) = 256 * pc h + (pc l + pc h) := by unfold sw5; omega
  have e6 : sw6 (256 * pc h + (pc l + pc h)) = 256 * pc h + (pc l + pc h) := by unfold sw6; omega
  unfold sw
  rw [e3, e4, e5, e6, pc_bytes hh hl]
  have := land_split (pc l + pc h) (pc h) 127 0 (by omega) (by omega)
  simp only [Nat.mul_zero, Nat.zero_add, Nat.and_zero] at this
  rw [this]
  have n : (pc l + pc h) &&& 127 = (pc l + pc h) % 128 := Nat.and_two_pow_sub_one_eq_mod _ 7
  rw [n]; omega
attribute [irreducible] pc sw
end Go.Sy
namespace Go.Sy
theorem sw1_le (x : Nat) (h : x < 65536) : sw1 x ≤ 131072 := by
  have a := Nat.and_le_left (n := x / 2) (m := 6148914691236517205); have b := Nat.and_le_left (n := x) (m := 6148914691236517205)
  unfold sw1; omega
theorem sw2_le (x : Nat) (h : x < 65536) : sw2 (sw1 x) ≤ 262144 := by
  have k := sw1_le x h
  have a := Nat.and_le_left (n := sw1 x / 4) (m := 3689348814741910323); have b := Nat.and_le_left (n := sw1 x) (m := 3689348814741910323)
  unfold sw2; omega
theorem sw3_le (x : Nat) (h : x < 65536) : sw3 (sw2 (sw1 x)) ≤ 524288 := by
  have k := sw2_le x h
  have a := Nat.and_le_left (n := sw2 (sw1 x) / 16 + sw2 (sw1 x)) (m := 1085102592571150095)
  unfold sw3; omega
theorem sw4_le (x : Nat) (h : x < 65536) : sw4 (sw3 (sw2 (sw1 x))) ≤ 1048576 := by
  have k := sw3_le x h
  unfold sw4; omega
theorem sw5_le (x : Nat) (h : x < 65536) : sw5 (sw4 (sw3 (sw2 (sw1 x)))) ≤ 2097152 := by
  have k := sw4_le x h
  unfold sw5; omega
theorem sw6_le (x : Nat) (h : x < 65536) : sw6 (sw5 (sw4 (sw3 (sw2 (sw1 x))))) ≤ 4194304 := by
  have k := sw5_le x h
  unfold sw6; omega
end Go.Sy
namespace Go.ChaM
open Go Go.Sy
theorem pc_sub : ∀ (k : Nat) {a b : Nat}, k ≤ 64 → a < 2 ^ k → b < 2 ^ k → (∀ i, a.testBit i = true → b.testBit i = true) → pc a ≤ pc b ∧ (pc a = pc b → a = b)
  | 0, a, b, _, ha, hb, _ => by
    rw [Nat.pow_zero] at ha hb
    rw [show a = 0 by omega, show b = 0 by omega]; exact ⟨Nat.le_refl _, fun _ => rfl⟩
  | k + 1, a, b, hk, ha, hb, h => by
    have h64 : 2 ^ (k + 1) ≤ 2 ^ 64 := Nat.pow_le_pow_right (by omega) hk
    rw [Nat.pow_succ] at ha hb h64
    obtain ⟨ih, ih2⟩ := pc_sub k (a := a / 2) (b := b / 2) (by omega) (by omega) (by omega) fun i hi => by
      rw [Nat.testBit_div_two] at hi ⊢
      exact h (i + 1) hi
    rw [pc_step (n := a) (by omega), pc_step (n := b) (by omega)]
    have h0 := h 0
    simp only [Nat.testBit_zero, decide_eq_true_eq] at h0
    refine ⟨by omega, fun e => ?_⟩
    have e2 : a / 2 = b / 2 := ih2 (by omega)
    omega
/-- A set that is better: the smaller one, or the one with the lesser number. -/
def Bet (s o : Nat) : Prop := pc s < pc o ∨ (pc s = pc o ∧ s < o)
instance (s o : Nat) : Decidable (Bet s o) := inferInstanceAs (Decidable (_ ∨ _))
theorem Bet.tri (s o : Nat) : Bet s o ∨ s = o ∨ Bet o s := by
  unfold Bet; omega
theorem Bet.trans {a b c : Nat} (h : Bet a b) (h' : Bet b c) : Bet a c := by
  unfold Bet at *; omega
theorem Bet.irr {a : Nat} : ¬ Bet a a := by
  unfold Bet; omega
theorem bet_sub {k a b : Nat} (hk : k ≤ 64) (ha : a < 2 ^ k) (hb : b < 2 ^ k) (h : ∀ i, a.testBit i = true → b.testBit i = true) : a = b ∨ Bet a b := by
  obtain ⟨h1, h2⟩ := pc_sub k hk ha hb h
  by_cases e : pc a = pc b
  · exact .inl (h2 e)
  · exact .inr (.inl (by omega))
/-- The best of some sets. -/
def bst : List Nat → Nat
  | [] => 0
  | x :: l => if l = [] then x else if Bet x (bst l) then x else bst l
theorem bst_mem : ∀ {l : List Nat}, l ≠ [] → bst l ∈ l
  | [], h => absurd rfl h
  | x :: l, _ => by
    unfold bst
    split
    · exact .head _
    · rename_i h
      split
      · exact .head _
      · exact .tail _ (bst_mem h)
theorem bst_le : ∀ {l : List Nat}, ∀ x ∈ l, bst l = x ∨ Bet (bst l) x
  | y :: l, x, hx => by
    unfold bst
    split
    · rename_i h
      subst h
      exact .inl (List.mem_singleton.1 hx).symm
    · split
      · rename_i hb
        rcases List.mem_cons.1 hx with rfl | hx
        · exact .inl rfl
        · rcases bst_le x hx with h | h
          · exact .inr (h ▸ hb)
          · exact .inr (hb.trans h)
      · rename_i hb
        rcases List.mem_cons.1 hx with rfl | hx
        · rcases Bet.tri x (bst l) with h | h | h
          · exact absurd h hb
          · exact .inl h.symm
          · exact .inr h
        · exact bst_le x hx
theorem bst_uniq {l : List Nat} {s : Nat} (hs : s ∈ l) (h : ∀ x ∈ l, s = x ∨ Bet s x) : bst l = s := by
  have h1 := bst_le s hs
  have h2 := h (bst l) (bst_mem (fun e => by rw [e] at hs; cases hs))
  rcases h1 with h1 | h1
  · exact h1
  · rcases h2 with h2 | h2
    · exact h2.symm
    · exact absurd (h1.trans h2) Bet.irr
/-- The sights of a circle. -/
def setW : List LkD → Nat
  | [] => 0
  | l :: w => 2 ^ l.i ||| setW w
theorem setW_bit {k : Nat} : ∀ {w : List LkD}, (setW w).testBit k = true ↔ ∃ l ∈ w, l.i = k
  | [] => by simp [setW]
  | l :: w => by
    rw [setW, Nat.testBit_or, Bool.or_eq_true, setW_bit, Nat.testBit_two_pow, decide_eq_true_eq]
    constructor
    · rintro (h | ⟨x, hx, h⟩)
      · exact ⟨l, .head _, h⟩
      · exact ⟨x, .tail _ hx, h⟩
    · rintro ⟨x, hx, h⟩
      rcases List.mem_cons.1 hx with rfl | hx
      · exact .inl h
      · exact .inr ⟨x, hx, h⟩
/-- The sets of sights of circles that cannot all be right. -/
def wrL (c : ChD) : List Nat := (cirL c).flatMap fun w => (if badW c false w then [setW w] else []) ++ (if badW c true w then [setW w] else [])
theorem wr_mem {c : ChD} {s : Nat} : s ∈ wrL c ↔ ∃ w ∈ cirL c, ∃ a, badW c a w = true ∧ setW w = s := by
  unfold wrL
  rw [List.mem_flatMap]
  constructor
  · rintro ⟨w, hw, h⟩
    rcases List.mem_append.1 h with h | h
    · split at h
      · rename_i hb; exact ⟨w, hw, false, hb, (List.mem_singleton.1 h).symm⟩
      · cases h
    · split at h
      · rename_i hb; exact ⟨w, hw, true, hb, (List.mem_singleton.1 h).symm⟩
      · cases h
  · rintro ⟨w, hw, a, hb, rfl⟩
    refine ⟨w, hw, List.mem_append.2 ?_⟩
    cases a
    · left; rw [if_pos hb]; exact .head _
    · right; rw [if_pos hb]; exact .head _
theorem chain_lt {c : ChD} : ∀ {w : List LkD} {u v : Nat}, LkC c u w v → ∀ l ∈ w, l.i < c.si.length
  | x :: w, u, v, h, l, hl => by
    rcases List.mem_cons.1 hl with rfl | hl
    · obtain ⟨s, hs, _⟩ := lks_mem.1 h.1
      exact (List.getElem?_eq_some_iff.1 hs).1
    · exact chain_lt h.2 l hl
theorem cir_of_mem {c : ChD} {w : List LkD} (h : w ∈ cirL c) : w ≠ [] ∧ ∀ l ∈ w, l.i < c.si.length := by
  obtain ⟨b, _, h⟩ := List.mem_flatMap.1 h
  obtain ⟨tl, _, h2, h3⟩ := cirN_mem.1 h
  rw [List.nil_append] at h2
  subst h2
  exact ⟨fun e => by rw [e] at h3; exact h3.elim, chain_lt (cir_chain h3)⟩
theorem wr_lt {c : ChD} {s : Nat} (h : s ∈ wrL c) : s < 2 ^ c.si.length ∧ s ≠ 0 := by
  obtain ⟨w, hw, a, _, rfl⟩ := wr_mem.1 h
  obtain ⟨h1, h2⟩ := cir_of_mem hw
  refine ⟨Nat.lt_pow_two_of_testBit _ fun i hi => ?_, fun e => ?_⟩
  · cases e : (setW w).testBit i with
    | false => rfl
    | true =>
      obtain ⟨l, hl, rfl⟩ := setW_bit.1 e
      have := h2 l hl
      omega
  · cases w with
    | nil => exact h1 rfl
    | cons l w =>
      have h3 : (setW (l :: w)).testBit l.i = true := setW_bit.2 ⟨l, .head _, rfl⟩
      rw [e] at h3
      simp at h3
theorem can_wr {c : ChD} (hO : ChOk c) {S : Nat → Bool} : Can c S ↔ ∀ s ∈ wrL c, ∃ k, s.testBit k = true ∧ S k = false := by
  rw [can_cir hO]
  constructor
  · intro h s hs
    obtain ⟨w, hw, a, hb, rfl⟩ := wr_mem.1 hs
    obtain ⟨l, hl, e⟩ := h w hw a hb
    exact ⟨l.i, setW_bit.2 ⟨l, hl, rfl⟩, e⟩
  · intro h w hw a hb
    obtain ⟨k, h1, h2⟩ := h _ (wr_mem.2 ⟨w, hw, a, hb, rfl⟩)
    obtain ⟨l, hl, rfl⟩ := setW_bit.1 h1
    exact ⟨l, hl, h2⟩
theorem cant_wr {c : ChD} (hO : ChOk c) {S : Nat → Bool} (h : ¬ Can c S) : ∃ s ∈ wrL c, ∀ k, s.testBit k = true → S k = true := by
  refine Classical.byContradiction fun hn => h ((can_wr hO).2 fun s hs => Classical.byContradiction fun h2 => hn ⟨s, hs, fun k hk => ?_⟩)
  cases e : S k with
  | true => rfl
  | false => exact absurd ⟨k, hk, e⟩ h2
theorem wr_cant {c : ChD} (hO : ChOk c) {s : Nat} (hs : s ∈ wrL c) : ¬ Can c s.testBit := fun h => by
  obtain ⟨k, h1, h2⟩ := (can_wr hO).1 h s hs
  rw [h1] at h2; cases h2
/-- All can be right just if no circle cannot. -/
theorem can_all {c : ChD} (hO : ChOk c) : Can c (fun _ => true) ↔ wrL c = [] := by
  rw [can_wr hO]
  constructor
  · intro h
    cases e : wrL c with
    | nil => rfl
    | cons s l =>
      obtain ⟨k, _, h2⟩ := h s (by rw [e]; exact .head _)
      cases h2
  · intro h s hs
    rw [h] at hs; cases hs
/-- The sights that are named are the best of all that cannot be right. -/
theorem why_best {c : ChD} (hO : ChOk c) {s : Nat} (hs : s < 2 ^ c.si.length) (h : ¬ Can c s.testBit) : wrL c ≠ [] ∧ (bst (wrL c) = s ∨ Bet (bst (wrL c)) s) := by
  obtain ⟨o, ho, h1⟩ := cant_wr hO h
  have hl := hO.l
  have h2 := bet_sub (k := c.si.length) (by omega) (wr_lt ho).1 hs h1
  refine ⟨fun e => (by rw [e] at ho; cases ho), ?_⟩
  rcases bst_le o ho with h3 | h3
  · rw [h3]; exact h2
  · rcases h2 with rfl | h2
    · exact .inr h3
    · exact .inr (h3.trans h2)
theorem why_less {c : ChD} (hO : ChOk c) (hn : wrL c ≠ []) {S : Nat → Bool} (hS : ∀ k, S k = true → (bst (wrL c)).testBit k = true) {j : Nat} (hj : (bst (wrL c)).testBit j = true) (hj2 : S j = false) : Can c S := by
  refine Classical.byContradiction fun h => ?_
  obtain ⟨o, ho, h1⟩ := cant_wr hO h
  have hl := hO.l
  have h2 := bet_sub (k := c.si.length) (by omega) (wr_lt ho).1 (wr_lt (bst_mem hn)).1 fun i hi => hS i (h1 i hi)
  rcases h2 with e | h2
  · rw [← e] at hj
    rw [h1 j hj] at hj2; cases hj2
  · rcases bst_le o ho with h3 | h3
    · rw [h3] at h2; exact Bet.irr h2
    · exact Bet.irr (h2.trans h3)
/-- A set that has one sight at least of each circle that cannot be right. -/
def hitB (c : ChD) (s : Nat) : Bool := (wrL c).all fun o => decide (o &&& s ≠ 0)
theorem hit_can {c : ChD} (hO : ChOk c) {s : Nat} : hitB c s = true ↔ Can c (fun i => !s.testBit i) := by
  rw [can_wr hO]
  unfold hitB
  rw [List.all_eq_true]
  constructor
  · intro h o ho
    have h1 := of_decide_eq_true (h o ho)
    refine Classical.byContradiction fun hn => h1 (Nat.eq_of_testBit_eq fun k => ?_)
    rw [Nat.zero_testBit, Nat.testBit_and]
    cases e1 : o.testBit k
    · rfl
    · cases e2 : s.testBit k
      · rfl
      · exact absurd ⟨k, e1, by rw [e2]; rfl⟩ hn
  · intro h o ho
    refine decide_eq_true fun e => ?_
    obtain ⟨k, h1, h2⟩ := h o ho
    have h3 : (o &&& s).testBit k = true := by
      rw [Nat.testBit_and, h1, Bool.true_and]; simpa using h2
    rw [e] at h3; simp at h3
/-- The sights that must be wrong: the best set among all numbers. -/
def drpL (c : ChD) : List Nat := (List.range (2 ^ c.si.length)).filter (hitB c)
theorem drp_mem {c : ChD} {s : Nat} : s ∈ drpL c ↔ s < 2 ^ c.si.length ∧ hitB c s = true := by
  unfold drpL; rw [List.mem_filter, List.mem_range]
theorem drp_all (c : ChD) : 2 ^ c.si.length - 1 ∈ drpL c := by
  have hp : 0 < 2 ^ c.si.length := Nat.two_pow_pos _
  refine drp_mem.2 ⟨by omega, ?_⟩
  unfold hitB
  rw [List.all_eq_true]
  intro o ho
  refine decide_eq_true fun e => ?_
  obtain ⟨h1, h2⟩ := wr_lt ho
  rw [Nat.and_two_pow_sub_one_eq_mod, Nat.mod_eq_of_lt h1] at e
  exact h2 e
theorem drp_best {c : ChD} (hO : ChOk c) : bst (drpL c) < 2 ^ c.si.length ∧ Can c (fun i => !(bst (drpL c)).testBit i) ∧ ∀ s, s < 2 ^ c.si.length → Can c (fun i => !s.testBit i) → bst (drpL c) = s ∨ Bet (bst (drpL c)) s := by
  have h := drp_mem.1 (bst_mem (l := drpL c) (fun e => by have := drp_all c; rw [e] at this; cases this))
  exact ⟨h.1, (hit_can hO).1 h.2, fun s hs hc => bst_le s (drp_mem.2 ⟨hs, (hit_can hO).2 hc⟩)⟩
end Go.ChaM
namespace Go.ChaM
/-- Whichever way one can go, one can come back. -/
def Sym (E : List Ed) : Prop := ∀ e ∈ E, ∃ e' ∈ E, e'.u = e.v ∧ e'.v = e.u
theorem edE_sym (c : ChD) (a : Bool) (S : Nat → Bool) : Sym (edE c a S) := fun e he => by
  obtain ⟨i, s, hs, hS, h⟩ := edE_mem.1 he
  rcases h with rfl | rfl
  · exact ⟨_, edE_mem.2 ⟨i, s, hs, hS, .inr rfl⟩, rfl, rfl⟩
  · exact ⟨_, edE_mem.2 ⟨i, s, hs, hS, .inl rfl⟩, rfl, rfl⟩
theorem wk_back {E : List Ed} (hS : Sym E) : ∀ {l : List Ed} {u v : Nat}, Wk E u l v → ∃ l', Wk E v l' u
  | [], _, _, h => ⟨[], h.symm⟩
  | e :: l, u, v, h => by
    obtain ⟨l', h1⟩ := wk_back hS h.2.2
    obtain ⟨e', h2, h3, h4⟩ := hS e h.1
    exact ⟨l' ++ [e'], h1.app ⟨h2, h3, by rw [← h.2.1]; exact h4⟩⟩
/-- What is known after all rounds of how much greater stations are than one. -/
def bndV (c : ChD) (a : Bool) (out : Nat → Bool) (src : Nat) : Mst := rnds (edL c a out) (s0 src) c.n.toNat
section
variable {c : ChD} (hO : ChOk c) {a : Bool} {out : Nat → Bool} (hN : NoNeg (edE c a fun i => !out i)) {src : Nat} (hs : src < c.n.toNat)
include hO hN hs
theorem bnd_dst {v : Nat} {m : Int} : bndV c a out src v = some m ↔ Dst (edE c a fun i => !out i) src v m := bf_dst (edE_below hO a _) hN (fun _ => edL_mem hO) hs
theorem bnd_none {v : Nat} : bndV c a out src v = none ↔ ∀ l, ¬ Wk (edE c a fun i => !out i) src l v := bf_none (edE_below hO a _) hN (fun _ => edL_mem hO) hs
theorem bnd_back {v : Nat} (hv : v < c.n.toNat) (h : bndV c a out src v = none) : bndV c a out v src = none := by
  refine (bf_none (edE_below hO a _) hN (fun _ => edL_mem hO) hv).2 fun l hl => ?_
  obtain ⟨l', h'⟩ := wk_back (edE_sym c a _) hl
  exact (bnd_none hO hN hs).1 h l' h'
end
theorem dst_self {E : List Ed} (hN : NoNeg E) (u : Nat) : Dst E u u 0 := ⟨⟨[], rfl, rfl⟩, fun l hl => hN u l hl⟩
theorem dst_on {E : List Ed} {u : Nat} {m k : Int} {e : Ed} (he : e ∈ E) (h : Dst E u e.u m) (h' : Dst E u e.v k) : k ≤ m + e.w := by
  obtain ⟨l, h1, h2⟩ := h.1
  have := h'.2 (l ++ [e]) (h1.app (b := [e]) ⟨he, rfl, rfl⟩)
  rw [wt_app, h2] at this
  have h4 : wt [e] = e.w := Int.add_zero _
  omega
theorem dst_to {E : List Ed} {v : Nat} {m k : Int} {e : Ed} (he : e ∈ E) (h : Dst E e.u v m) (h' : Dst E e.v v k) : m ≤ e.w + k := by
  obtain ⟨l, h1, h2⟩ := h'.1
  have h3 := h.2 (e :: l) ⟨he, rfl, h1⟩
  have h4 : wt (e :: l) = e.w + wt l := rfl
  omega
/-- Any places lie within the bounds. -/
theorem feas_dst {E : List Ed} {x : Nat → Int} (h : Feas x E) {u v : Nat} {m : Int} (hd : Dst E u v m) : x v - x u ≤ m := by
  obtain ⟨l, h1, h2⟩ := hd.1
  have := h.walk h1
  omega
/-- Places that reach the bound of each station with which one is linked. -/
theorem reach {n : Nat} {E : List Ed} (hE : Below n E) (hN : NoNeg E) (hS : Sym E) {u : Nat} (hu : u < n) : ∃ x, Feas x E ∧ ∀ v m, Dst E u v m → x v - x u = m := by
  have hL : ∀ e, e ∈ E ↔ e ∈ E := fun _ => Iff.rfl
  have h0 : rnds E (s0 u) n u = some 0 := (bf_dst hE hN hL hu).2 (dst_self hN u)
  refine ⟨fun y => (rnds E (s0 u) n y).getD (pot n E y), fun e he => ?_, fun v m hd => ?_⟩
  · dsimp only
    cases h1 : rnds E (s0 u) n e.u with
    | some m =>
      have d1 := (bf_dst hE hN hL hu).1 h1
      cases h2 : rnds E (s0 u) n e.v with
      | some k =>
        show k ≤ m + e.w
        exact dst_on he d1 ((bf_dst hE hN hL hu).1 h2)
      | none =>
        obtain ⟨l, k1, _⟩ := d1.1
        exact absurd (k1.app (b := [e]) ⟨he, rfl, rfl⟩) ((bf_none hE hN hL hu).1 h2 _)
    | none =>
      cases h2 : rnds E (s0 u) n e.v with
      | some k =>
        obtain ⟨⟨l, k1, _⟩, _⟩ := (bf_dst hE hN hL hu).1 h2
        obtain ⟨e', q1, q2, q3⟩ := hS e he
        exact absurd (k1.app (b := [e']) ⟨q1, q2, q3⟩) ((bf_none hE hN hL hu).1 h1 _)
      | none => exact pot_feas hE hN e he
  · dsimp only
    rw [(bf_dst hE hN hL hu).2 hd, h0]
    show m - 0 = m
    omega
/-- Places as far on the other side as can be, if all are linked. -/
theorem reach_low {E : List Ed} {u : Nat} {x : Nat → Int} (h : ∀ e ∈ E, (∃ m, Dst E e.u u m ∧ x e.u = -m) ∧ ∃ m, Dst E e.v u m ∧ x e.v = -m) : Feas x E := fun e he => by
  obtain ⟨⟨m, h1, h2⟩, k, h3, h4⟩ := h e he
  have := dst_to he h1 h3
  omega
/-- Bounds that follow from others can be left out. -/
theorem less_wk {E E' : List Ed} (h : ∀ e ∈ E, ∃ l, Wk E' e.u l e.v ∧ wt l ≤ e.w) : ∀ {l : List Ed} {u v : Nat}, Wk E u l v → ∃ l', Wk E' u l' v ∧ wt l' ≤ wt l
  | [], _, _, hw => ⟨[], hw, Int.le_refl _⟩
  | e :: l, u, v, hw => by
    obtain ⟨l1, h1, h2⟩ := h e hw.1
    obtain ⟨l2, h3, h4⟩ := less_wk h hw.2.2
    rw [hw.2.1] at h1
    refine ⟨l1 ++ l2, h1.app h3, ?_⟩
    rw [wt_app]
    show _ ≤ e.w + wt l
    omega
theorem less_dst {E E' : List Ed} (hs : ∀ e ∈ E', e ∈ E) (h : ∀ e ∈ E, ∃ l, Wk E' e.u l e.v ∧ wt l ≤ e.w) {u v : Nat} {m : Int} : Dst E u v m ↔ Dst E' u v m := by
  constructor
  · rintro ⟨⟨l, h1, h2⟩, h3⟩
    obtain ⟨l', k1, k2⟩ := less_wk h h1
    have := h3 l' (k1.mono hs)
    exact ⟨⟨l', k1, by omega⟩, fun l hl => h3 l (hl.mono hs)⟩
  · rintro ⟨⟨l, h1, h2⟩, h3⟩
    refine ⟨⟨l, h1.mono hs, h2⟩, fun l hl => ?_⟩
    obtain ⟨l', k1, k2⟩ := less_wk h hl
    have := h3 l' k1
    omega
/-- A sight tells nothing along an axis: the others bound its stations as much. -/
def idlA (c : ChD) (a : Bool) (i : Nat) (s : SiD) : Prop := (∃ m, bndV c a (fun k => decide (k = i)) s.fr.toNat s.to.toNat = some m ∧ m ≤ hiA a s) ∧ ∃ m, bndV c a (fun k => decide (k = i)) s.to.toNat s.fr.toNat = some m ∧ loA a s ≤ -m
theorem idl_iff {c : ChD} (hO : ChOk c) {a : Bool} (hN : NoNeg (edE c a fun _ => true)) {i : Nat} {s : SiD} (hs : c.si[i]? = some s) : idlA c a i s ↔ ∀ u v m, Dst (edE c a fun _ => true) u v m ↔ Dst (edE c a fun k => !decide (k = i)) u v m := by
  have ho := hO.s s (List.mem_of_getElem? hs)
  have h1 := ho.f0; have h2 := ho.f1; have h3 := ho.t0; have h4 := ho.t1
  have hsub : ∀ e ∈ edE c a (fun k => !decide (k = i)), e ∈ edE c a (fun _ => true) := edE_mono fun _ _ => rfl
  have hN' : NoNeg (edE c a fun k => !decide (k = i)) := fun u l hl => hN u l (hl.mono hsub)
  have hf : s.fr.toNat < c.n.toNat := by omega
  have ht : s.to.toNat < c.n.toNat := by omega
  constructor
  · rintro ⟨⟨m, k1, k2⟩, k, k3, k4⟩ u v w
    obtain ⟨⟨l, q1, q2⟩, _⟩ := (bnd_dst hO hN' hf).1 k1
    obtain ⟨⟨l', q3, q4⟩, _⟩ := (bnd_dst hO hN' ht).1 k3
    refine less_dst hsub fun e he => ?_
    obtain ⟨j, s', hs', _, hc⟩ := edE_mem.1 he
    by_cases hj : j = i
    · subst hj
      rw [hs] at hs'; cases hs'
      rcases hc with rfl | rfl
      · exact ⟨l, q1, by show wt l ≤ hiA a s; omega⟩
      · exact ⟨l', q3, by show wt l' ≤ -loA a s; omega⟩
    · refine ⟨[e], ⟨edE_mem.2 ⟨j, s', hs', by rw [decide_eq_false hj]; rfl, hc⟩, rfl, rfl⟩, ?_⟩
      show e.w + 0 ≤ e.w
      omega
  · intro h
    have hall : ∀ k, (fun _ : Nat => true) k = !(fun _ : Nat => false) k := fun _ => rfl
    have hE : edE c a (fun i => !(fun _ : Nat => false) i) = edE c a (fun _ => true) := rfl
    have far : ∀ {u v : Nat} {w : Int}, u < c.n.toNat → (∃ l, Wk (edE c a fun _ => true) u l v ∧ wt l = w) → ∃ m, bndV c a (fun k => decide (k = i)) u v = some m ∧ m ≤ w := fun {u v w} hu hw => by
      obtain ⟨l, q1, q2⟩ := hw
      obtain ⟨b, q3, q4⟩ := bf_all (L := edL c a fun _ => false) (edE_below hO a fun _ => true) hN (fun _ => edL_mem hO) hu q1
      have q5 := (bf_dst (edE_below hO a fun _ => true) hN (fun _ => edL_mem hO) hu).1 q3
      exact ⟨b, (bnd_dst hO hN' hu).2 ((h u v b).1 q5), by omega⟩
    obtain ⟨m, k1, k2⟩ := far hf ⟨[edF a i s], ⟨edE_mem.2 ⟨i, s, hs, rfl, .inl rfl⟩, rfl, rfl⟩, rfl⟩
    obtain ⟨k, k3, k4⟩ := far ht ⟨[edT a i s], ⟨edE_mem.2 ⟨i, s, hs, rfl, .inr rfl⟩, rfl, rfl⟩, rfl⟩
    have e1 : wt [edF a i s] = hiA a s := Int.add_zero _
    have e2 : wt [edT a i s] = -loA a s := Int.add_zero _
    exact ⟨⟨m, k1, by omega⟩, k, k3, by omega⟩
end Go.ChaM
namespace Go.ChaM
/-- What is known of how much greater each station is than each other one. -/
abbrev M2 := Nat → Nat → Option Int
def put2 (b : M2) (i k : Nat) (n : Int) : M2 := fun x y => if x = i ∧ y = k then some n else b x y
def low (b : M2) (i k : Nat) (n : Int) : M2 := match b i k with
  | none => put2 b i k n
  | some o => if n < o then put2 b i k n else b
def Le2 (b b' : M2) : Prop := ∀ i k m, b i k = some m → ∃ m', b' i k = some m' ∧ m' ≤ m
theorem Le2.refl (b : M2) : Le2 b b := fun _ _ m h => ⟨m, h, Int.le_refl _⟩
theorem Le2.trans {a b c : M2} (h : Le2 a b) (h' : Le2 b c) : Le2 a c := fun i k m hm =>
  let ⟨m1, h1, h2⟩ := h i k m hm
  let ⟨m2, h3, h4⟩ := h' i k m1 h1
  ⟨m2, h3, Int.le_trans h4 h2⟩
theorem low_cases (b : M2) (i k : Nat) (n : Int) : (low b i k n = put2 b i k n ∧ (b i k = none ∨ ∃ o, b i k = some o ∧ n < o)) ∨ (low b i k n = b ∧ ∃ o, b i k = some o ∧ o ≤ n) := by
  cases h : b i k with
  | none => exact .inl ⟨by simp only [low, h], .inl rfl⟩
  | some o =>
    by_cases h1 : n < o
    · exact .inl ⟨by simp only [low, h, if_pos h1], .inr ⟨o, rfl, h1⟩⟩
    · exact .inr ⟨by simp only [low, h, if_neg h1], o, rfl, by omega⟩
theorem put2_self (b : M2) (i k : Nat) (n : Int) : put2 b i k n i k = some n := if_pos ⟨rfl, rfl⟩
theorem low_le (b : M2) (i k : Nat) (n : Int) : Le2 b (low b i k n) ∧ ∃ m, low b i k n i k = some m ∧ m ≤ n := by
  rcases low_cases b i k n with ⟨h, h1⟩ | ⟨h, o, h1, h2⟩
  · rw [h]
    refine ⟨fun x y m hm => ?_, n, put2_self _ _ _ _, Int.le_refl _⟩
    by_cases e : x = i ∧ y = k
    · obtain ⟨rfl, rfl⟩ := e
      rcases h1 with h1 | ⟨o, h1, h2⟩
      · rw [h1] at hm; cases hm
      · rw [h1] at hm; cases hm
        exact ⟨n, put2_self _ _ _ _, by omega⟩
    · exact ⟨m, by unfold put2; rw [if_neg e]; exact hm, Int.le_refl _⟩
  · rw [h]; exact ⟨Le2.refl b, o, h1, h2⟩
def Snd (E : List Ed) (b : M2) : Prop := ∀ i k m, b i k = some m → ∃ l, Wk E i l k ∧ wt l = m
theorem low_snd {E : List Ed} {b : M2} (h : Snd E b) {i k : Nat} {n : Int} (hn : ∃ l, Wk E i l k ∧ wt l = n) : Snd E (low b i k n) := fun x y m hm => by
  rcases low_cases b i k n with ⟨h1, _⟩ | ⟨h1, _⟩
  · rw [h1] at hm
    unfold put2 at hm
    split at hm
    · rename_i e
      obtain ⟨rfl, rfl⟩ := e
      cases hm; exact hn
    · exact h x y m hm
  · rw [h1] at hm; exact h x y m hm
/-- By way of one station. -/
def via (b : M2) (y i k : Nat) : M2 := match b i y, b y k with
  | some p, some q => low b i k (p + q)
  | _, _ => b
theorem via_cases (b : M2) (y i k : Nat) : (∃ p q, b i y = some p ∧ b y k = some q ∧ via b y i k = low b i k (p + q)) ∨ (via b y i k = b ∧ (b i y = none ∨ b y k = none)) := by
  cases h : b i y with
  | none => exact .inr ⟨by simp only [via, h], .inl rfl⟩
  | some p =>
    cases h2 : b y k with
    | none => exact .inr ⟨by simp only [via, h, h2], .inr rfl⟩
    | some q => exact .inl ⟨p, q, rfl, rfl, by simp only [via, h, h2]⟩
theorem via_le (b : M2) (y i k : Nat) : Le2 b (via b y i k) := by
  rcases via_cases b y i k with ⟨p, q, _, _, h⟩ | ⟨h, _⟩
  · rw [h]; exact (low_le b i k _).1
  · rw [h]; exact Le2.refl b
theorem via_snd {E : List Ed} {b : M2} (h : Snd E b) (y i k : Nat) : Snd E (via b y i k) := by
  rcases via_cases b y i k with ⟨p, q, h1, h2, h3⟩ | ⟨h3, _⟩
  · rw [h3]
    obtain ⟨l, k1, k2⟩ := h _ _ _ h1
    obtain ⟨l', k3, k4⟩ := h _ _ _ h2
    exact low_snd h ⟨l ++ l', k1.app k3, by rw [wt_app, k2, k4]⟩
  · rw [h3]; exact h
/-- All pairs, by way of one station: the ones ahead of a pair. -/
def viaK (y i : Nat) (b : M2) : Nat → M2
  | 0 => b
  | k + 1 => via (viaK y i b k) y i k
def viaI (n y : Nat) (b : M2) : Nat → M2
  | 0 => b
  | i + 1 => viaK y i (viaI n y b i) n
def viaY (n : Nat) (b : M2) : Nat → M2
  | 0 => b
  | y + 1 => viaI n y (viaY n b y) n
theorem viaK_le (y i : Nat) (b : M2) : ∀ k, Le2 b (viaK y i b k)
  | 0 => Le2.refl b
  | k + 1 => (viaK_le y i b k).trans (via_le _ y i k)
theorem viaI_le (n y : Nat) (b : M2) : ∀ i, Le2 b (viaI n y b i)
  | 0 => Le2.refl b
  | i + 1 => (viaI_le n y b i).trans (viaK_le y i _ n)
theorem viaY_le (n : Nat) (b : M2) : ∀ y, Le2 b (viaY n b y)
  | 0 => Le2.refl b
  | y + 1 => (viaY_le n b y).trans (viaI_le n y _ n)
theorem viaY_up (n : Nat) (b : M2) {y : Nat} : ∀ d, Le2 (viaY n b y) (viaY n b (y + d))
  | 0 => Le2.refl _
  | d + 1 => (viaY_up n b d).trans (viaI_le n (y + d) _ n)
theorem viaY_snd {E : List Ed} (n : Nat) {b : M2} (h : Snd E b) (y : Nat) : Snd E (viaY n b y) := by
  have hK : ∀ (y i : Nat) (b : M2), Snd E b → ∀ k, Snd E (viaK y i b k) := fun y i b h k => by
    induction k with
    | zero => exact h
    | succ k ih => exact via_snd ih y i k
  have hI : ∀ (y : Nat) (b : M2), Snd E b → ∀ i, Snd E (viaI n y b i) := fun y b h i => by
    induction i with
    | zero => exact h
    | succ i ih => exact hK y i _ ih n
  induction y with
  | zero => exact h
  | succ y ih => exact hI y _ ih n
theorem viaK_put (y i : Nat) (b : M2) {p q : Int} {k : Nat} (h1 : b i y = some p) (h2 : b y k = some q) : ∀ {n : Nat}, k < n → ∃ m, viaK y i b n i k = some m ∧ m ≤ p + q
  | n + 1, hk => by
    by_cases e : k = n
    · subst e
      obtain ⟨p', k1, k2⟩ := viaK_le y i b k _ _ _ h1
      obtain ⟨q', k3, k4⟩ := viaK_le y i b k _ _ _ h2
      rcases via_cases (viaK y i b k) y i k with ⟨p2, q2, k5, k6, k7⟩ | ⟨_, k5 | k5⟩
      · rw [k1] at k5; cases k5
        rw [k3] at k6; cases k6
        obtain ⟨_, m, k8, k9⟩ := low_le (viaK y i b k) i k (p' + q')
        exact ⟨m, by show via _ y i k i k = _; rw [k7]; exact k8, by omega⟩
      · rw [k1] at k5; cases k5
      · rw [k3] at k5; cases k5
    · obtain ⟨m, k1, k2⟩ := viaK_put y i b h1 h2 (n := n) (by omega)
      obtain ⟨m', k3, k4⟩ := via_le (viaK y i b n) y i n _ _ _ k1
      exact ⟨m', k3, by omega⟩
theorem viaI_put (n y : Nat) (b : M2) {p q : Int} {i k : Nat} (h1 : b i y = some p) (h2 : b y k = some q) (hk : k < n) : ∀ {j : Nat}, i < j → ∃ m, viaI n y b j i k = some m ∧ m ≤ p + q
  | j + 1, hi => by
    by_cases e : i = j
    · subst e
      obtain ⟨p', k1, k2⟩ := viaI_le n y b i _ _ _ h1
      obtain ⟨q', k3, k4⟩ := viaI_le n y b i _ _ _ h2
      obtain ⟨m, k5, k6⟩ := viaK_put y i (viaI n y b i) k1 k3 hk
      exact ⟨m, k5, by omega⟩
    · obtain ⟨m, k1, k2⟩ := viaI_put n y b h1 h2 hk (j := j) (by omega)
      obtain ⟨m', k3, k4⟩ := viaK_le y j (viaI n y b j) n _ _ _ k1
      exact ⟨m', k3, by omega⟩
/-- All stations between lie below a number. -/
def Mid (Y : Nat) : List Ed → Prop
  | [] => True
  | [_] => True
  | e :: x :: l => e.v < Y ∧ Mid Y (x :: l)
theorem Mid.tail {Y : Nat} {e : Ed} : ∀ {l : List Ed}, Mid Y (e :: l) → Mid Y l
  | [], _ => trivial
  | _ :: _, h => h.2
/-- The first time that one comes to a station between. -/
theorem mid_first {E : List Ed} {Y : Nat} : ∀ {l : List Ed} {u v : Nat}, Wk E u l v → Mid (Y + 1) l → Mid Y l ∨ ∃ p q, l = p ++ q ∧ p ≠ [] ∧ Wk E u p Y ∧ Wk E Y q v ∧ Mid Y p ∧ Mid (Y + 1) q
  | [], _, _, _, _ => .inl trivial
  | [e], _, _, _, _ => .inl trivial
  | e :: x :: l, u, v, h, hm => by
    by_cases he : e.v = Y
    · right
      refine ⟨[e], x :: l, rfl, by simp, ⟨h.1, h.2.1, he⟩, ?_, trivial, hm.2⟩
      have h2 := h.2.2
      rw [he] at h2; exact h2
    · have hlt : e.v < Y := by have := hm.1; omega
      rcases mid_first h.2.2 hm.2 with h1 | ⟨p, q, e1, e2, e3, e4, e5, e6⟩
      · exact .inl ⟨hlt, h1⟩
      · right
        refine ⟨e :: p, q, by rw [e1]; rfl, by simp, ⟨h.1, h.2.1, e3⟩, e4, ?_, e6⟩
        cases p with
        | nil => trivial
        | cons z p => exact ⟨hlt, e5⟩
/-- The last time. -/
theorem mid_last {E : List Ed} {Y : Nat} : ∀ (n : Nat) {l : List Ed} {v : Nat}, l.length = n → Wk E Y l v → Mid (Y + 1) l → ∃ p q, l = p ++ q ∧ Wk E Y p Y ∧ Wk E Y q v ∧ Mid Y q := by
  intro n
  induction n using Nat.strongRecOn with
  | ind n ih =>
    intro l v hl h hm
    rcases mid_first h hm with h1 | ⟨p, q, e1, e2, e3, e4, _, e6⟩
    · exact ⟨[], l, rfl, rfl, h, h1⟩
    · have hp := List.length_pos_iff.2 e2
      obtain ⟨p', q', k1, k2, k3, k4⟩ := ih q.length (by
        have := congrArg List.length e1
        rw [List.length_append] at this
        omega) rfl e4 e6
      exact ⟨p ++ p', q', by rw [e1, k1, List.append_assoc], e3.app k2, k3, k4⟩
end Go.ChaM
namespace Go.ChaM
theorem mid_pre {Y : Nat} : ∀ {p q : List Ed}, Mid Y (p ++ q) → Mid Y p
  | [], _, _ => trivial
  | [_], _, _ => trivial
  | _ :: x :: p, q, h => ⟨h.1, mid_pre (p := x :: p) h.2⟩
theorem mid_of {Y : Nat} : ∀ {l : List Ed}, (∀ e ∈ l, e.v < Y) → Mid Y l
  | [], _ => trivial
  | [_], _ => trivial
  | e :: x :: l, h => ⟨h e (.head _), mid_of (l := x :: l) fun y hy => h y (.tail _ hy)⟩
/-- Nothing that goes round from a station, by lesser ones, is less than nothing. -/
def NNb (E : List Ed) (Y : Nat) : Prop := ∀ y, y < Y → ∀ l, Wk E y l y → Mid (y + 1) l → 0 ≤ wt l
theorem NoNeg.nnb {E : List Ed} (h : NoNeg E) (Y : Nat) : NNb E Y := fun y _ l hl _ => h y l hl
/-- Each bound is known at first. -/
structure Beg (n : Nat) (E : List Ed) (b : M2) : Prop where
  s : Snd E b
  d : ∀ i, i < n → ∃ m, b i i = some m ∧ m ≤ 0
  e : ∀ e ∈ E, ∃ m, b e.u e.v = some m ∧ m ≤ e.w
theorem via_mid {n : Nat} {E : List Ed} {b : M2} (hE : Below n E) (hB : Beg n E b) : ∀ (Y : Nat), Y ≤ n → NNb E Y → ∀ {i k : Nat} {l : List Ed}, i < n → Wk E i l k → Mid Y l → ∃ m, viaY n b Y i k = some m ∧ m ≤ wt l
  | 0, _, _, i, k, [], hi, h, _ => by
    cases h; exact hB.d i hi
  | 0, _, _, i, k, [e], _, h, _ => by
    obtain ⟨m, h1, h2⟩ := hB.e e h.1
    have h3 : e.u = i := h.2.1
    have h4 : e.v = k := h.2.2
    rw [h3, h4] at h1
    exact ⟨m, h1, by show m ≤ e.w + 0; omega⟩
  | 0, _, _, _, _, e :: _ :: _, _, _, hm => absurd hm.1 (Nat.not_lt_zero _)
  | Y + 1, hY, hN, i, k, l, hi, h, hm => by
    have ih := fun {i k : Nat} {l : List Ed} => via_mid hE hB Y (by omega) (fun y hy => hN y (by omega)) (i := i) (k := k) (l := l)
    have hk := wk_lt hE h hi
    rcases mid_first h hm with h1 | ⟨p, q, e1, _, e3, e4, e5, e6⟩
    · obtain ⟨m, k1, k2⟩ := ih hi h h1
      obtain ⟨m', k3, k4⟩ := viaI_le n Y (viaY n b Y) n _ _ _ k1
      exact ⟨m', k3, by omega⟩
    · obtain ⟨p', q', g1, g2, g3, g4⟩ := mid_last _ rfl e4 e6
      have h0 := hN Y (by omega) p' g2 (mid_pre (by rw [← g1]; exact e6))
      obtain ⟨m1, k1, k2⟩ := ih hi e3 e5
      obtain ⟨m2, k3, k4⟩ := ih (by omega) g3 g4
      obtain ⟨m, k5, k6⟩ := viaI_put n Y (viaY n b Y) k1 k3 hk hi
      refine ⟨m, k5, ?_⟩
      rw [e1, g1, wt_app, wt_app]
      omega
theorem neg_piece {E : List Ed} {Y : Nat} : ∀ (n : Nat) {l : List Ed}, l.length = n → Wk E Y l Y → Mid (Y + 1) l → wt l < 0 → ∃ p, Wk E Y p Y ∧ Mid Y p ∧ wt p < 0 := by
  intro n
  induction n using Nat.strongRecOn with
  | ind n ih =>
    intro l hl h hm hw
    rcases mid_first h hm with h1 | ⟨p, q, e1, e2, e3, e4, e5, e6⟩
    · exact ⟨l, h, h1, hw⟩
    · by_cases hp : wt p < 0
      · exact ⟨p, e3, e5, hp⟩
      · have hpl := List.length_pos_iff.2 e2
        refine ih q.length ?_ rfl e4 e6 ?_
        · have := congrArg List.length e1
          rw [List.length_append] at this
          omega
        · rw [e1, wt_app] at hw; omega
theorem nnb_or {n : Nat} {E : List Ed} {b : M2} (hE : Below n E) (hB : Beg n E b) : ∀ Y, Y ≤ n → NNb E Y ∨ ∃ y m, y < n ∧ viaY n b n y y = some m ∧ m < 0
  | 0, _ => .inl fun y hy => absurd hy (Nat.not_lt_zero _)
  | Y + 1, hY => by
    rcases nnb_or hE hB Y (by omega) with h | h
    · by_cases hn : ∃ l, Wk E Y l Y ∧ Mid (Y + 1) l ∧ wt l < 0
      · right
        obtain ⟨l, h1, h2, h3⟩ := hn
        obtain ⟨p, k1, k2, k3⟩ := neg_piece _ rfl h1 h2 h3
        obtain ⟨m, k4, k5⟩ := via_mid hE hB Y (by omega) h (by omega) k1 k2
        obtain ⟨d, hd⟩ : ∃ d, n = Y + d := ⟨n - Y, by omega⟩
        have hup := viaY_up n b (y := Y) d
        rw [← hd] at hup
        obtain ⟨m', k6, k7⟩ := hup _ _ _ k4
        exact ⟨Y, m', by omega, k6, by omega⟩
      · left
        intro y hy l hl hm
        by_cases e : y = Y
        · subst e
          refine Decidable.byContradiction fun hw => hn ⟨l, hl, hm, by omega⟩
        · exact h y (by omega) l hl hm
    · exact .inr h
theorem nnb_all {n : Nat} {E : List Ed} (hE : Below n E) (h : NNb E n) : NoNeg E := fun u l hl => by
  refine Decidable.byContradiction fun hw => ?_
  obtain ⟨z, b, k1, k2, k3⟩ := neg_simple _ rfl hl (by omega)
  have hmax : ∀ (b : List Ed), b ≠ [] → ∃ p e q, b = p ++ e :: q ∧ ∀ x ∈ b, x.v ≤ e.v := by
    intro b
    induction b with
    | nil => intro h; exact absurd rfl h
    | cons y b ih =>
      intro _
      by_cases hb : b = []
      · subst hb
        exact ⟨[], y, [], rfl, fun x hx => by rw [List.mem_singleton.1 hx]; exact Nat.le_refl _⟩
      · obtain ⟨p, e, q, e1, e2⟩ := ih hb
        by_cases hle : e.v ≤ y.v
        · exact ⟨[], y, b, rfl, fun x hx => by
            rcases List.mem_cons.1 hx with rfl | hx
            · exact Nat.le_refl _
            · exact Nat.le_trans (e2 x hx) hle⟩
        · exact ⟨y :: p, e, q, by rw [e1]; rfl, fun x hx => by
            rcases List.mem_cons.1 hx with rfl | hx
            · omega
            · exact e2 x hx⟩
  obtain ⟨p, e, q, rfl, hm⟩ := hmax b (fun h => by rw [h] at k2; exact absurd k2 (Int.lt_irrefl 0))
  obtain ⟨y, q1, q2⟩ := Wk.split k1
  obtain ⟨q3, q4, q5⟩ := q2
  have h1 := h e.v (hE e q3).2 (q ++ (p ++ [e])) (q5.app (q1.app (b := [e]) ⟨q3, q4, rfl⟩)) (mid_of fun x hx => by
    have hx2 : x ∈ p ++ e :: q := by
      simp only [List.mem_append, List.mem_cons, List.not_mem_nil, or_false] at hx ⊢
      rcases hx with hx | hx | hx
      · exact .inr (.inr hx)
      · exact .inl hx
      · exact .inr (.inl hx)
    have := hm x hx2
    omega)
  rw [wt_app, wt_app] at h1
  rw [wt_app] at k2
  have h2 : wt (e :: q) = e.w + wt q := rfl
  have h3 : wt [e] = e.w + 0 := rfl
  omega
section
variable {n : Nat} {E : List Ed} {b : M2} (hE : Below n E) (hB : Beg n E b)
include hE hB
/-- All bounds can hold just if no station lies below itself. -/
theorem via_can : NoNeg E ↔ ∀ y m, y < n → viaY n b n y y = some m → 0 ≤ m := by
  constructor
  · intro h y m _ hm
    obtain ⟨l, h1, h2⟩ := viaY_snd n hB.s n _ _ _ hm
    have := h y l h1
    omega
  · intro h
    rcases nnb_or hE hB n (Nat.le_refl _) with h1 | ⟨y, m, h1, h2, h3⟩
    · exact nnb_all hE h1
    · have := h y m h1 h2
      omega
theorem via_dst (hN : NoNeg E) {i k : Nat} (hi : i < n) {m : Int} : viaY n b n i k = some m ↔ Dst E i k m := by
  have all : ∀ {l : List Ed}, Wk E i l k → ∃ m, viaY n b n i k = some m ∧ m ≤ wt l := fun {l} hl => via_mid hE hB n (Nat.le_refl _) (hN.nnb n) hi hl (mid_of fun e he => (hE e (hl.mem e he)).2)
  have snd : ∀ {m : Int}, viaY n b n i k = some m → Dst E i k m := fun {m} h => by
    refine ⟨viaY_snd n hB.s n _ _ _ h, fun l hl => ?_⟩
    obtain ⟨m', h1, h2⟩ := all hl
    rw [h] at h1; cases h1; exact h2
  refine ⟨snd, fun h => ?_⟩
  obtain ⟨l, h1, _⟩ := h.1
  obtain ⟨m', h2, _⟩ := all h1
  rw [h2, (snd h2).uniq h]
theorem via_none (hN : NoNeg E) {i k : Nat} (hi : i < n) : viaY n b n i k = none ↔ ∀ l, ¬ Wk E i l k := by
  constructor
  · intro h l hl
    obtain ⟨m, h1, _⟩ := via_mid hE hB n (Nat.le_refl _) (hN.nnb n) hi hl (mid_of fun e he => (hE e (hl.mem e he)).2)
    rw [h] at h1; cases h1
  · intro h
    cases e : viaY n b n i k with
    | none => rfl
    | some m =>
      obtain ⟨l, h1, _⟩ := viaY_snd n hB.s n _ _ _ e
      exact absurd h1 (h l)
end
end Go.ChaM
namespace Go.ChaM
open Go Go.Sy
def begI : Nat → M2
  | 0 => fun _ _ => none
  | i + 1 => low (begI i) i i 0
def begS (c : ChD) (a : Bool) (S : Nat → Bool) : Nat → M2
  | 0 => begI c.n.toNat
  | i + 1 => if S i = true then (match c.si[i]? with | some s => low (low (begS c a S i) s.fr.toNat s.to.toNat (hiA a s)) s.to.toNat s.fr.toNat (-loA a s) | none => begS c a S i) else begS c a S i
/-- The tightest bounds of some sights. -/
def tig (c : ChD) (a : Bool) (S : Nat → Bool) : M2 := viaY c.n.toNat (begS c a S c.si.length) c.n.toNat
theorem begI_snd (E : List Ed) : ∀ i, Snd E (begI i)
  | 0 => fun _ _ _ h => by cases h
  | i + 1 => low_snd (begI_snd E i) ⟨[], rfl, rfl⟩
theorem begI_d : ∀ {n i : Nat}, i < n → ∃ m, begI n i i = some m ∧ m ≤ 0
  | n + 1, i, h => by
    by_cases e : i = n
    · subst e; exact (low_le (begI i) i i 0).2
    · obtain ⟨m, h1, h2⟩ := begI_d (n := n) (i := i) (by omega)
      obtain ⟨m', h3, h4⟩ := (low_le (begI n) n n 0).1 _ _ _ h1
      exact ⟨m', h3, by omega⟩
theorem begS_step (c : ChD) (a : Bool) (S : Nat → Bool) (i : Nat) : Le2 (begS c a S i) (begS c a S (i + 1)) := by
  rw [begS]
  split
  · split
    · exact (low_le _ _ _ _).1.trans (low_le _ _ _ _).1
    · exact Le2.refl _
  · exact Le2.refl _
theorem begS_up (c : ChD) (a : Bool) (S : Nat → Bool) {i : Nat} : ∀ d, Le2 (begS c a S i) (begS c a S (i + d))
  | 0 => Le2.refl _
  | d + 1 => (begS_up c a S d).trans (begS_step c a S (i + d))
theorem begS_snd (c : ChD) (a : Bool) (S : Nat → Bool) : ∀ i, Snd (edE c a S) (begS c a S i)
  | 0 => begI_snd _ _
  | i + 1 => by
    have ih := begS_snd c a S i
    rw [begS]
    split
    · rename_i hS
      cases hs : c.si[i]? with
      | none => exact ih
      | some s =>
        exact low_snd (low_snd ih ⟨[edF a i s], ⟨edE_mem.2 ⟨i, s, hs, hS, .inl rfl⟩, rfl, rfl⟩, Int.add_zero _⟩) ⟨[edT a i s], ⟨edE_mem.2 ⟨i, s, hs, hS, .inr rfl⟩, rfl, rfl⟩, Int.add_zero _⟩
    · exact ih
theorem tig_beg (c : ChD) (a : Bool) (S : Nat → Bool) : Beg c.n.toNat (edE c a S) (begS c a S c.si.length) := by
  refine ⟨begS_snd c a S _, fun i hi => ?_, fun e he => ?_⟩
  · obtain ⟨m, h1, h2⟩ := begI_d hi
    have h3 := begS_up c a S (i := 0) c.si.length
    rw [Nat.zero_add] at h3
    obtain ⟨m', h4, h5⟩ := h3 _ _ _ h1
    exact ⟨m', h4, by omega⟩
  · obtain ⟨i, s, hs, hS, h⟩ := edE_mem.1 he
    have hl : i < c.si.length := (List.getElem?_eq_some_iff.1 hs).1
    have e1 : begS c a S (i + 1) = low (low (begS c a S i) s.fr.toNat s.to.toNat (hiA a s)) s.to.toNat s.fr.toNat (-loA a s) := by
      rw [begS, if_pos hS, hs]
    have h3 := begS_up c a S (i := i + 1) (c.si.length - (i + 1))
    rw [show i + 1 + (c.si.length - (i + 1)) = c.si.length by omega, e1] at h3
    rcases h with rfl | rfl
    · obtain ⟨m, k1, k2⟩ := (low_le (begS c a S i) s.fr.toNat s.to.toNat (hiA a s)).2
      obtain ⟨m2, k3, k4⟩ := (low_le (low (begS c a S i) s.fr.toNat s.to.toNat (hiA a s)) s.to.toNat s.fr.toNat (-loA a s)).1 _ _ _ k1
      obtain ⟨m3, k5, k6⟩ := h3 _ _ _ k3
      exact ⟨m3, k5, by show m3 ≤ hiA a s; omega⟩
    · obtain ⟨m, k1, k2⟩ := (low_le (low (begS c a S i) s.fr.toNat s.to.toNat (hiA a s)) s.to.toNat s.fr.toNat (-loA a s)).2
      obtain ⟨m3, k5, k6⟩ := h3 _ _ _ k1
      exact ⟨m3, k5, by show m3 ≤ -loA a s; omega⟩
/-- No station lies below itself. -/
def tigB (c : ChD) (a : Bool) (S : Nat → Bool) : Bool := (List.range c.n.toNat).all fun y => match tig c a S y y with | some m => decide (0 ≤ m) | none => true
theorem tigB_iff {c : ChD} (hO : ChOk c) {a : Bool} {S : Nat → Bool} : tigB c a S = true ↔ NoNeg (edE c a S) := by
  rw [via_can (edE_below hO a S) (tig_beg c a S)]
  unfold tigB
  rw [List.all_eq_true]
  constructor
  · intro h y m hy hm
    have h1 := h y (List.mem_range.2 hy)
    have h2 : tig c a S y y = some m := hm
    rw [h2] at h1
    exact of_decide_eq_true h1
  · intro h y hy
    cases e : tig c a S y y with
    | none => rfl
    | some m => exact decide_eq_true (h y m (List.mem_range.1 hy) e)
def canT (c : ChD) (S : Nat → Bool) : Bool := tigB c false S && tigB c true S
theorem canT_iff {c : ChD} (hO : ChOk c) {S : Nat → Bool} : canT c S = true ↔ Can c S := by
  unfold canT Can
  rw [Bool.and_eq_true, tigB_iff hO, tigB_iff hO]
  exact ⟨fun ⟨h1, h2⟩ a => by cases a <;> assumption, fun h => ⟨h false, h true⟩⟩
theorem canT_no {c : ChD} (hO : ChOk c) {S : Nat → Bool} : canT c S = false ↔ ¬ Can c S := by
  rw [← canT_iff hO, Bool.not_eq_true]
/-- Why, as the document looks for it: all sets are tried. -/
def whyF (c : ChD) : Nat → Option Nat
  | 0 => none
  | s + 1 => match whyF c s with
    | none => if canT c s.testBit = false then some s else none
    | some b => if pc s < pc b ∧ canT c s.testBit = false then some s else some b
theorem whyF_inv {c : ChD} (hO : ChOk c) : ∀ N, (whyF c N = none ∧ ∀ s, s < N → Can c s.testBit) ∨ ∃ b, whyF c N = some b ∧ b < N ∧ ¬ Can c b.testBit ∧ ∀ s, s < N → ¬ Can c s.testBit → b = s ∨ Bet b s
  | 0 => .inl ⟨rfl, fun s h => absurd h (Nat.not_lt_zero _)⟩
  | N + 1 => by
    rcases whyF_inv hO N with ⟨h1, h2⟩ | ⟨b, h1, h2, h3, h4⟩
    · by_cases hc : canT c N.testBit = false
      · right
        refine ⟨N, by simp only [whyF, h1, if_pos hc], by omega, (canT_no hO).1 hc, fun s hs hn => ?_⟩
        by_cases e : s = N
        · exact .inl e.symm
        · exact absurd (h2 s (by omega)) hn
      · left
        refine ⟨by simp only [whyF, h1, if_neg hc], fun s hs => ?_⟩
        by_cases e : s = N
        · rw [e]; exact (canT_iff hO).1 (by simpa using hc)
        · exact h2 s (by omega)
    · right
      by_cases hc : pc N < pc b ∧ canT c N.testBit = false
      · refine ⟨N, by simp only [whyF, h1, if_pos hc], by omega, (canT_no hO).1 hc.2, fun s hs hn => ?_⟩
        by_cases e : s = N
        · exact .inl e.symm
        · have hb : Bet N b := .inl hc.1
          rcases h4 s (by omega) hn with rfl | h5
          · exact .inr hb
          · exact .inr (hb.trans h5)
      · refine ⟨b, by simp only [whyF, h1, if_neg hc], by omega, h3, fun s hs hn => ?_⟩
        by_cases e : s = N
        · subst e
          have : ¬ pc s < pc b := fun h => hc ⟨h, (canT_no hO).2 hn⟩
          right
          unfold Bet; omega
        · exact h4 s (by omega) hn
theorem whyF_all {c : ChD} (hO : ChOk c) : whyF c (2 ^ c.si.length) = if wrL c = [] then none else some (bst (wrL c)) := by
  rcases whyF_inv hO (2 ^ c.si.length) with ⟨h1, h2⟩ | ⟨b, h1, h2, h3, h4⟩
  · rw [h1]
    split
    · rfl
    · rename_i hn
      have hm := bst_mem hn
      exact absurd (h2 _ (wr_lt hm).1) (wr_cant hO hm)
  · obtain ⟨h5, h6⟩ := why_best hO h2 h3
    rw [h1, if_neg h5]
    have hm := bst_mem h5
    rcases h4 _ (wr_lt hm).1 (wr_cant hO hm) with h7 | h7
    · rw [h7]
    · rcases h6 with h6 | h6
      · rw [h6]
      · exact absurd (h6.trans h7) Bet.irr
end Go.ChaM
namespace Go.ChaM
open Go Go.Sy
theorem Can.congr {c : ChD} {S S' : Nat → Bool} (h : ∀ i, i < c.si.length → S i = S' i) : Can c S ↔ Can c S' := by
  have key : ∀ {S S' : Nat → Bool}, (∀ i, i < c.si.length → S i = S' i) → ∀ a, ∀ e ∈ edE c a S, e ∈ edE c a S' := fun {S S'} h a e he => by
    obtain ⟨i, s, hs, hS, h1⟩ := edE_mem.1 he
    exact edE_mem.2 ⟨i, s, hs, by rw [← h i (List.getElem?_eq_some_iff.1 hs).1]; exact hS, h1⟩
  exact ⟨fun hc a u l hl => hc a u l (hl.mono (key (fun i hi => (h i hi).symm) a)), fun hc a u l hl => hc a u l (hl.mono (key h a))⟩
theorem rest_bit {n s i : Nat} (hs : s < 2 ^ n) (hi : i < n) : (2 ^ n - 1 - s).testBit i = !s.testBit i := by
  rw [Nat.sub_sub, Nat.add_comm 1 s, Nat.testBit_two_pow_sub_succ hs, decide_eq_true hi, Bool.true_and]
theorem rest_can {c : ChD} {s : Nat} (hs : s < 2 ^ c.si.length) : Can c (2 ^ c.si.length - 1 - s).testBit ↔ Can c fun i => !s.testBit i := Can.congr fun _ hi => rest_bit hs hi
theorem bst_drp {c : ChD} {b : Nat} (hb : b ∈ drpL c) (h : ∀ s ∈ drpL c, b = s ∨ Bet b s) : bst (drpL c) = b := bst_uniq hb h
/-- Drop, as the program looks for it. -/
def drpP (c : ChD) : Nat → Nat
  | 0 => 2 ^ c.si.length - 1
  | s + 1 => if Bet s (drpP c s) ∧ hitB c s = true then s else drpP c s
theorem drpP_inv (c : ChD) : ∀ N, N ≤ 2 ^ c.si.length - 1 → drpP c N ∈ drpL c ∧ (drpP c N = 2 ^ c.si.length - 1 ∨ drpP c N < N) ∧ ∀ s, s < N → s ∈ drpL c → drpP c N = s ∨ Bet (drpP c N) s
  | 0, _ => ⟨drp_all c, .inl rfl, fun s h => absurd h (Nat.not_lt_zero _)⟩
  | N + 1, hN => by
    obtain ⟨h1, h2, h3⟩ := drpP_inv c N (by omega)
    rw [drpP]
    split
    · rename_i hc
      refine ⟨drp_mem.2 ⟨by omega, hc.2⟩, .inr (by omega), fun s hs hm => ?_⟩
      by_cases e : s = N
      · exact .inl e.symm
      · rcases h3 s (by omega) hm with h4 | h4
        · rw [h4] at hc; exact .inr hc.1
        · exact .inr (hc.1.trans h4)
    · rename_i hc
      refine ⟨h1, by omega, fun s hs hm => ?_⟩
      by_cases e : s = N
      · subst e
        have hn : ¬ Bet s (drpP c s) := fun hb => hc ⟨hb, (drp_mem.1 hm).2⟩
        rcases Bet.tri s (drpP c s) with h | h | h
        · exact absurd h hn
        · exact .inl h.symm
        · exact .inr h
      · exact h3 s (by omega) hm
theorem drpP_all (c : ChD) (hl : c.si.length ≤ 64) : drpP c (2 ^ c.si.length - 1) = bst (drpL c) := by
  obtain ⟨h1, h2, h3⟩ := drpP_inv c (2 ^ c.si.length - 1) (Nat.le_refl _)
  refine (bst_drp h1 fun s hs => ?_).symm
  by_cases e : s < 2 ^ c.si.length - 1
  · exact h3 s e hs
  · have hlt := (drp_mem.1 hs).1
    obtain rfl : s = 2 ^ c.si.length - 1 := by omega
    exact bet_sub hl (drp_mem.1 h1).1 (drp_mem.1 hs).1 fun i hi => by
      have : i < c.si.length := Decidable.byContradiction fun hn => by
        have h4 := Nat.testBit_lt_two_pow (x := drpP c (2 ^ c.si.length - 1)) (i := i) (Nat.lt_of_lt_of_le (drp_mem.1 h1).1 (Nat.pow_le_pow_right (by omega) (by omega)))
        rw [hi] at h4; cases h4
      rw [Nat.testBit_two_pow_sub_one, decide_eq_true this]
/-- Drop, as the document looks for it. -/
def drpF (c : ChD) : Nat → Nat
  | 0 => 2 ^ c.si.length - 1
  | s + 1 => if pc s < pc (drpF c s) ∧ canT c (2 ^ c.si.length - 1 - s).testBit = true then s else drpF c s
theorem drpF_inv {c : ChD} (hO : ChOk c) : ∀ N, N ≤ 2 ^ c.si.length → drpF c N ∈ drpL c ∧ (drpF c N = 2 ^ c.si.length - 1 ∨ drpF c N < N) ∧ ∀ s, s < N → s ∈ drpL c → drpF c N = s ∨ Bet (drpF c N) s
  | 0, _ => ⟨drp_all c, .inl rfl, fun s h => absurd h (Nat.not_lt_zero _)⟩
  | N + 1, hN => by
    obtain ⟨h1, h2, h3⟩ := drpF_inv hO N (by omega)
    have hl := hO.l
    have hit : N ∈ drpL c ↔ canT c (2 ^ c.si.length - 1 - N).testBit = true := by
      rw [canT_iff hO, rest_can (by omega), ← hit_can hO, drp_mem]
      exact ⟨fun h => h.2, fun h => ⟨by omega, h⟩⟩
    rw [drpF]
    split
    · rename_i hc
      have hb : Bet N (drpF c N) := .inl hc.1
      refine ⟨hit.2 hc.2, .inr (by omega), fun s hs hm => ?_⟩
      by_cases e : s = N
      · exact .inl e.symm
      · rcases h3 s (by omega) hm with h4 | h4
        · rw [h4] at hb; exact .inr hb
        · exact .inr (hb.trans h4)
    · rename_i hc
      refine ⟨h1, by omega, fun s hs hm => ?_⟩
      by_cases e : s = N
      · subst e
        have hn : ¬ pc s < pc (drpF c s) := fun h => hc ⟨h, hit.1 hm⟩
        rcases h2 with h4 | h4
        · have h5 : s = 2 ^ c.si.length - 1 ∨ Bet s (2 ^ c.si.length - 1) := bet_sub (k := c.si.length) (by omega) (drp_mem.1 hm).1 (by have := Nat.two_pow_pos c.si.length; omega) fun i hi => by
            have : i < c.si.length := Decidable.byContradiction fun hn => by
              have h6 := Nat.testBit_lt_two_pow (x := s) (i := i) (Nat.lt_of_lt_of_le (drp_mem.1 hm).1 (Nat.pow_le_pow_right (by omega) (by omega)))
              rw [hi] at h6; cases h6
            rw [Nat.testBit_two_pow_sub_one, decide_eq_true this]
          rw [h4] at hn ⊢
          rcases h5 with h5 | h5
          · exact .inl h5.symm
          · right
            have := Nat.two_pow_pos c.si.length
            rcases h5 with h5 | h5
            · exact absurd h5 hn
            · have h7 := pc_sub c.si.length (a := s) (b := 2 ^ c.si.length - 1) (by omega) (drp_mem.1 hm).1 (by omega) fun i hi => by
                have : i < c.si.length := Decidable.byContradiction fun hn => by
                  have h6 := Nat.testBit_lt_two_pow (x := s) (i := i) (Nat.lt_of_lt_of_le (drp_mem.1 hm).1 (Nat.pow_le_pow_right (by omega) (by omega)))
                  rw [hi] at h6; cases h6
                rw [Nat.testBit_two_pow_sub_one, decide_eq_true this]
              have := h7.2 h5.1
              omega
        · right
          unfold Bet; omega
      · exact h3 s (by omega) hm
theorem drpF_all {c : ChD} (hO : ChOk c) : drpF c (2 ^ c.si.length) = bst (drpL c) := by
  obtain ⟨h1, _, h3⟩ := drpF_inv hO (2 ^ c.si.length) (Nat.le_refl _)
  exact (bst_drp h1 fun s hs => h3 s (drp_mem.1 hs).1 hs).symm
/-- What is known of two stations: the program's, and the document's. -/
theorem tig_bnd {c : ChD} (hO : ChOk c) {a : Bool} {out : Nat → Bool} (hN : NoNeg (edE c a fun i => !out i)) {u v : Nat} (hu : u < c.n.toNat) : tig c a (fun i => !out i) u v = bndV c a out u v := by
  have key : ∀ m, tig c a (fun i => !out i) u v = some m ↔ bndV c a out u v = some m := fun m => by
    rw [bnd_dst hO hN hu]
    exact via_dst (edE_below hO a _) (tig_beg c a _) hN hu
  cases e : bndV c a out u v with
  | some m => exact (key m).2 e
  | none =>
    cases e2 : tig c a (fun i => !out i) u v with
    | none => rfl
    | some m => rw [(key m).1 e2] at e; cases e
/-- The same bounds, with a sight or without it. -/
def samB (c : ChD) (a : Bool) (i : Nat) : Prop := ∀ u v, u < c.n.toNat → v < c.n.toNat → tig c a (fun _ => true) u v = tig c a (fun k => !decide (k = i)) u v
theorem sam_iff {c : ChD} (hO : ChOk c) {a : Bool} (hN : NoNeg (edE c a fun _ => true)) {i : Nat} {s : SiD} (hs : c.si[i]? = some s) : samB c a i ↔ idlA c a i s := by
  have hN' : NoNeg (edE c a fun k => !decide (k = i)) := fun u l hl => hN u l (hl.mono (edE_mono fun _ _ => rfl))
  have d1 : ∀ {u v : Nat} {m : Int}, u < c.n.toNat → (tig c a (fun _ => true) u v = some m ↔ Dst (edE c a fun _ => true) u v m) := fun hu => via_dst (edE_below hO a _) (tig_beg c a _) hN hu
  have d2 : ∀ {u v : Nat} {m : Int}, u < c.n.toNat → (tig c a (fun k => !decide (k = i)) u v = some m ↔ Dst (edE c a fun k => !decide (k = i)) u v m) := fun hu => via_dst (edE_below hO a _) (tig_beg c a _) hN' hu
  have ho := hO.s s (List.mem_of_getElem? hs)
  have h1 := ho.f0; have h2 := ho.f1; have h3 := ho.t0; have h4 := ho.t1
  constructor
  · intro h
    have far : ∀ {u v : Nat} {e : Ed}, e ∈ edE c a (fun _ => true) → e.u = u → e.v = v → u < c.n.toNat → v < c.n.toNat → ∃ m, bndV c a (fun k => decide (k = i)) u v = some m ∧ m ≤ e.w := fun {u v e} he h5 h6 hu hv => by
      obtain ⟨m, k1, k2⟩ := via_mid (edE_below hO a _) (tig_beg c a fun _ => true) c.n.toNat (Nat.le_refl _) (hN.nnb _) (i := u) (k := v) (l := [e]) hu ⟨he, h5, h6⟩ trivial
      have k3 : tig c a (fun _ => true) u v = some m := k1
      rw [h u v hu hv] at k3
      refine ⟨m, (bnd_dst hO hN' hu).2 ((d2 hu).1 k3), ?_⟩
      have : wt [e] = e.w := Int.add_zero _
      omega
    obtain ⟨m, k1, k2⟩ := far (e := edF a i s) (edE_mem.2 ⟨i, s, hs, rfl, .inl rfl⟩) rfl rfl (u := s.fr.toNat) (v := s.to.toNat) (by omega) (by omega)
    obtain ⟨k, k3, k4⟩ := far (e := edT a i s) (edE_mem.2 ⟨i, s, hs, rfl, .inr rfl⟩) rfl rfl (u := s.to.toNat) (v := s.fr.toNat) (by omega) (by omega)
    refine ⟨⟨m, k1, k2⟩, k, k3, ?_⟩
    have : (edT a i s).w = -loA a s := rfl
    omega
  · intro h u v hu _
    have hd := (idl_iff hO hN hs).1 h
    cases e : tig c a (fun k => !decide (k = i)) u v with
    | some m => exact (d1 hu).2 ((hd u v m).2 ((d2 hu).1 e))
    | none =>
      cases e2 : tig c a (fun _ => true) u v with
      | none => rfl
      | some m => rw [(d2 hu).2 ((hd u v m).1 ((d1 hu).1 e2))] at e; cases e
end Go.ChaM
namespace Go.ChaM
open Go Go.Sy
def allS : Nat → Bool := fun _ => true
def noneS : Nat → Bool := fun _ => false
def stB (c : ChD) (x : Int) : Bool := inC x 0 (c.n - 1)
/-- The errno, and the spans, of Between. -/
def betE (c : ChD) (x y : Int) : Int := if chB c = false then 1 else if (stB c x && stB c y) = false then 2 else if wrL c ≠ [] then 4 else if bndV c false noneS x.toNat y.toNat = none then 12 else 0
def betV (c : ChD) (a : Bool) (x y : Int) : Int × Int := if betE c x y = 0 then (-(bndV c a noneS y.toNat x.toNat).getD 0, (bndV c a noneS x.toNat y.toNat).getD 0) else (0, 0)
def whyE (c : ChD) : Int := if chB c = false then 1 else if wrL c = [] then 0 else 11
def whyV (c : ChD) : Nat := if chB c = false then 0 else bst (wrL c)
def drpE (c : ChD) : Int := if chB c = false then 1 else 0
def drpV (c : ChD) : Nat := if chB c = false then 0 else bst (drpL c)
theorem begS_congr {c : ChD} {a : Bool} {S S' : Nat → Bool} : ∀ {n : Nat}, (∀ i, i < n → S i = S' i) → begS c a S n = begS c a S' n
  | 0, _ => rfl
  | n + 1, h => by rw [begS, begS, begS_congr (n := n) fun i hi => h i (by omega), h n (by omega)]
theorem tig_congr {c : ChD} {a : Bool} {S S' : Nat → Bool} (h : ∀ i, i < c.si.length → S i = S' i) : tig c a S = tig c a S' := by
  unfold tig; rw [begS_congr h]
theorem canT_congr {c : ChD} {S S' : Nat → Bool} (h : ∀ i, i < c.si.length → S i = S' i) : canT c S = canT c S' := by
  unfold canT tigB; rw [tig_congr h, tig_congr h]
theorem every_bit {n i : Nat} (h : i < n) : (2 ^ n - 1).testBit i = allS i := by rw [Nat.testBit_two_pow_sub_one, decide_eq_true h]; rfl
theorem wr_noneg {c : ChD} (hO : ChOk c) (h : wrL c = []) (a : Bool) : NoNeg (edE c a fun i => !noneS i) := (can_all hO).2 h a
/-- The document's Between. -/
def refE (c : ChD) (x y : Int) : Int := if chB c = false then 1 else if (stB c x && stB c y) = false then 2 else if canT c (2 ^ c.si.length - 1).testBit = false then 4 else if tig c false (2 ^ c.si.length - 1).testBit x.toNat y.toNat = none then 12 else 0
theorem st_lt {c : ChD} {x : Int} (h : stB c x = true) : 0 ≤ x ∧ x.toNat < c.n.toNat := by
  unfold stB inC at h
  simp only [Bool.and_eq_true, decide_eq_true_eq] at h
  omega
theorem canT_wr {c : ChD} (hO : ChOk c) : canT c (2 ^ c.si.length - 1).testBit = false ↔ wrL c ≠ [] := by
  rw [canT_congr (S' := allS) fun i hi => every_bit hi, canT_no hO, Ne, ← can_all hO]
  exact Iff.rfl
theorem refE_eq (c : ChD) (x y : Int) : refE c x y = betE c x y := by
  unfold refE betE
  by_cases h1 : chB c = false
  · rw [if_pos h1, if_pos h1]
  · have hO := chB_iff.1 (by simpa using h1)
    rw [if_neg h1, if_neg h1]
    by_cases h2 : (stB c x && stB c y) = false
    · rw [if_pos h2, if_pos h2]
    · rw [if_neg h2, if_neg h2]
      have h3 := canT_wr hO
      by_cases h4 : wrL c ≠ []
      · rw [if_pos h4, if_pos (h3.2 h4)]
      · rw [if_neg h4, if_neg (fun h => h4 (h3.1 h))]
        rw [Bool.not_eq_false, Bool.and_eq_true] at h2
        have e := tig_bnd hO (a := false) (out := noneS) (wr_noneg hO (by simpa using h4) false) (u := x.toNat) (v := y.toNat) (st_lt h2.1).2
        rw [tig_congr (S' := allS) fun i hi => every_bit hi]
        show (if tig c false (fun i => !noneS i) x.toNat y.toNat = none then (12 : Int) else 0) = _
        rw [e]
theorem bet_ok {c : ChD} {x y : Int} (h : betE c x y = 0) : ChOk c ∧ wrL c = [] ∧ stB c x = true ∧ stB c y = true ∧ ∀ a, ∃ lo hi, betV c a x y = (lo, hi) ∧ Dst (edE c a allS) x.toNat y.toNat hi ∧ Dst (edE c a allS) y.toNat x.toNat (-lo) := by
  have h0 := h
  unfold betE at h
  split at h
  · cases h
  · rename_i h1
    split at h
    · cases h
    · rename_i h2
      split at h
      · cases h
      · rename_i h3
        split at h
        · cases h
        · rename_i h4
          have hO := chB_iff.1 (by simpa using h1)
          have hw : wrL c = [] := by simpa using h3
          rw [Bool.not_eq_false, Bool.and_eq_true] at h2
          have hx := (st_lt h2.1).2
          have hy := (st_lt h2.2).2
          refine ⟨hO, hw, h2.1, h2.2, fun a => ?_⟩
          have hN := wr_noneg hO hw
          cases e : bndV c false noneS x.toNat y.toNat with
          | none => exact absurd e h4
          | some m0 =>
            obtain ⟨⟨l, q1, _⟩, _⟩ := (bnd_dst hO (hN false) hx).1 e
            have lift : ∀ {a : Bool} {l : List Ed} {u v : Nat}, Wk (edE c false fun i => !noneS i) u l v → ∃ l', Wk (edE c a fun i => !noneS i) u l' v := by
              intro a l
              induction l with
              | nil => intro u v h; exact ⟨[], h⟩
              | cons e l ih =>
                intro u v h
                obtain ⟨l', k1⟩ := ih h.2.2
                obtain ⟨i, s, hs, hS, hc⟩ := edE_mem.1 h.1
                rcases hc with hc | hc
                · exact ⟨edF a i s :: l', edE_mem.2 ⟨i, s, hs, hS, .inl rfl⟩, by rw [← h.2.1, hc]; rfl, by rw [hc] at k1; exact k1⟩
                · exact ⟨edT a i s :: l', edE_mem.2 ⟨i, s, hs, hS, .inr rfl⟩, by rw [← h.2.1, hc]; rfl, by rw [hc] at k1; exact k1⟩
            obtain ⟨la, q2⟩ := lift (a := a) q1
            obtain ⟨lb, q3⟩ := wk_back (edE_sym c a _) q2
            obtain ⟨hi, k1, _⟩ := bf_all (L := edL c a noneS) (edE_below hO a _) (hN a) (fun _ => edL_mem hO) hx q2
            obtain ⟨m, k2, _⟩ := bf_all (L := edL c a noneS) (edE_below hO a _) (hN a) (fun _ => edL_mem hO) hy q3
            have k3 : bndV c a noneS x.toNat y.toNat = some hi := k1
            have k4 : bndV c a noneS y.toNat x.toNat = some m := k2
            refine ⟨-m, hi, by unfold betV; rw [if_pos h0, k3, k4]; rfl, (bnd_dst hO (hN a) hx).1 k3, ?_⟩
            rw [Int.neg_neg]
            exact (bnd_dst hO (hN a) hy).1 k4
/-- A truth lies within all spans. -/
theorem bet_truth {c : ChD} {x y : Int} (h : betE c x y = 0) {a : Bool} {p : Nat → Int} (hp : ∀ s ∈ c.si, Right a p s) : (betV c a x y).1 ≤ p y.toNat - p x.toNat ∧ p y.toNat - p x.toNat ≤ (betV c a x y).2 := by
  obtain ⟨_, _, _, _, hb⟩ := bet_ok h
  obtain ⟨lo, hi, e, d1, d2⟩ := hb a
  have hf : Feas p (edE c a allS) := feas_E.2 fun i s hs _ => hp s (List.mem_of_getElem? hs)
  have h1 := feas_dst hf d1
  have h2 := feas_dst hf d2
  rw [e]
  exact ⟨by show lo ≤ _; omega, h1⟩
/-- Each end of a span is reached. -/
theorem bet_reach {c : ChD} {x y : Int} (h : betE c x y = 0) (a up : Bool) : ∃ p : Nat → Int, (∀ s ∈ c.si, Right a p s) ∧ p y.toNat - p x.toNat = if up then (betV c a x y).2 else (betV c a x y).1 := by
  obtain ⟨hO, hw, hx, hy, hb⟩ := bet_ok h
  obtain ⟨lo, hi, e, d1, d2⟩ := hb a
  have hN : NoNeg (edE c a allS) := (can_all hO).2 hw a
  have all : ∀ {p : Nat → Int}, Feas p (edE c a allS) → ∀ s ∈ c.si, Right a p s := fun {p} hf s hs => by
    obtain ⟨i, hi⟩ := List.mem_iff_getElem?.1 hs
    exact feas_E.1 hf i s hi rfl
  rw [e]
  cases up
  · obtain ⟨p, k1, k2⟩ := reach (edE_below hO a allS) hN (edE_sym c a allS) (st_lt hy).2
    refine ⟨p, all k1, ?_⟩
    have := k2 _ _ d2
    show p y.toNat - p x.toNat = lo
    omega
  · obtain ⟨p, k1, k2⟩ := reach (edE_below hO a allS) hN (edE_sym c a allS) (st_lt hx).2
    exact ⟨p, all k1, k2 _ _ d1⟩
theorem wr_truth {c : ChD} (hO : ChOk c) : wrL c = [] ↔ ∀ a, ∃ p, ∀ s ∈ c.si, Right a p s := by
  rw [← can_all hO, can_iff hO]
  constructor
  · intro h a
    obtain ⟨p, hp⟩ := h a
    refine ⟨p, fun s hs => ?_⟩
    obtain ⟨i, hi⟩ := List.mem_iff_getElem?.1 hs
    exact hp i s hi rfl
  · intro h a
    obtain ⟨p, hp⟩ := h a
    exact ⟨p, fun i s hs _ => hp s (List.mem_of_getElem? hs)⟩
/-- Nothing must be wrong if all can be right. -/
theorem drp_zero {c : ChD} (h : wrL c = []) : bst (drpL c) = 0 := by
  have h0 : 0 ∈ drpL c := drp_mem.2 ⟨Nat.two_pow_pos _, by unfold hitB; rw [h]; rfl⟩
  rcases bst_le 0 h0 with h1 | h1
  · exact h1
  · unfold Bet at h1
    have hz : pc 0 = 0 := pc_zero
    omega
end Go.ChaM
namespace Go.ChaM
open Go Go.Sy
def addC (c : ChD) (s : SiD) : ChD := ⟨c.n, c.si ++ [s]⟩
theorem add_truth {c : ChD} {s : SiD} (hO : ChOk (addC c s)) : wrL (addC c s) = [] ↔ ∀ a, ∃ p, (∀ x ∈ c.si, Right a p x) ∧ Right a p s := by
  rw [wr_truth hO]
  constructor
  · intro h a
    obtain ⟨p, hp⟩ := h a
    exact ⟨p, fun x hx => hp x (List.mem_append_left _ hx), hp s (List.mem_append_right _ (.head _))⟩
  · intro h a
    obtain ⟨p, h1, h2⟩ := h a
    refine ⟨p, fun x hx => ?_⟩
    rcases List.mem_append.1 hx with hx | hx
    · exact h1 x hx
    · rw [List.mem_singleton.1 hx]; exact h2
/-- A sight that tells an end of each span can be right. -/
theorem ends_yes {c : ChD} {s : SiD} (hO : ChOk (addC c s)) (h : betE c s.fr s.to = 0) (up : Bool) (he : ∀ a, loA a s ≤ (if up then (betV c a s.fr s.to).2 else (betV c a s.fr s.to).1) ∧ (if up then (betV c a s.fr s.to).2 else (betV c a s.fr s.to).1) ≤ hiA a s) : wrL (addC c s) = [] :=
  (add_truth hO).2 fun a =>
    let ⟨p, h1, h2⟩ := bet_reach h a up
    ⟨p, h1, by unfold Right; rw [h2]; exact he a⟩
theorem ends_no {c : ChD} {s : SiD} (hO : ChOk (addC c s)) (h : betE c s.fr s.to = 0) {a : Bool} (he : hiA a s < (betV c a s.fr s.to).1 ∨ (betV c a s.fr s.to).2 < loA a s) : wrL (addC c s) ≠ [] := fun hw => by
  obtain ⟨p, h1, h2, h3⟩ := (add_truth hO).1 hw a
  obtain ⟨h4, h5⟩ := bet_truth h h1
  omega
theorem bet_self {c : ChD} {x : Int} (h : betE c x x = 0) (a : Bool) : betV c a x x = (0, 0) := by
  obtain ⟨hO, hw, _, _, hb⟩ := bet_ok h
  obtain ⟨lo, hi, e, d1, d2⟩ := hb a
  have hN : NoNeg (edE c a allS) := (can_all hO).2 hw a
  have h1 := d1.uniq (dst_self hN _)
  have h2 := d2.uniq (dst_self hN _)
  rw [e, h1, show lo = 0 by omega]
/-- A span has its ends in order. -/
theorem bet_ord {c : ChD} {x y : Int} (h : betE c x y = 0) (a : Bool) : (betV c a x y).1 ≤ (betV c a x y).2 := by
  obtain ⟨p, h1, h2⟩ := bet_reach h a true
  obtain ⟨h3, h4⟩ := bet_truth h h1
  omega
/-- The map holds within the errors of each sight. -/
theorem drw_right {c : ChD} (h : ∀ i : Nat, i < c.n.toNat → betE c 0 (i : Int) = 0) (hO : ChOk c) (a : Bool) : ∀ s ∈ c.si, Right a (fun i => (betV c a 0 (i : Int)).1) s := by
  have low : ∀ i : Nat, i < c.n.toNat → ∃ m, Dst (edE c a allS) i 0 m ∧ (betV c a 0 (i : Int)).1 = -m := fun i hi => by
    obtain ⟨_, _, _, _, hb⟩ := bet_ok (h i hi)
    obtain ⟨lo, hi, e, _, d2⟩ := hb a
    rw [Int.toNat_natCast] at d2
    exact ⟨-lo, d2, by rw [e]; show lo = - -lo; omega⟩
  have hf : Feas (fun i => (betV c a 0 ((i : Nat) : Int)).1) (edE c a allS) := reach_low fun e he => by
    obtain ⟨h1, h2⟩ := edE_below hO a allS e he
    exact ⟨low _ h1, low _ h2⟩
  intro s hs
  obtain ⟨i, hi⟩ := List.mem_iff_getElem?.1 hs
  exact feas_E.1 hf i s hi rfl
/-- Each sight of the one is one of the other, or a wider one. -/
def Wid (c c' : ChD) : Prop := c.n = c'.n ∧ c.si.length ≤ c'.si.length ∧ ∀ (i : Nat) (s : SiD), c.si[i]? = some s → ∃ s' : SiD, c'.si[i]? = some s' ∧ ∀ a p, Right a p s' → Right a p s
theorem wid_can {c c' : ChD} (hO : ChOk c) (hO' : ChOk c') (h : Wid c c') {S S' : Nat → Bool} (hS : ∀ i, i < c.si.length → S i = true → S' i = true) (hC : Can c' S') : Can c S := (can_iff hO).2 fun a =>
  let ⟨p, hp⟩ := (can_iff hO').1 hC a
  ⟨p, fun i s hs hi =>
    let ⟨s', h1, h2⟩ := h.2.2 i s hs
    h2 a p (hp i s' h1 (hS i (List.getElem?_eq_some_iff.1 hs).1 hi))⟩
theorem wid_wr {c c' : ChD} (hO : ChOk c) (hO' : ChOk c') (h : Wid c c') (hw : wrL c' = []) : wrL c = [] :=
  (can_all hO).1 (wid_can hO hO' h (S' := allS) (fun _ _ _ => rfl) ((can_all hO').2 hw))
/-- With more sights, or narrower ones, no fewer must be wrong. -/
theorem wid_drop {c c' : ChD} (hO : ChOk c) (hO' : ChOk c') (h : Wid c c') : pc (bst (drpL c)) ≤ pc (bst (drpL c')) := by
  obtain ⟨h1, h2, _⟩ := drp_best hO'
  have hl := hO.l; have hl' := hO'.l
  obtain ⟨t, ht⟩ : ∃ t, t = bst (drpL c') % 2 ^ c.si.length := ⟨_, rfl⟩
  have hlt : t < 2 ^ c.si.length := by rw [ht]; exact Nat.mod_lt _ (Nat.two_pow_pos _)
  have hbit : ∀ i, t.testBit i = (decide (i < c.si.length) && (bst (drpL c')).testBit i) := fun i => by rw [ht, Nat.testBit_mod_two_pow]
  have hc : Can c fun i => !t.testBit i := wid_can hO hO' h (fun i hi hS => by
    rw [hbit, decide_eq_true hi, Bool.true_and] at hS; exact hS) h2
  have h3 : pc t ≤ pc (bst (drpL c')) := (pc_sub c'.si.length (by omega) (Nat.lt_of_lt_of_le hlt (Nat.pow_le_pow_right (by omega) h.2.1)) h1 fun i hi => by
    rw [hbit, Bool.and_eq_true] at hi; exact hi.2).1
  rcases (drp_best hO).2.2 t hlt hc with h4 | h4
  · rw [h4]; exact h3
  · unfold Bet at h4; omega
/-- .. and no span is wider. -/
theorem wid_span {c c' : ChD} (h : Wid c c') {x y : Int} (hb : betE c x y = 0) (hb' : betE c' x y = 0) (a : Bool) : (betV c a x y).1 ≤ (betV c' a x y).1 ∧ (betV c' a x y).2 ≤ (betV c a x y).2 := by
  have down : ∀ {p : Nat → Int}, (∀ s ∈ c'.si, Right a p s) → ∀ s ∈ c.si, Right a p s := fun {p} hp s hs => by
    obtain ⟨i, hi⟩ := List.mem_iff_getElem?.1 hs
    obtain ⟨s', h1, h2⟩ := h.2.2 i s hi
    exact h2 a p (hp s' (List.mem_of_getElem? h1))
  obtain ⟨p, h1, h2⟩ := bet_reach hb' a false
  obtain ⟨q, h3, h4⟩ := bet_reach hb' a true
  have h5 := bet_truth hb (down h1)
  have h6 := bet_truth hb (down h3)
  simp only [Bool.false_eq_true, if_false] at h2
  simp only [if_true] at h4
  omega
/-- Charts with as many sights, of which the same can be right: the same is named, and must be wrong. -/
theorem same_why {c c' : ChD} (hO : ChOk c) (hO' : ChOk c') (hl : c.si.length = c'.si.length) (h : ∀ S, Can c S ↔ Can c' S) : (wrL c = [] ↔ wrL c' = []) ∧ bst (wrL c) = bst (wrL c') ∧ bst (drpL c) = bst (drpL c') := by
  have e : wrL c = [] ↔ wrL c' = [] := by rw [← can_all hO, ← can_all hO']; exact h _
  refine ⟨e, ?_, ?_⟩
  · by_cases hw : wrL c = []
    · rw [hw, e.1 hw]
    · have hw' : wrL c' ≠ [] := fun h => hw (e.2 h)
      have h1 := bst_mem hw
      have h2 := bst_mem hw'
      have h3 := (why_best hO' (by rw [← hl]; exact (wr_lt h1).1) (fun hc => wr_cant hO h1 ((h _).2 hc))).2
      have h4 := (why_best hO (by rw [hl]; exact (wr_lt h2).1) (fun hc => wr_cant hO' h2 ((h _).1 hc))).2
      rcases h3 with h3 | h3
      · exact h3.symm
      · rcases h4 with h4 | h4
        · exact h4
        · exact absurd (h3.trans h4) Bet.irr
  · have e2 : drpL c = drpL c' := by
      unfold drpL
      rw [hl]
      refine List.filter_congr fun s _ => ?_
      rw [Bool.eq_iff_iff, hit_can hO, hit_can hO']
      exact h _
    rw [e2]
end Go.ChaM
namespace Go.ChaM
open Go Go.Sy
def ixL (S : Nat → Bool) (n : Nat) : List Nat := (List.range n).filter S
def partC (c : ChD) (S : Nat → Bool) : ChD := ⟨c.n, (ixL S c.si.length).map fun i => c.si.getD i ⟨0, 0, 0, 0, 0, 0⟩⟩
theorem part_at {c : ChD} {S : Nat → Bool} {j : Nat} {s : SiD} : (partC c S).si[j]? = some s ↔ ∃ i : Nat, (ixL S c.si.length)[j]? = some i ∧ S i = true ∧ c.si[i]? = some s := by
  unfold partC
  rw [List.getElem?_map]
  constructor
  · intro h
    cases e : (ixL S c.si.length)[j]? with
    | none => rw [e] at h; cases h
    | some i =>
      rw [e] at h
      have hm := List.mem_filter.1 (List.mem_of_getElem? e)
      have hi := List.mem_range.1 hm.1
      refine ⟨i, rfl, hm.2, ?_⟩
      rw [List.getElem?_eq_getElem hi]
      have h2 : c.si.getD i ⟨0, 0, 0, 0, 0, 0⟩ = s := Option.some.inj h
      rw [List.getD_eq_getElem?_getD, List.getElem?_eq_getElem hi] at h2
      exact congrArg some h2
  · rintro ⟨i, h1, _, h2⟩
    rw [h1]
    show some (c.si.getD i ⟨0, 0, 0, 0, 0, 0⟩) = some s
    rw [List.getD_eq_getElem?_getD, h2]; rfl
theorem part_mem {c : ChD} {S : Nat → Bool} {s : SiD} : s ∈ (partC c S).si ↔ ∃ i : Nat, S i = true ∧ c.si[i]? = some s := by
  rw [List.mem_iff_getElem?]
  constructor
  · rintro ⟨j, h⟩
    obtain ⟨i, _, h2, h3⟩ := part_at.1 h
    exact ⟨i, h2, h3⟩
  · rintro ⟨i, h2, h3⟩
    have hm : i ∈ ixL S c.si.length := List.mem_filter.2 ⟨List.mem_range.2 (List.getElem?_eq_some_iff.1 h3).1, h2⟩
    obtain ⟨j, hj⟩ := List.mem_iff_getElem?.1 hm
    exact ⟨j, part_at.2 ⟨i, hj, h2, h3⟩⟩
theorem part_len (c : ChD) (S : Nat → Bool) : (partC c S).si.length = (ixL S c.si.length).length ∧ (ixL S c.si.length).length ≤ c.si.length := by
  refine ⟨List.length_map _, ?_⟩
  have := List.length_filter_le S (List.range c.si.length)
  rwa [List.length_range] at this
theorem part_ok {c : ChD} (hO : ChOk c) (S : Nat → Bool) : ChOk (partC c S) := by
  have h := part_len c S
  have hl := hO.l
  exact ⟨hO.n1, hO.n2, by omega, fun s hs => by
    obtain ⟨i, _, h2⟩ := part_mem.1 hs
    exact hO.s s (List.mem_of_getElem? h2)⟩
/-- All sights of a part can be right just if those can in the whole. -/
theorem part_can {c : ChD} (hO : ChOk c) {S : Nat → Bool} : wrL (partC c S) = [] ↔ Can c S := by
  rw [wr_truth (part_ok hO S), can_iff hO]
  constructor
  · intro h a
    obtain ⟨p, hp⟩ := h a
    exact ⟨p, fun i s hs hi => hp s (part_mem.2 ⟨i, hi, hs⟩)⟩
  · intro h a
    obtain ⟨p, hp⟩ := h a
    refine ⟨p, fun s hs => ?_⟩
    obtain ⟨i, h1, h2⟩ := part_mem.1 hs
    exact hp i s h2 h1
theorem ix_inj {S : Nat → Bool} {n j k i : Nat} (hj : (ixL S n)[j]? = some i) (hk : (ixL S n)[k]? = some i) : j = k := by
  have hn : (ixL S n).Nodup := List.Pairwise.filter _ List.nodup_range
  have h1 : j < (ixL S n).length := (List.getElem?_eq_some_iff.1 hj).1
  have h2 : k < (ixL S n).length := (List.getElem?_eq_some_iff.1 hk).1
  exact getD_inj hn h1 h2 (by rw [List.getD_eq_getElem?_getD, List.getD_eq_getElem?_getD, hj, hk])
/-- What is named, alone: all of it is named. -/
theorem why_own {c : ChD} (hO : ChOk c) (hw : wrL c ≠ []) : wrL (partC c (bst (wrL c)).testBit) ≠ [] ∧ bst (wrL (partC c (bst (wrL c)).testBit)) = 2 ^ (partC c (bst (wrL c)).testBit).si.length - 1 := by
  obtain ⟨S, hS⟩ : ∃ S, S = (bst (wrL c)).testBit := ⟨_, rfl⟩
  rw [← hS]
  have hP := part_ok hO S
  have hn : wrL (partC c S) ≠ [] := fun h => wr_cant hO (bst_mem hw) (by rw [← hS]; exact (part_can hO).1 h)
  have hb := bst_mem hn
  refine ⟨hn, Nat.eq_of_testBit_eq fun j => ?_⟩
  rw [Nat.testBit_two_pow_sub_one]
  by_cases hj : j < (partC c S).si.length
  · rw [decide_eq_true hj]
    cases e : (bst (wrL (partC c S))).testBit j with
    | true => rfl
    | false =>
      refine absurd ?_ (wr_cant hP hb)
      obtain ⟨s, hs⟩ : ∃ s, (partC c S).si[j]? = some s := ⟨_, List.getElem?_eq_getElem hj⟩
      obtain ⟨i, h1, h2, h3⟩ := part_at.1 hs
      have hC : Can c (fun k => S k && !decide (k = i)) := why_less hO hw (fun k hk => by
        rw [Bool.and_eq_true] at hk; rw [← hS]; exact hk.1) (j := i) (by rw [← hS]; exact h2) (by rw [decide_eq_true rfl, Bool.not_true, Bool.and_false])
      refine (can_iff hP).2 fun a => ?_
      obtain ⟨p, hp⟩ := (can_iff hO).1 hC a
      refine ⟨p, fun k t ht hk => ?_⟩
      obtain ⟨i', k1, k2, k3⟩ := part_at.1 ht
      refine hp i' t k3 ?_
      have hne : i' ≠ i := fun e2 => by
        rw [e2] at k1
        have := ix_inj k1 h1
        rw [this, e] at hk; cases hk
      rw [k2, decide_eq_false hne]; rfl
  · rw [decide_eq_false hj]
    exact Nat.testBit_lt_two_pow (Nat.lt_of_lt_of_le (wr_lt hb).1 (Nat.pow_le_pow_right (by omega) (by omega)))
/-- Bounds that are alike but for their tags have the same least ways. -/
def Like (E E' : List Ed) : Prop := ∀ e ∈ E, ∃ e' ∈ E', e'.u = e.u ∧ e'.v = e.v ∧ e'.w = e.w
theorem like_wk {E E' : List Ed} (h : Like E E') : ∀ {l : List Ed} {u v : Nat}, Wk E u l v → ∃ l', Wk E' u l' v ∧ wt l' = wt l
  | [], _, _, hw => ⟨[], hw, rfl⟩
  | e :: l, u, v, hw => by
    obtain ⟨e', h1, h2, h3, h4⟩ := h e hw.1
    obtain ⟨l', h5, h6⟩ := like_wk h hw.2.2
    exact ⟨e' :: l', ⟨h1, by rw [h2]; exact hw.2.1, by rw [h3]; exact h5⟩, by show e'.w + wt l' = e.w + wt l; rw [h4, h6]⟩
theorem like_dst {E E' : List Ed} (h : Like E E') (h' : Like E' E) {u v : Nat} {m : Int} : Dst E u v m ↔ Dst E' u v m := by
  have key : ∀ {E E' : List Ed}, Like E E' → Like E' E → Dst E u v m → Dst E' u v m := fun {E E'} h h' hd => by
    obtain ⟨⟨l, h1, h2⟩, h3⟩ := hd
    obtain ⟨l', k1, k2⟩ := like_wk h h1
    refine ⟨⟨l', k1, by rw [k2, h2]⟩, fun l hl => ?_⟩
    obtain ⟨l2, q1, q2⟩ := like_wk h' hl
    rw [← q2]; exact h3 l2 q1
  exact ⟨key h h', key h' h⟩
theorem part_like (c : ChD) (a : Bool) (S : Nat → Bool) : Like (edE (partC c S) a allS) (edE c a S) ∧ Like (edE c a S) (edE (partC c S) a allS) := by
  refine ⟨fun e he => ?_, fun e he => ?_⟩
  · obtain ⟨j, s, hs, _, hc⟩ := edE_mem.1 he
    obtain ⟨i, _, h2, h3⟩ := part_at.1 hs
    rcases hc with rfl | rfl
    · exact ⟨edF a i s, edE_mem.2 ⟨i, s, h3, h2, .inl rfl⟩, rfl, rfl, rfl⟩
    · exact ⟨edT a i s, edE_mem.2 ⟨i, s, h3, h2, .inr rfl⟩, rfl, rfl, rfl⟩
  · obtain ⟨i, s, hs, hi, hc⟩ := edE_mem.1 he
    obtain ⟨j, hj⟩ := List.mem_iff_getElem?.1 (part_mem.2 ⟨i, hi, hs⟩)
    rcases hc with rfl | rfl
    · exact ⟨edF a j s, edE_mem.2 ⟨j, s, hj, rfl, .inl rfl⟩, rfl, rfl, rfl⟩
    · exact ⟨edT a j s, edE_mem.2 ⟨j, s, hj, rfl, .inr rfl⟩, rfl, rfl, rfl⟩
/-- The least ways of a part are those of its sights in the whole. -/
theorem part_dst {c : ChD} {a : Bool} {S : Nat → Bool} {u v : Nat} {m : Int} : Dst (edE (partC c S) a allS) u v m ↔ Dst (edE c a S) u v m := like_dst (part_like c a S).1 (part_like c a S).2
end Go.ChaM
namespace Go.ChaM
open Go Go.Sy
def flipS (s : SiD) : SiD := ⟨s.to, s.fr, -s.eh, -s.el, -s.nh, -s.nl⟩
def flipC (c : ChD) : ChD := ⟨c.n, c.si.map flipS⟩
theorem flip_lo (a : Bool) (s : SiD) : loA a (flipS s) = -hiA a s := by cases a <;> rfl
theorem flip_hi (a : Bool) (s : SiD) : hiA a (flipS s) = -loA a s := by cases a <;> rfl
theorem flip_ok {c : ChD} (hO : ChOk c) : ChOk (flipC c) := ⟨hO.n1, hO.n2, by show (c.si.map flipS).length ≤ 10; rw [List.length_map]; exact hO.l, fun s hs => by
  obtain ⟨t, ht, rfl⟩ := List.mem_map.1 hs
  have h := hO.s t ht
  exact ⟨h.t0, h.t1, h.f0, h.f1, fun e => h.ne e.symm, fun a => by have := h.h a; rw [flip_lo]; omega, fun a => by have := h.m a; rw [flip_lo, flip_hi]; omega, fun a => by have := h.l a; rw [flip_hi]; omega⟩⟩
theorem flip_at {c : ChD} {i : Nat} {s : SiD} : (flipC c).si[i]? = some s ↔ ∃ t, c.si[i]? = some t ∧ s = flipS t := by
  show (c.si.map flipS)[i]? = some s ↔ _
  rw [List.getElem?_map]
  cases c.si[i]? with
  | none => simp
  | some t => simp [eq_comm]
theorem flip_edF (a : Bool) (i : Nat) (s : SiD) : (edF a i (flipS s)).u = (edT a i s).u ∧ (edF a i (flipS s)).v = (edT a i s).v ∧ (edF a i (flipS s)).w = (edT a i s).w := ⟨rfl, rfl, flip_hi a s⟩
theorem flip_edT (a : Bool) (i : Nat) (s : SiD) : (edT a i (flipS s)).u = (edF a i s).u ∧ (edT a i (flipS s)).v = (edF a i s).v ∧ (edT a i (flipS s)).w = (edF a i s).w := ⟨rfl, rfl, by show -loA a (flipS s) = hiA a s; rw [flip_lo]; omega⟩
theorem flip_like (c : ChD) (a : Bool) (S : Nat → Bool) : Like (edE (flipC c) a S) (edE c a S) ∧ Like (edE c a S) (edE (flipC c) a S) := by
  refine ⟨fun e he => ?_, fun e he => ?_⟩
  · obtain ⟨i, s, hs, hi, hc⟩ := edE_mem.1 he
    obtain ⟨t, ht, rfl⟩ := flip_at.1 hs
    rcases hc with rfl | rfl
    · obtain ⟨h1, h2, h3⟩ := flip_edF a i t
      exact ⟨edT a i t, edE_mem.2 ⟨i, t, ht, hi, .inr rfl⟩, h1.symm, h2.symm, h3.symm⟩
    · obtain ⟨h1, h2, h3⟩ := flip_edT a i t
      exact ⟨edF a i t, edE_mem.2 ⟨i, t, ht, hi, .inl rfl⟩, h1.symm, h2.symm, h3.symm⟩
  · obtain ⟨i, s, hs, hi, hc⟩ := edE_mem.1 he
    have hf := flip_at.2 ⟨s, hs, rfl⟩
    rcases hc with rfl | rfl
    · exact ⟨edT a i (flipS s), edE_mem.2 ⟨i, _, hf, hi, .inr rfl⟩, flip_edT a i s⟩
    · exact ⟨edF a i (flipS s), edE_mem.2 ⟨i, _, hf, hi, .inl rfl⟩, flip_edF a i s⟩
theorem like_noneg {E E' : List Ed} (h : Like E E') (hN : NoNeg E') : NoNeg E := fun u l hl => by
  obtain ⟨l', h1, h2⟩ := like_wk h hl
  rw [← h2]; exact hN u l' h1
theorem flip_can (c : ChD) (S : Nat → Bool) : Can c S ↔ Can (flipC c) S :=
  ⟨fun h a => like_noneg (flip_like c a S).1 (h a), fun h a => like_noneg (flip_like c a S).2 (h a)⟩
theorem flip_why {c : ChD} (hO : ChOk c) : (wrL c = [] ↔ wrL (flipC c) = []) ∧ bst (wrL c) = bst (wrL (flipC c)) ∧ bst (drpL c) = bst (drpL (flipC c)) := same_why hO (flip_ok hO) (List.length_map _).symm (flip_can c)
/-- What the program knows after all rounds, with the same least ways. -/
theorem bnd_same {c c' : ChD} (hO : ChOk c) (hO' : ChOk c') {a : Bool} {out out' : Nat → Bool} (hN : NoNeg (edE c a fun i => !out i)) (hN' : NoNeg (edE c' a fun i => !out' i)) {u v u' v' : Nat} (hu : u < c.n.toNat) (hu' : u' < c'.n.toNat) (h : ∀ m, Dst (edE c a fun i => !out i) u v m ↔ Dst (edE c' a fun i => !out' i) u' v' m) : bndV c a out u v = bndV c' a out' u' v' := by
  cases e : bndV c a out u v with
  | some m => exact ((bnd_dst hO' hN' hu').2 ((h m).1 ((bnd_dst hO hN hu).1 e))).symm
  | none =>
    cases e2 : bndV c' a out' u' v' with
    | none => rfl
    | some m => rw [(bnd_dst hO hN hu).2 ((h m).2 ((bnd_dst hO' hN' hu').1 e2))] at e; cases e
theorem flip_bnd {c : ChD} (hO : ChOk c) {a : Bool} {out : Nat → Bool} (hN : NoNeg (edE c a fun i => !out i)) {u v : Nat} (hu : u < c.n.toNat) : bndV c a out u v = bndV (flipC c) a out u v :=
  bnd_same hO (flip_ok hO) hN (like_noneg (flip_like c a _).1 hN) hu hu fun _ => like_dst (flip_like c a _).2 (flip_like c a _).1
theorem flip_chB {c : ChD} (h : chB c = true) : chB (flipC c) = true := chB_iff.2 (flip_ok (chB_iff.1 h))
theorem flip_bet {c : ChD} (h : chB c = true) (x y : Int) : betE c x y = betE (flipC c) x y ∧ ∀ a, betV c a x y = betV (flipC c) a x y := by
  have hO := chB_iff.1 h
  have h' := flip_chB h
  have hE : betE c x y = betE (flipC c) x y := by
    unfold betE
    rw [h, h', if_neg (c := true = false) (by decide), if_neg (c := true = false) (by decide)]
    have e : (stB (flipC c) x && stB (flipC c) y) = (stB c x && stB c y) := rfl
    rw [e]
    by_cases h2 : (stB c x && stB c y) = false
    · rw [if_pos h2, if_pos h2]
    · rw [if_neg h2, if_neg h2]
      rw [Bool.not_eq_false, Bool.and_eq_true] at h2
      have hw := (flip_why hO).1
      by_cases h3 : wrL c ≠ []
      · rw [if_pos h3, if_pos (fun e => h3 (hw.2 e))]
      · have h4 : wrL c = [] := by simpa using h3
        rw [if_neg h3, if_neg (c := wrL (flipC c) ≠ []) (fun e => e (hw.1 h4)), flip_bnd hO (wr_noneg hO h4 false) (st_lt h2.1).2]
  refine ⟨hE, fun a => ?_⟩
  unfold betV
  rw [← hE]
  by_cases h0 : betE c x y = 0
  · obtain ⟨_, hw, hx, hy, _⟩ := bet_ok h0
    rw [if_pos h0, if_pos h0, flip_bnd hO (wr_noneg hO hw a) (st_lt hx).2, flip_bnd hO (wr_noneg hO hw a) (st_lt hy).2]
  · rw [if_neg h0, if_neg h0]
theorem flip_idl {c : ChD} (hO : ChOk c) {a : Bool} (hN : NoNeg (edE c a allS)) {i : Nat} {s : SiD} (hs : c.si[i]? = some s) : idlA c a i s ↔ idlA (flipC c) a i (flipS s) := by
  have hN' := like_noneg (flip_like c a allS).1 hN
  rw [idl_iff hO hN hs, idl_iff (flip_ok hO) hN' (flip_at.2 ⟨s, hs, rfl⟩)]
  have d : ∀ (S : Nat → Bool) (u v : Nat) (m : Int), Dst (edE c a S) u v m ↔ Dst (edE (flipC c) a S) u v m := fun S _ _ _ => like_dst (flip_like c a S).2 (flip_like c a S).1
  constructor
  · intro h u v m
    exact (d _ u v m).symm.trans ((h u v m).trans (d _ u v m))
  · intro h u v m
    exact (d _ u v m).trans ((h u v m).trans (d _ u v m).symm)
/-- How many are in a set, counted one by one. -/
theorem pc_count : ∀ (n : Nat) {s : Nat}, n ≤ 64 → s < 2 ^ n → pc s = ((List.range n).filter s.testBit).length
  | 0, s, _, hs => by
    rw [Nat.pow_zero] at hs
    rw [show s = 0 by omega]
    exact pc_zero
  | n + 1, s, hn, hs => by
    have h64 : 2 ^ (n + 1) ≤ 2 ^ 64 := Nat.pow_le_pow_right (by omega) hn
    have hs2 : s / 2 < 2 ^ n := by rw [Nat.pow_succ] at hs; omega
    rw [pc_step (n := s) (by omega), pc_count n (by omega) hs2, List.range_succ_eq_map, List.filter_cons, List.filter_map, Nat.testBit_zero]
    have e : (s.testBit ∘ Nat.succ) = (s / 2).testBit := funext fun i => by
      show s.testBit (i + 1) = _
      rw [Nat.testBit_div_two]
    rw [e]
    by_cases h : s % 2 = 1
    · rw [if_pos (decide_eq_true h), List.length_cons, List.length_map]; omega
    · rw [if_neg (by simpa using h), List.length_map]; omega
end Go.ChaM
namespace Go.ChaM
open Go Go.Sy
def bitN (f : Nat → Bool) : Nat → Nat
  | 0 => 0
  | n + 1 => bitN f n ||| if f n then 2 ^ n else 0
theorem bitN_bit {f : Nat → Bool} {i : Nat} : ∀ {n : Nat}, (bitN f n).testBit i = (decide (i < n) && f i)
  | 0 => by simp [bitN]
  | n + 1 => by
    rw [bitN, Nat.testBit_or, bitN_bit]
    by_cases e : i = n
    · subst e
      cases h : f i <;> simp
    · have e2 : (if f n = true then 2 ^ n else 0).testBit i = false := by
        split
        · rw [Nat.testBit_two_pow, decide_eq_false (fun h => e h.symm)]
        · exact Nat.zero_testBit _
      rw [e2, Bool.or_false]
      by_cases h : i < n
      · rw [decide_eq_true h, decide_eq_true (show i < n + 1 by omega)]
      · rw [decide_eq_false h, decide_eq_false (show ¬ i < n + 1 by omega)]
theorem bitN_lt (f : Nat → Bool) (n : Nat) : bitN f n < 2 ^ n := Nat.lt_pow_two_of_testBit _ fun i hi => by
  rw [bitN_bit, decide_eq_false (by omega)]; rfl
theorem rev_perm (n : Nat) : ((List.range n).map fun i => n - 1 - i).Perm (List.range n) := by
  rw [List.perm_ext_iff_of_nodup ?_ List.nodup_range]
  · intro x
    rw [List.mem_map, List.mem_range]
    constructor
    · rintro ⟨a, ha, rfl⟩; have := List.mem_range.1 ha; omega
    · intro hx; exact ⟨n - 1 - x, List.mem_range.2 (by omega), by omega⟩
  · rw [List.Nodup, List.pairwise_map]
    refine List.Pairwise.imp_of_mem (fun {a b} ha hb hab e => hab ?_) List.nodup_range
    have h1 := List.mem_range.1 ha; have h2 := List.mem_range.1 hb
    omega
/-- A set told the other way round. -/
def revN (n s : Nat) : Nat := bitN (fun i => s.testBit (n - 1 - i)) n
theorem revN_bit {n s i : Nat} (h : i < n) : (revN n s).testBit i = s.testBit (n - 1 - i) := by
  unfold revN; rw [bitN_bit, decide_eq_true h, Bool.true_and]
theorem revN_pc {n s : Nat} (hn : n ≤ 64) (hs : s < 2 ^ n) : pc (revN n s) = pc s := by
  have hr : revN n s < 2 ^ n := bitN_lt _ n
  rw [pc_count n hn hr, pc_count n hn hs]
  have h1 := ((rev_perm n).filter s.testBit).length_eq
  rw [← h1, List.filter_map, List.length_map]
  congr 1
  refine List.filter_congr fun i hi => ?_
  exact revN_bit (List.mem_range.1 hi)
def renS (σ : Nat → Nat) (s : SiD) : SiD := ⟨(σ s.fr.toNat : Nat), (σ s.to.toNat : Nat), s.el, s.eh, s.nl, s.nh⟩
def renC (c : ChD) (σ : Nat → Nat) : ChD := ⟨c.n, c.si.reverse.map (renS σ)⟩
section
variable {c : ChD} {σ τ : Nat → Nat} (hO : ChOk c) (hs : ∀ i, i < c.n.toNat → σ i < c.n.toNat ∧ τ (σ i) = i) (ht : ∀ i, i < c.n.toNat → τ i < c.n.toNat ∧ σ (τ i) = i)
theorem ren_len (c : ChD) (σ : Nat → Nat) : (renC c σ).si.length = c.si.length := by
  show (c.si.reverse.map (renS σ)).length = _
  rw [List.length_map, List.length_reverse]
theorem ren_at {j : Nat} {s : SiD} : (renC c σ).si[j]? = some s ↔ ∃ t, j < c.si.length ∧ c.si[c.si.length - 1 - j]? = some t ∧ s = renS σ t := by
  show (c.si.reverse.map (renS σ))[j]? = some s ↔ _
  rw [List.getElem?_map]
  by_cases h : j < c.si.length
  · rw [List.getElem?_reverse h]
    cases c.si[c.si.length - 1 - j]? with
    | none => simp
    | some t => simp [h, eq_comm]
  · rw [List.getElem?_eq_none (by rw [List.length_reverse]; omega)]
    simp [h]
include hO hs
theorem ren_ok : ChOk (renC c σ) := ⟨hO.n1, hO.n2, by rw [ren_len]; exact hO.l, fun s h => by
  obtain ⟨t, ht, rfl⟩ := List.mem_map.1 h
  have ho := hO.s t (List.mem_reverse.1 ht)
  have h1 := ho.f0; have h2 := ho.f1; have h3 := ho.t0; have h4 := ho.t1
  have k1 := hs t.fr.toNat (by omega)
  have k2 := hs t.to.toNat (by omega)
  exact ⟨by show (0 : Int) ≤ (σ t.fr.toNat : Nat); omega, by show ((σ t.fr.toNat : Nat) : Int) < c.n; omega, by show (0 : Int) ≤ (σ t.to.toNat : Nat); omega, by show ((σ t.to.toNat : Nat) : Int) < c.n; omega, fun e => by
    have e2 : σ t.fr.toNat = σ t.to.toNat := Int.ofNat_inj.1 e
    have := k1.2
    rw [e2, k2.2] at this
    exact ho.ne (by omega), ho.l, ho.m, ho.h⟩⟩
theorem ren_can (S : Nat → Bool) : Can (renC c σ) S ↔ Can c fun i => S (c.si.length - 1 - i) := by
  rw [can_iff (ren_ok hO hs), can_iff hO]
  constructor
  · intro h a
    obtain ⟨p, hp⟩ := h a
    refine ⟨fun i => p (σ i), fun i s hi hS => ?_⟩
    have hl := (List.getElem?_eq_some_iff.1 hi).1
    have := hp (c.si.length - 1 - i) (renS σ s) (ren_at.2 ⟨s, by omega, by rw [show c.si.length - 1 - (c.si.length - 1 - i) = i by omega]; exact hi, rfl⟩) hS
    exact this
  · intro h a
    obtain ⟨p, hp⟩ := h a
    refine ⟨fun i => p (τ i), fun j s hj hS => ?_⟩
    obtain ⟨t, h1, h2, rfl⟩ := ren_at.1 hj
    have := hp _ t h2 (by rw [show c.si.length - 1 - (c.si.length - 1 - j) = j by omega]; exact hS)
    have ho := hO.s t (List.mem_of_getElem? h2)
    have g1 := ho.f0; have g2 := ho.f1; have g3 := ho.t0; have g4 := ho.t1
    have k1 := (hs t.fr.toNat (by omega)).2
    have k2 := (hs t.to.toNat (by omega)).2
    unfold Right at this ⊢
    show loA a t ≤ p (τ (σ t.to.toNat)) - p (τ (σ t.fr.toNat)) ∧ p (τ (σ t.to.toNat)) - p (τ (σ t.fr.toNat)) ≤ hiA a t
    rw [k1, k2]; exact this
/-- As many are named, and must be wrong. -/
theorem ren_size : (wrL c = [] ↔ wrL (renC c σ) = []) ∧ pc (bst (wrL c)) = pc (bst (wrL (renC c σ))) ∧ pc (bst (drpL c)) = pc (bst (drpL (renC c σ))) := by
  have hO' := ren_ok hO hs
  have hl := hO.l
  have hln := ren_len c σ
  have can := ren_can (τ := τ) hO hs
  have e : wrL c = [] ↔ wrL (renC c σ) = [] := by
    rw [← can_all hO, ← can_all hO']; exact (can fun _ => true).symm
  have cr : ∀ {s : Nat}, Can (renC c σ) (revN c.si.length s).testBit ↔ Can c s.testBit := fun {s} => by
    rw [can]
    refine Can.congr fun i hi => ?_
    rw [revN_bit (by omega), show c.si.length - 1 - (c.si.length - 1 - i) = i by omega]
  have cr2 : ∀ {s : Nat}, Can c (revN c.si.length s).testBit ↔ Can (renC c σ) s.testBit := fun {s} => by
    rw [can]
    exact Can.congr fun i hi => revN_bit hi
  have dr : ∀ {s : Nat}, (Can (renC c σ) fun i => !(revN c.si.length s).testBit i) ↔ Can c fun i => !s.testBit i := fun {s} => by
    rw [can]
    refine Can.congr fun i hi => ?_
    rw [revN_bit (by omega), show c.si.length - 1 - (c.si.length - 1 - i) = i by omega]
  have dr2 : ∀ {s : Nat}, (Can c fun i => !(revN c.si.length s).testBit i) ↔ Can (renC c σ) fun i => !s.testBit i := fun {s} => by
    rw [can]
    refine Can.congr fun i hi => ?_
    rw [revN_bit hi]
  have le : ∀ {x y : Nat}, (x = y ∨ Bet x y) → pc x ≤ pc y := fun {x y} h => by
    rcases h with rfl | h
    · exact Nat.le_refl _
    · unfold Bet at h; omega
  refine ⟨e, ?_, ?_⟩
  · by_cases hw : wrL c = []
    · rw [hw, e.1 hw]
    · have hw' : wrL (renC c σ) ≠ [] := fun h => hw (e.2 h)
      have m1 := bst_mem hw
      have m2 := bst_mem hw'
      have l1 := (wr_lt m1).1
      have l2 := (wr_lt m2).1
      rw [hln] at l2
      have h1 := le (why_best hO' (s := revN c.si.length (bst (wrL c))) (by rw [hln]; exact bitN_lt _ _) (fun h => wr_cant hO m1 (cr.1 h))).2
      have h2 := le (why_best hO (s := revN c.si.length (bst (wrL (renC c σ)))) (bitN_lt _ _) (fun h => wr_cant hO' m2 (cr2.1 h))).2
      rw [revN_pc (by omega) l1] at h1
      rw [revN_pc (by omega) l2] at h2
      omega
  · obtain ⟨a1, a2, a3⟩ := drp_best hO
    obtain ⟨b1, b2, b3⟩ := drp_best hO'
    rw [hln] at b1
    have h1 := le (b3 (revN c.si.length (bst (drpL c))) (by rw [hln]; exact bitN_lt _ _) (dr.2 a2))
    have h2 := le (a3 (revN c.si.length (bst (drpL (renC c σ)))) (bitN_lt _ _) (dr2.2 b2))
    rw [revN_pc (by omega) a1] at h1
    rw [revN_pc (by omega) b1] at h2
    omega
end
end Go.ChaM
namespace Go.ChaM
open Go Go.Sy
theorem bet_same {c c' : ChD} (hO : ChOk c) (hO' : ChOk c') (hn : c.n = c'.n) (hw : wrL c = []) (hw' : wrL c' = []) (h : ∀ a u v m, Dst (edE c a allS) u v m ↔ Dst (edE c' a allS) u v m) (x y : Int) : betE c x y = betE c' x y ∧ ∀ a, betV c a x y = betV c' a x y := by
  have hb : ∀ a {u v : Nat}, u < c.n.toNat → bndV c a noneS u v = bndV c' a noneS u v := fun a {u v} hu => bnd_same hO hO' (wr_noneg hO hw a) (wr_noneg hO' hw' a) hu (by rw [← hn]; exact hu) fun m => h a u v m
  have hE : betE c x y = betE c' x y := by
    unfold betE
    rw [chB_iff.2 hO, chB_iff.2 hO', if_neg (c := true = false) (by decide), if_neg (c := true = false) (by decide)]
    have e : (stB c' x && stB c' y) = (stB c x && stB c y) := by unfold stB; rw [hn]
    rw [e]
    by_cases h2 : (stB c x && stB c y) = false
    · rw [if_pos h2, if_pos h2]
    · rw [if_neg h2, if_neg h2, if_neg (c := wrL c ≠ []) (fun e => e hw), if_neg (c := wrL c' ≠ []) (fun e => e hw')]
      rw [Bool.not_eq_false, Bool.and_eq_true] at h2
      rw [hb false (st_lt h2.1).2]
  refine ⟨hE, fun a => ?_⟩
  unfold betV
  rw [← hE]
  by_cases h0 : betE c x y = 0
  · obtain ⟨_, _, hx, hy, _⟩ := bet_ok h0
    rw [if_pos h0, if_pos h0, hb a (st_lt hx).2, hb a (st_lt hy).2]
  · rw [if_neg h0, if_neg h0]
section
variable {c : ChD} (hO : ChOk c) (hw : wrL c = []) {i : Nat} {s : SiD} (hs : c.si[i]? = some s)
include hO hw hs
omit hs in
theorem less_wr : wrL (partC c fun k => !decide (k = i)) = [] := (part_can hO).2 (((can_all hO).2 hw).less fun _ _ => rfl)
/-- Without a sight that tells nothing all spans are the same. -/
theorem idl_part (hi : ∀ a, idlA c a i s) (x y : Int) : betE c x y = betE (partC c fun k => !decide (k = i)) x y ∧ ∀ a, betV c a x y = betV (partC c fun k => !decide (k = i)) a x y := by
  refine bet_same hO (part_ok hO _) rfl hw (less_wr hO hw) (fun a u v m => ?_) x y
  exact ((idl_iff hO ((can_all hO).2 hw a) hs).1 (hi a) u v m).trans part_dst.symm
/-- A sight's own span lies within what it tells. -/
theorem own_span : betE c s.fr s.to = 0 ∧ ∀ a, loA a s ≤ (betV c a s.fr s.to).1 ∧ (betV c a s.fr s.to).2 ≤ hiA a s := by
  have ho := hO.s s (List.mem_of_getElem? hs)
  have h1 := ho.f0; have h2 := ho.f1; have h3 := ho.t0; have h4 := ho.t1
  have hf : stB c s.fr = true := by unfold stB inC; simp only [Bool.and_eq_true, decide_eq_true_eq]; omega
  have ht : stB c s.to = true := by unfold stB inC; simp only [Bool.and_eq_true, decide_eq_true_eq]; omega
  have e0 : betE c s.fr s.to = 0 := by
    unfold betE
    rw [chB_iff.2 hO, if_neg (c := true = false) (by decide), hf, ht, if_neg (c := (true && true) = false) (by decide), if_neg (c := wrL c ≠ []) (fun e => e hw), if_neg]
    intro hn
    exact (bnd_none hO (wr_noneg hO hw false) (st_lt hf).2).1 hn [edF false i s] ⟨edE_mem.2 ⟨i, s, hs, rfl, .inl rfl⟩, rfl, rfl⟩
  refine ⟨e0, fun a => ?_⟩
  obtain ⟨_, _, _, _, hb⟩ := bet_ok e0
  obtain ⟨lo, hi, e, d1, d2⟩ := hb a
  have k1 := d1.2 [edF a i s] ⟨edE_mem.2 ⟨i, s, hs, rfl, .inl rfl⟩, rfl, rfl⟩
  have k2 := d2.2 [edT a i s] ⟨edE_mem.2 ⟨i, s, hs, rfl, .inr rfl⟩, rfl, rfl⟩
  have g1 : wt [edF a i s] = hiA a s := Int.add_zero _
  have g2 : wt [edT a i s] = -loA a s := Int.add_zero _
  rw [e]
  exact ⟨by show loA a s ≤ lo; omega, by show hi ≤ hiA a s; omega⟩
/-- Without one that tells something its own stations can lie elsewhere. -/
theorem idl_not (hz : betE (partC c fun k => !decide (k = i)) s.fr s.to = 0) (he : ∀ a, betV (partC c fun k => !decide (k = i)) a s.fr s.to = betV c a s.fr s.to) (a : Bool) : idlA c a i s := by
  obtain ⟨_, hsp⟩ := own_span hO hw hs
  obtain ⟨h1, h2⟩ := hsp a
  obtain ⟨_, _, hx, hy, hb⟩ := bet_ok hz
  obtain ⟨lo, hi, e, d1, d2⟩ := hb a
  rw [← he a, e] at h1 h2
  have hN : NoNeg (edE c a fun k => !decide (k = i)) := fun u l hl => (can_all hO).2 hw a u l (hl.mono (edE_mono fun _ _ => rfl))
  refine ⟨⟨hi, (bnd_dst hO hN (st_lt hx).2).2 (part_dst.1 d1), h2⟩, -lo, (bnd_dst hO hN (st_lt hy).2).2 (part_dst.1 d2), ?_⟩
  rw [Int.neg_neg]; exact h1
end
theorem link_wk {E E' : List Ed} (h : ∀ e ∈ E, ∃ e' ∈ E', e'.u = e.u ∧ e'.v = e.v) : ∀ {l : List Ed} {u v : Nat}, Wk E u l v → ∃ l', Wk E' u l' v
  | [], _, _, hw => ⟨[], hw⟩
  | e :: l, u, v, hw => by
    obtain ⟨e', h1, h2, h3⟩ := h e hw.1
    obtain ⟨l', h4⟩ := link_wk h hw.2.2
    exact ⟨e' :: l', h1, by rw [h2]; exact hw.2.1, by rw [h3]; exact h4⟩
/-- What is linked stays so with more sights. -/
theorem link_bet {c c' : ChD} (hO' : ChOk c') (hn : c.n = c'.n) (h : ∀ (i : Nat) (s : SiD), c.si[i]? = some s → ∃ s' : SiD, c'.si[i]? = some s' ∧ s'.fr = s.fr ∧ s'.to = s.to) {x y : Int} (hb : betE c x y = 0) (hw' : wrL c' = []) : betE c' x y = 0 := by
  obtain ⟨hO, hw, hx, hy, hbb⟩ := bet_ok hb
  obtain ⟨lo, hi, _, d1, _⟩ := hbb false
  obtain ⟨l, k1, _⟩ := d1.1
  have hx' : stB c' x = true := by unfold stB at hx ⊢; rw [← hn]; exact hx
  have hy' : stB c' y = true := by unfold stB at hy ⊢; rw [← hn]; exact hy
  obtain ⟨l', k2⟩ := link_wk (E' := edE c' false allS) (fun e he => by
    obtain ⟨i, s, hs, _, hc⟩ := edE_mem.1 he
    obtain ⟨s', q1, q2, q3⟩ := h i s hs
    rcases hc with rfl | rfl
    · exact ⟨edF false i s', edE_mem.2 ⟨i, s', q1, rfl, .inl rfl⟩, by show s'.fr.toNat = s.fr.toNat; rw [q2], by show s'.to.toNat = s.to.toNat; rw [q3]⟩
    · exact ⟨edT false i s', edE_mem.2 ⟨i, s', q1, rfl, .inr rfl⟩, by show s'.to.toNat = s.to.toNat; rw [q3], by show s'.fr.toNat = s.fr.toNat; rw [q2]⟩) k1
  unfold betE
  rw [chB_iff.2 hO', if_neg (c := true = false) (by decide), hx', hy', if_neg (c := (true && true) = false) (by decide), if_neg (c := wrL c' ≠ []) (fun e => e hw'), if_neg]
  intro hnn
  exact (bnd_none hO' (wr_noneg hO' hw' false) (st_lt hx').2).1 hnn l' k2
end Go.ChaM
