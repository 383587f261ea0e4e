/- Lemmas, in order: Marks in memory: a part of a row, from its end or from its beginning. Plain laws: what the law of asking sums up, mark by mark. Plain laws: all ways, as the reference looks for them, one after the other.. -/
import Derived.Test.YtidieepndphodaaGreatQ7
namespace Go.MatM
open Go Go.Sy Go.Proofs Go.RowKit
theorem mkAt_take {w : World} {sa : Option Addr} {l : List Mk} (h : MkAt w sa l) (m : Nat) : MkAt w sa (l.take m) := fun i s hi => by
  rw [List.getElem?_take] at hi
  split at hi
  · exact h i s hi
  · cases hi
theorem mkAt_drop {w : World} {sa : Option Addr} {l : List Mk} (h : MkAt w sa l) {c m : Nat} (hc : l.length ≤ c) : MkAt w (if c = m then sa else sa.map (·.add (m * 4))) (l.drop m) := by
  by_cases e : c = m
  · rw [List.drop_eq_nil_of_le (by omega)]; exact MkAt.nil _ _
  · rw [if_neg e]
    intro i s hi
    rw [List.getElem?_drop] at hi
    obtain ⟨blk, off, c, T, fr, e1, e2, e3⟩ := h _ s hi
    subst e1
    refine ⟨blk, off + m * 4, c, T, fr, ?_, e2, by rw [show off + m * 4 + i * 4 = off + (m + i) * 4 by omega]; exact e3⟩
    show some (Addr.add ⟨blk, off, none⟩ (m * 4)) = _
    rw [add_spot]
theorem ownSl_cut {e size m m' cap : Nat} {oa : Option Addr} {xs : List Value} {X : List (Nat × Obj)} (h : OwnSl e size (.slice oa m cap) m xs X) (hm : m' ≤ m) : OwnSl e size (.slice oa m' cap) m' (xs.take (m' * size)) X := by
  have hle : m' * size ≤ m * size := Nat.mul_le_mul_right _ hm
  refine ⟨by rw [List.length_take, h.1]; omega, ?_⟩
  rcases h.2 with ⟨h1, h2, h3⟩ | ⟨B, cp, cur, h1, h2, h3, h4, h5, h6⟩
  · cases h1
    exact .inl ⟨by rw [show m' = 0 by omega], by omega, h3⟩
  · cases h1
    exact .inr ⟨B, _, cur, rfl, h2, by omega, h4, h5, by rw [← h6, List.take_take]; congr 1; omega⟩
theorem encM_take : ∀ (l : List Mk) (m : Nat), (encM l).take (m * 4) = encM (l.take m)
  | [], m => by simp [encM]
  | x :: l, 0 => by simp [encM]
  | x :: l, m + 1 => by
    have ih := encM_take l m
    unfold encM at *
    rw [List.take_succ_cons, List.flatMap_cons, List.flatMap_cons, ← ih, show (m + 1) * 4 = (mkC x).length + m * 4 by simp; omega, List.take_length_add_append]
theorem ownSl_capM {cap n : Nat} {oa : Option Addr} {xs : List Value} {X : List (Nat × Obj)} (h : OwnSl 89 4 (.slice oa n cap) n xs X) : n ≤ cap := by
  rcases h.2 with ⟨h1, h2, _⟩ | ⟨B, cp, cur, h1, _, h3, _⟩
  · omega
  · cases h1; exact h3
end Go.MatM
namespace Go.MatM
open Go Go.Sy Go.Proofs
theorem chs_len {F : Nat → Nat → Bool} {L R i k : Nat} (hL : L ≤ 10) (hR : R ≤ 10) : (chs F L R i k).length ≤ 1048576 := by
  have h := cnt_le (F := F) (i := i) (k := k) (n := 0) hL hR
  unfold cnt at h
  rw [List.countP_eq_length.2 (fun c _ => by simp)] at h
  exact h
theorem hidN_bd {d : RowsD} (hV : Valid d) (i : Nat) : 0 ≤ hidN d i ∧ hidN d i ≤ countV d := by
  unfold hidN countV
  rw [(okRows_iff d).2 hV, if_pos rfl, wH_eq]
  refine ⟨Int.natCast_nonneg _, Int.ofNat_le.2 ?_⟩
  rw [cnt_parts (i := i)]
  exact Nat.le_add_right _ _
theorem count_bd {d : RowsD} (hV : Valid d) : 0 ≤ countV d ∧ countV d ≤ 1048576 := by
  unfold countV
  rw [(okRows_iff d).2 hV, if_pos rfl]
  exact ⟨Int.natCast_nonneg _, by have := cnt_le (F := fitD d) (i := 0) (k := 0) (n := need d) hV.nl hV.nr; omega⟩
theorem wP_le {F : Nat → Nat → Bool} {L R i k n : Nat} : wP F L R i k n ≤ cnt F L R 0 0 n := by
  unfold wP cnt
  refine List.countP_mono_left fun c _ h => ?_
  simp only [Bool.and_eq_true] at h
  exact h.1
theorem pairN_bd {d : RowsD} (hV : Valid d) (i k : Nat) : 0 ≤ pairN d i k ∧ pairN d i k ≤ countV d := by
  rw [pairN_eq]
  unfold countV
  rw [(okRows_iff d).2 hV, if_pos rfl]
  exact ⟨Int.natCast_nonneg _, Int.ofNat_le.2 wP_le⟩
theorem worst_bd {d : RowsD} (hV : Valid d) (i : Nat) : ∀ m, 0 ≤ worstN d i m ∧ worstN d i m ≤ countV d
  | 0 => hidN_bd hV i
  | m + 1 => by
    have h1 := worst_bd hV i m
    have h2 := pairN_bd hV i m
    unfold pairN at h2
    rw [worstN]
    omega
theorem sum_worst {d : RowsD} (i : Nat) : ∀ m, worstN d i m = 0 → 0 ≤ hidN d i → (∀ k, 0 ≤ pairN d i k) → sumN d i m = 0
  | 0, h, _, _ => h
  | m + 1, h, h0, hp => by
    have hm := hp m
    rw [worstN] at h
    unfold pairN at hm
    have hw : 0 ≤ worstN d i m := by
      clear h hm
      induction m with
      | zero => exact h0
      | succ m ih => rw [worstN]; omega
    have ih := sum_worst i m (by omega) h0 hp
    rw [sumN, ih]
    unfold pairN
    omega
theorem worst_pos {d : RowsD} (hV : Valid d) (h : 0 < countV d) (i : Nat) : 1 ≤ worstN d i d.r.length := by
  have h1 := (worst_bd hV i d.r.length).1
  by_cases h0 : worstN d i d.r.length = 0
  · have := sum_worst i _ h0 (hidN_bd hV i).1 fun k => (pairN_bd hV i k).1
    rw [sumN_all hV] at this; omega
  · omega
/-- What is looked at, mark by mark: none to begin with. -/
def nW (d : RowsD) (i : Nat) : Nat → Int
  | 0 => 0
  | k + 1 => worstN d i k
def sW (d : RowsD) (i : Nat) : Nat → Int
  | 0 => 0
  | k + 1 => sumN d i k
def oW (d : RowsD) (i : Nat) : Nat → Int
  | 0 => hidN d i
  | k + 1 => pairN d i k
theorem nW_step {d : RowsD} (hV : Valid d) (i k : Nat) : nW d i (k + 1) = max (nW d i k) (oW d i k) := by
  match k with
  | 0 => have := (hidN_bd hV i).1; show hidN d i = max 0 (hidN d i); omega
  | k + 1 => rfl
theorem sW_step (d : RowsD) (i k : Nat) : sW d i (k + 1) = sW d i k + oW d i k := by
  match k with
  | 0 => show hidN d i = 0 + hidN d i; omega
  | k + 1 => rfl
theorem oW_bd {d : RowsD} (hV : Valid d) (i k : Nat) : 0 ≤ oW d i k ∧ oW d i k ≤ 1048576 := by
  have hc := count_bd hV
  match k with
  | 0 => have := hidN_bd hV i; show 0 ≤ hidN d i ∧ hidN d i ≤ _; omega
  | k + 1 => have := pairN_bd hV i k; show 0 ≤ pairN d i k ∧ pairN d i k ≤ _; omega
theorem sW_bd {d : RowsD} (hV : Valid d) (i : Nat) : ∀ k : Nat, 0 ≤ sW d i k ∧ sW d i k ≤ 1048576 * (k : Int)
  | 0 => by show (0 : Int) ≤ 0 ∧ (0 : Int) ≤ _; omega
  | k + 1 => by have h1 := sW_bd hV i k; have h2 := oW_bd hV i k; rw [sW_step]; omega
theorem nW_bd {d : RowsD} (hV : Valid d) (i k : Nat) : 0 ≤ nW d i k ∧ nW d i k ≤ 1048576 := by
  have hc := count_bd hV
  match k with
  | 0 => show (0 : Int) ≤ 0 ∧ (0 : Int) ≤ _; omega
  | k + 1 => have := worst_bd hV i k; show 0 ≤ worstN d i k ∧ worstN d i k ≤ _; omega
theorem prodS_bd {d : RowsD} (hV : Valid d) (i k : Nat) (hi : i < d.l.length) (hk : k < d.r.length) : ∀ m : Nat, 0 ≤ prodS d i k m ∧ prodS d i k m ≤ 1099511627776 * (m : Int)
  | 0 => by show (0 : Int) ≤ 0 ∧ (0 : Int) ≤ _; omega
  | m + 1 => by
    have ih := prodS_bd hV i k hi hk m
    have e : prodS d i k (m + 1) = prodS d i k m + (((chs (fitD d) i k 0 0).countP (fun c => decide (hidC i k c = m)) * atM (fitD d) d.l.length d.r.length (i + 1) (k + 1) (d.hid.toNat - m) : Nat) : Int) := by
      unfold prodS
      rw [List.range_succ, List.map_append, List.sum_append, Int.natCast_add]
      simp
    have h1 : (chs (fitD d) i k 0 0).countP (fun c => decide (hidC i k c = m)) ≤ 1048576 := Nat.le_trans List.countP_le_length (chs_len (by have := hV.nl; omega) (by have := hV.nr; omega))
    have h2 : atM (fitD d) d.l.length d.r.length (i + 1) (k + 1) (d.hid.toNat - m) ≤ 1048576 := Nat.le_trans List.countP_le_length (chs_len hV.nl hV.nr)
    have h3 := Nat.mul_le_mul h1 h2
    rw [e]
    omega
/-- What is asked about. -/
theorem ask_inv {d : RowsD} : ∀ n : Nat, (∀ j, j < n → (askN d n).2 ≤ worstN d j d.r.length ∧ (worstN d j d.r.length = (askN d n).2 → (askN d n).1 ≤ (j : Int))) ∧
    (askN d n = (0, ((cnt (fitD d) d.l.length d.r.length 0 0 (need d) : Nat) : Int) + 1) ∨ ∃ l : Nat, l < n ∧ askN d n = ((l : Int), worstN d l d.r.length))
  | 0 => ⟨fun j hj => absurd hj (Nat.not_lt_zero j), .inl rfl⟩
  | n + 1 => by
    obtain ⟨h1, h2⟩ := ask_inv (d := d) n
    rw [askN]
    by_cases h : worstN d n d.r.length < (askN d n).2
    · rw [if_pos h]
      refine ⟨fun j hj => ?_, .inr ⟨n, by omega, rfl⟩⟩
      simp only
      by_cases e : j = n
      · subst e; exact ⟨Int.le_refl _, fun _ => Int.le_refl _⟩
      · have := (h1 j (by omega)).1
        exact ⟨by omega, fun e2 => by omega⟩
    · rw [if_neg h]
      refine ⟨fun j hj => ?_, ?_⟩
      · by_cases e : j = n
        · subst e
          refine ⟨by omega, fun e2 => ?_⟩
          rcases h2 with h2 | ⟨l, hl, h2⟩
          · rw [h2]; exact Int.natCast_nonneg _
          · rw [h2]; simp only; omega
        · exact h1 j (by omega)
      · rcases h2 with h2 | ⟨l, hl, h2⟩
        · exact .inl h2
        · exact .inr ⟨l, by omega, h2⟩
theorem count_one {d : RowsD} (hV : Valid d) (h : d.l.length = 0) : countV d ≤ 1 := by
  unfold countV
  rw [(okRows_iff d).2 hV, if_pos rfl]
  unfold cnt
  rw [chs_one (.inl (by omega))]
  exact Int.ofNat_le.2 List.countP_le_length
theorem ask_few {d : RowsD} (hV : Valid d) (h : countV d ≤ 1) : askE d = 4 ∧ askV d = (0, 0) := by
  have hop := op_count hV
  have hc := count_bd hV
  have he : askE d = 4 := by
    unfold askE
    by_cases h0 : opE d true = 0
    · have := hop.1 h0
      have e : countV d = ((cnt (fitD d) d.l.length d.r.length 0 0 (need d) : Nat) : Int) := by unfold countV; rw [(okRows_iff d).2 hV, if_pos rfl]
      rw [if_pos h0, if_pos (by omega)]
    · rw [if_neg h0]; exact (count_none ((okRows_iff d).2 hV) h0).1
  exact ⟨he, by unfold askV; rw [if_neg (by omega)]⟩
theorem ask_most {d : RowsD} (hV : Valid d) (h : 1 < countV d) : askE d = 0 ∧ 0 < d.l.length ∧ ∃ l : Nat, l < d.l.length ∧ askV d = ((l : Int), worstN d l d.r.length) ∧ 1 ≤ worstN d l d.r.length ∧ worstN d l d.r.length ≤ countV d ∧
    ∀ j, j < d.l.length → worstN d l d.r.length < worstN d j d.r.length ∨ worstN d j d.r.length = worstN d l d.r.length ∧ l ≤ j := by
  have hop := (op_count hV).2 (by omega)
  have e : countV d = ((cnt (fitD d) d.l.length d.r.length 0 0 (need d) : Nat) : Int) := by unfold countV; rw [(okRows_iff d).2 hV, if_pos rfl]
  have he : askE d = 0 := by unfold askE; rw [if_pos hop, if_neg (by omega)]
  have hl : 0 < d.l.length := by
    rcases Nat.eq_zero_or_pos d.l.length with h0 | h0
    · have := count_one hV h0; omega
    · exact h0
  refine ⟨he, hl, ?_⟩
  obtain ⟨h1, h2⟩ := ask_inv (d := d) d.l.length
  have hv : askV d = askN d d.l.length := by unfold askV; rw [if_pos he]
  rw [hv]
  rcases h2 with h2 | ⟨l, hll, h2⟩
  · have h3 := (h1 0 hl).1
    have h4 := (worst_bd hV 0 d.r.length).2
    rw [h2] at h3
    simp only at h3
    omega
  · rw [h2] at h1
    simp only at h1
    refine ⟨l, hll, h2, worst_pos hV (by omega) l, (worst_bd hV l _).2, fun j hj => ?_⟩
    obtain ⟨h5, h6⟩ := h1 j hj
    by_cases e3 : worstN d j d.r.length = worstN d l d.r.length
    · exact .inr ⟨e3, by have := h6 e3; omega⟩
    · exact .inl (by omega)
end Go.MatM
namespace Go.MatM
open Go Go.Sy Go.Proofs
/-- All ways that go on from some pairs. -/
def wysF (d : RowsD) (b : List Pr) (i k : Nat) : List (List Pr) := ((chs (fitD d) d.l.length d.r.length i k).map (b ++ ·)).filter fun c => decide (need d ≤ c.length)
def wys (d : RowsD) : List (List Pr) := wysF d [] 0 0
def oneW (d : RowsD) (b : List Pr) : List (List Pr) := if need d ≤ b.length then [b] else []
def rowW (d : RowsD) (b : List Pr) (a k : Nat) : Nat → List (List Pr)
  | 0 => []
  | n + 1 => rowW d b a k n ++ if fitD d a (k + n) then wysF d (b ++ [(a, k + n)]) (a + 1) (k + n + 1) else []
def allW (d : RowsD) (b : List Pr) (i k : Nat) : Nat → List (List Pr)
  | 0 => []
  | n + 1 => allW d b i k n ++ rowW d b (i + n) k (d.r.length - k)
theorem wysF_step (d : RowsD) (b : List Pr) (i k : Nat) : wysF d b i k = oneW d b ++ (prs (fitD d) d.l.length d.r.length i k).flatMap fun p => wysF d (b ++ [p]) (p.1 + 1) (p.2 + 1) := by
  unfold wysF
  rw [chs_eq, List.map_cons, List.filter_cons, List.append_nil, List.map_flatMap, List.filter_flatMap]
  unfold oneW
  have e : (prs (fitD d) d.l.length d.r.length i k).flatMap (fun p => (((chs (fitD d) d.l.length d.r.length (p.1 + 1) (p.2 + 1)).map (p :: ·)).map (b ++ ·)).filter fun c => decide (need d ≤ c.length)) =
      (prs (fitD d) d.l.length d.r.length i k).flatMap fun p => ((chs (fitD d) d.l.length d.r.length (p.1 + 1) (p.2 + 1)).map (b ++ [p] ++ ·)).filter fun c => decide (need d ≤ c.length) := by
    refine flatMap_congr' fun p _ => ?_
    rw [List.map_map]
    congr 2
    funext c
    simp
  rw [e]
  by_cases h : need d ≤ b.length
  · rw [if_pos (by simpa using h), if_pos h]; rfl
  · rw [if_neg (by simpa using h), if_neg h]; rfl
theorem rowW_eq (d : RowsD) (b : List Pr) (a k : Nat) : ∀ n, rowW d b a k n = ((List.range' k n).filterMap fun y => if fitD d a y then some (a, y) else none).flatMap fun p => wysF d (b ++ [p]) (p.1 + 1) (p.2 + 1)
  | 0 => rfl
  | n + 1 => by
    rw [rowW, rowW_eq d b a k n, List.range'_concat, List.filterMap_append, List.flatMap_append, Nat.one_mul]
    congr 1
    by_cases h : fitD d a (k + n)
    · simp [h]
    · simp [h]
theorem allW_eq (d : RowsD) (b : List Pr) (i k : Nat) : ∀ n, allW d b i k n = ((List.range' i n).flatMap fun a => (List.range' k (d.r.length - k)).filterMap fun y => if fitD d a y then some (a, y) else none).flatMap fun p => wysF d (b ++ [p]) (p.1 + 1) (p.2 + 1)
  | 0 => rfl
  | n + 1 => by
    rw [allW, allW_eq d b i k n, List.range'_concat, List.flatMap_append, List.flatMap_append, Nat.one_mul, rowW_eq]
    simp
theorem wysF_all (d : RowsD) (b : List Pr) (i k : Nat) : wysF d b i k = oneW d b ++ allW d b i k (d.l.length - i) := by
  rw [wysF_step, allW_eq]; rfl
theorem rowW_mono (d : RowsD) (b : List Pr) (a k : Nat) {n m : Nat} (h : n ≤ m) : (rowW d b a k n).length ≤ (rowW d b a k m).length := by
  induction m with
  | zero => rw [show n = 0 by omega]; exact Nat.le_refl _
  | succ m ih =>
    rcases Nat.lt_or_ge m n with h1 | h1
    · rw [show n = m + 1 by omega]; exact Nat.le_refl _
    · rw [rowW, List.length_append]; have := ih h1; omega
theorem allW_mono (d : RowsD) (b : List Pr) (i k : Nat) {n m : Nat} (h : n ≤ m) : (allW d b i k n).length ≤ (allW d b i k m).length := by
  induction m with
  | zero => rw [show n = 0 by omega]; exact Nat.le_refl _
  | succ m ih =>
    rcases Nat.lt_or_ge m n with h1 | h1
    · rw [show n = m + 1 by omega]; exact Nat.le_refl _
    · rw [allW, List.length_append]; have := ih h1; omega
/-- What was found, up to a pair. -/
def curW (d : RowsD) (b : List Pr) (i k n m : Nat) : List (List Pr) := oneW d b ++ (allW d b i k n ++ rowW d b (i + n) k m)
theorem curW_le {d : RowsD} {b : List Pr} {i k n m : Nat} (h1 : n < d.l.length - i) (h2 : m ≤ d.r.length - k) : (curW d b i k n m).length ≤ (wysF d b i k).length := by
  rw [wysF_all]
  unfold curW
  simp only [List.length_append]
  have h3 := allW_mono d b i k (n := n + 1) (m := d.l.length - i) (by omega)
  rw [allW, List.length_append] at h3
  have h4 := rowW_mono d b (i + n) k h2
  omega
theorem curW_next (d : RowsD) (b : List Pr) (i k n : Nat) : curW d b i k n (d.r.length - k) = oneW d b ++ allW d b i k (n + 1) := by
  unfold curW; rw [allW]
theorem curW_zero (d : RowsD) (b : List Pr) (i k n : Nat) : curW d b i k n 0 = oneW d b ++ allW d b i k n := by
  unfold curW rowW; rw [List.append_nil]
theorem curW_yes {d : RowsD} {b : List Pr} {i k n m : Nat} (h : fitD d (i + n) (k + m) = true) : curW d b i k n (m + 1) = curW d b i k n m ++ wysF d (b ++ [(i + n, k + m)]) (i + n + 1) (k + m + 1) := by
  unfold curW; rw [rowW, if_pos h]; simp
theorem curW_no {d : RowsD} {b : List Pr} {i k n m : Nat} (h : fitD d (i + n) (k + m) = false) : curW d b i k n (m + 1) = curW d b i k n m := by
  unfold curW; rw [rowW, if_neg (by rw [h]; decide), List.append_nil]
theorem wysF_len {d : RowsD} (hV : Valid d) (b : List Pr) (i k : Nat) : (wysF d b i k).length ≤ 1048576 := by
  unfold wysF
  refine Nat.le_trans (List.length_filter_le _ _) ?_
  rw [List.length_map]
  exact chs_len hV.nl hV.nr
theorem wys_eq (d : RowsD) : wys d = (chs (fitD d) d.l.length d.r.length 0 0).filter fun c => decide (need d ≤ c.length) := by
  unfold wys wysF; simp
theorem wys_cnt (d : RowsD) : (wys d).length = cnt (fitD d) d.l.length d.r.length 0 0 (need d) := by
  rw [wys_eq]; unfold cnt; rw [List.countP_eq_length_filter]
theorem mem_wys {d : RowsD} {c : List Pr} : c ∈ wys d ↔ Ch (fitD d) d.l.length d.r.length 0 0 c ∧ need d ≤ c.length := by
  rw [wys_eq, List.mem_filter, mem_chs]; simp
theorem wys_none (d : RowsD) : (wys d).length = 0 ↔ isD d = false := by
  have h := isD_cnt d
  rw [wys_cnt]
  cases hi : isD d with
  | false => rw [hi] at h; simp at h; simp [h]
  | true => rw [hi] at h; have := h.1 rfl; simp; omega
end Go.MatM
