/- Lemmas, in order: The most pairs, in a grid; sets by bits; whether a pair is one in some way. What the program's exported functions tell, in plain terms.. -/
import Derived.Test.YtidieepndphodaaGreatQ3
import Derived.Shelf.Spec.TrailingZeros
namespace Go.MatM
open Go Go.Sy
theorem grid11 {m : Nat} {G : Nat → Nat → Int} {cs : Array Value} (h : Grid m 11 G cs) {i k : Nat} (hi : i < m) (hk : k < 11) : cs[0 + ((i : Nat) : Int).toNat * 11 + ((k : Nat) : Int).toNat * 1]? = some (.int .i64 (G i k)) := by
  simpa using h.get i k hi hk
/-- The grid that is filled from its end on. -/
def procM (F : Nat → Nat → Bool) (L R s t : Nat) : Nat → Nat → Int := fun x y => if s ≤ x ∨ s = x + 1 ∧ t ≤ y then ((mos F L R x y : Nat) : Int) else 0
abbrev mosG (F : Nat → Nat → Bool) (L R : Nat) : Nat → Nat → Int := fun x y => ((mos F L R x y : Nat) : Int)
theorem procM_start {F : Nat → Nat → Bool} {L R : Nat} (x y : Nat) : procM F L R L R x y = 0 := by
  unfold procM
  split
  · rename_i h; rw [mos_zero (by omega)]; rfl
  · rfl
theorem procM_row {F : Nat → Nat → Bool} {L R i : Nat} (x y : Nat) : procM F L R (i + 1) 0 x y = procM F L R i R x y := by
  unfold procM
  by_cases h1 : i ≤ x
  · rw [if_pos (by omega), if_pos (.inl h1)]
  · rw [if_neg (by omega)]
    by_cases h2 : i = x + 1 ∧ R ≤ y
    · rw [if_pos (.inr h2), mos_zero (.inr h2.2)]; rfl
    · rw [if_neg (by omega)]
theorem procM_step {F : Nat → Nat → Bool} {L R i k : Nat} {v : Int} (hv : v = (mos F L R i k : Nat)) (x y : Nat) : updG (procM F L R (i + 1) (k + 1)) i k v x y = procM F L R (i + 1) k x y := by
  subst hv
  unfold updG procM
  by_cases h : x = i ∧ y = k
  · rw [if_pos h, if_pos (by omega), h.1, h.2]
  · rw [if_neg h]
    by_cases h2 : i + 1 ≤ x ∨ i + 1 = x + 1 ∧ k + 1 ≤ y
    · rw [if_pos h2, if_pos (by omega)]
    · rw [if_neg h2, if_neg (by omega)]
theorem procM_end {F : Nat → Nat → Bool} {L R : Nat} (x y : Nat) : procM F L R 0 R x y = mosG F L R x y := by
  unfold procM; rw [if_pos (by omega)]
theorem updG_updG {G : Nat → Nat → Int} {i k : Nat} {v v' : Int} : updG (updG G i k v) i k v' = updG G i k v' := by
  funext x y; unfold updG; split <;> rfl
/-- A set, by bits: the numbers below one of which something holds. -/
def setF (p : Nat → Bool) : Nat → Nat
  | 0 => 0
  | n + 1 => if p n then setF p n + 2 ^ n else setF p n
theorem setF_lt (p : Nat → Bool) : ∀ n, setF p n < 2 ^ n
  | 0 => by simp [setF]
  | n + 1 => by
    have := setF_lt p n
    rw [setF, Nat.pow_succ]; split <;> omega
theorem setF_or (p : Nat → Bool) (n : Nat) : setF p n ||| 2 ^ n = setF p n + 2 ^ n := by
  have h := Nat.two_pow_add_eq_or_of_lt (setF_lt p n) 1
  rw [Nat.mul_one] at h
  rw [Nat.or_comm, ← h, Nat.add_comm]
theorem setF_congr {p q : Nat → Bool} : ∀ {n : Nat}, (∀ i, i < n → p i = q i) → setF p n = setF q n
  | 0, _ => rfl
  | n + 1, h => by rw [setF, setF, h n (by omega), setF_congr fun i hi => h i (by omega)]
theorem setF_bit (p : Nat → Bool) : ∀ (n i : Nat), (setF p n).testBit i = (decide (i < n) && p i)
  | 0, i => by simp [setF]
  | n + 1, i => by
    have hlt := setF_lt p n
    rw [setF]
    by_cases hp : p n = true
    · rw [if_pos hp, ← setF_or, Nat.testBit_or, setF_bit p n i, Nat.testBit_two_pow]
      by_cases h : i < n
      · simp [h, show i < n + 1 by omega, show ¬ n = i by omega]
      · by_cases h2 : n = i
        · subst h2; simp [hp]
        · simp [h, h2, show ¬ i < n + 1 by omega]
    · rw [if_neg hp, setF_bit p n i]
      by_cases h : i < n
      · simp [h, show i < n + 1 by omega]
      · by_cases h2 : i = n
        · subst h2; simp [hp]
        · simp [h, show ¬ i < n + 1 by omega]
/-- Are two marks a pair in some way of so many pairs? -/
def canB (F : Nat → Nat → Bool) (L R n i k : Nat) : Bool := F i k && decide (n ≤ mos (fun a b => F a b && okP i k a b) L R 0 0)
/-- Is a left mark, or a right one, hidden in some way? -/
def hidB (F : Nat → Nat → Bool) (L R n : Nat) (l r : Int) : Bool := decide (n ≤ mos (fun a b => F a b && !(decide ((a : Int) = l) || decide ((b : Int) = r))) L R 0 0)
theorem canB_iff {F : Nat → Nat → Bool} {L R n i k : Nat} (hi : i < L) (hk : k < R) : canB F L R n i k = true ↔ canP F L R n i k := by
  rw [can_iff hi hk]; simp [canB]
theorem hidB_l {F : Nat → Nat → Bool} {L R n i : Nat} : hidB F L R n i (-1) = true ↔ hidL F L R n i := by
  rw [hidL_iff]
  unfold hidB
  rw [decide_eq_true_eq, mos_congr (G := fun a b => F a b && !decide (a = i))]
  intro a b _ _
  have : decide ((b : Int) = -1) = false := decide_eq_false (by omega)
  rw [this, Bool.or_false]
  congr 2
  rw [decide_eq_decide]; omega
theorem hidB_r {F : Nat → Nat → Bool} {L R n k : Nat} : hidB F L R n (-1) k = true ↔ hidR F L R n k := by
  rw [hidR_iff]
  unfold hidB
  rw [decide_eq_true_eq, mos_congr (G := fun a b => F a b && !decide (b = k))]
  intro a b _ _
  have : decide ((a : Int) = -1) = false := decide_eq_false (by omega)
  rw [this, Bool.false_or]
  congr 2
  rw [decide_eq_decide]; omega
end Go.MatM
namespace Go.MatM
open Go Go.Sy Go.Proofs
/-- Is there a way? -/
def isD (d : RowsD) : Bool := decide (need d ≤ mos (fitD d) d.l.length d.r.length 0 0)
/-- The error of rows that are opened. -/
def opE (d : RowsD) (ok : Bool) : Int := if okRows d = false then 1 else if ok = false then 2 else if isD d = false then 4 else 0
theorem opE_zero {d : RowsD} {ok : Bool} : opE d ok = 0 ↔ okRows d = true ∧ ok = true ∧ isD d = true := by
  unfold opE
  cases okRows d <;> cases ok <;> cases isD d <;> simp
def inB (n : Int) (m : Nat) : Bool := decide (0 ≤ n) && decide (n ≤ (m : Int) - 1)
def fitsE (d : RowsD) (l r : Int) : Int := if okRows d = false then 1 else if (inB l d.l.length && inB r d.r.length) = false then 2 else 0
def fitsV (d : RowsD) (l r : Int) : Bool := decide (fitsE d l r = 0) && fitD d l.toNat r.toNat
def countV (d : RowsD) : Int := if okRows d then ((cnt (fitD d) d.l.length d.r.length 0 0 (need d) : Nat) : Int) else 0
def countE (d : RowsD) : Int := if okRows d then 0 else 1
/-- Which right marks a left one is a pair with in some way. -/
def canS (d : RowsD) (i : Nat) : Nat := setF (fun y => canB (fitD d) d.l.length d.r.length (need d) i y) d.r.length
def canL (d : RowsD) : List Int := (List.range d.l.length).map fun i => ((canS d i : Nat) : Int)
theorem canS_lt (d : RowsD) (i : Nat) : canS d i < 2 ^ d.r.length := setF_lt _ _
/-- Is a left mark, or a right one, hidden in some way? -/
def hidD (d : RowsD) (l r : Int) : Bool := hidB (fitD d) d.l.length d.r.length (need d) l r
def sureN (d : RowsD) (i : Nat) : Int := if pc (canS d i) = 1 ∧ hidD d i (-1) = false then ((Lib.ctz 64 (canS d i) : Nat) : Int) else -1
def sureL (d : RowsD) : List Int := (List.range d.l.length).map (sureN d)
def hideA (d : RowsD) : Nat := setF (fun i => hidD d i (-1)) d.l.length
def hideB (d : RowsD) : Nat := setF (fun k => hidD d (-1) k) d.r.length
abbrev ivs (l : List Int) : List Value := l.map (Value.int .i64)
theorem ivs_take {n i : Nat} {f : Nat → Int} (h : i < n) : ivs (((List.range n).map f).take (i + 1)) = ivs (((List.range n).map f).take i) ++ [.int .i64 (f i)] := by
  rw [List.take_add_one]
  simp [h]
/-- The shift of two marks. -/
def shiftD (d : RowsD) (i k : Nat) : Int × Int := match d.l[i]?, d.r[k]? with
  | some a, some b => (max (a.al - b.ah) d.lo, min (a.ah - b.al) d.hi)
  | _, _ => (0, 0)
theorem shiftD_eq {d : RowsD} {i k : Nat} {a b : Mk} (h1 : d.l[i]? = some a) (h2 : d.r[k]? = some b) : shiftD d i k = (max (a.al - b.ah) d.lo, min (a.ah - b.al) d.hi) := by simp [shiftD, h1, h2]
/-- The least and the greatest ends of some spans. -/
def endsF (p : Nat → Bool) (f : Nat → Int × Int) : Nat → Option (Int × Int)
  | 0 => none
  | n + 1 => if p n then match endsF p f n with
      | none => some (f n)
      | some e => some (min e.1 (f n).1, max e.2 (f n).2)
    else endsF p f n
def endsC : Option (Int × Int) → Array Value
  | none => #[.int .i64 0, .int .i64 0, .bool false]
  | some e => #[.int .i64 e.1, .int .i64 e.2, .bool true]
def endsA (o : Option (Int × Int)) (x : Int × Int) : Option (Int × Int) := match o with
  | none => some x
  | some e => some (min e.1 x.1, max e.2 x.2)
theorem endsF_step {p : Nat → Bool} {f : Nat → Int × Int} {n : Nat} : endsF p f (n + 1) = if p n then endsA (endsF p f n) (f n) else endsF p f n := by
  rw [endsF]; unfold endsA; cases endsF p f n <;> rfl
def shiftO (d : RowsD) (i : Nat) : Option (Int × Int) := endsF (fun k => (canS d i).testBit k) (shiftD d i) d.r.length
def leftOk (d : RowsD) (l : Int) : Bool := inB l d.l.length
def shiftE (d : RowsD) (l : Int) : Int := if opE d (leftOk d l) = 0 then (if (shiftO d l.toNat).isSome then 0 else 4) else opE d (leftOk d l)
def shiftV (d : RowsD) (l : Int) : Int × Int := if opE d (leftOk d l) = 0 then (shiftO d l.toNat).getD (0, 0) else (0, 0)
/-- Asking: how many ways are left, at worst. -/
def hidN (d : RowsD) (i : Nat) : Int := ((cnt (fun a b => fitD d a b && !decide (a = i)) d.l.length d.r.length 0 0 (need d) : Nat) : Int)
def eitN (d : RowsD) (i k : Nat) : Int := ((cnt (fun a b => fitD d a b && !(decide (a = i) && !decide (b = k))) d.l.length d.r.length 0 0 (need d) : Nat) : Int)
def worstN (d : RowsD) (i : Nat) : Nat → Int
  | 0 => hidN d i
  | k + 1 => max (worstN d i k) (eitN d i k - hidN d i)
def askN (d : RowsD) : Nat → Int × Int
  | 0 => (0, ((cnt (fitD d) d.l.length d.r.length 0 0 (need d) : Nat) : Int) + 1)
  | i + 1 => if worstN d i d.r.length < (askN d i).2 then ((i : Int), worstN d i d.r.length) else askN d i
def askE (d : RowsD) : Int := if opE d true = 0 then (if cnt (fitD d) d.l.length d.r.length 0 0 (need d) = 1 then 4 else 0) else opE d true
def askV (d : RowsD) : Int × Int := if askE d = 0 then askN d d.l.length else (0, 0)
/-- The way with the fewest hidden marks. -/
def mosD (d : RowsD) : Nat := mos (fitD d) d.l.length d.r.length 0 0
def fewL (d : RowsD) : List Pr := if opE d true = 0 then grd (fitD d) d.l.length d.r.length (mosD d) 0 0 else []
def fewH (d : RowsD) : Int := if opE d true = 0 then ((d.l.length + d.r.length : Nat) : Int) - 2 * (mosD d : Nat) else 0
end Go.MatM
