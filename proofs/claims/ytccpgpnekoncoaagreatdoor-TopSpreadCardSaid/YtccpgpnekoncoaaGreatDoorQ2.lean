/- Lemmas, in order: Pairs of pictures in plain numbers: shifts, powers, distances. Distances; what becomes of a pair when one distance more is known. Cards in plain numbers: what hurts, trimmings, eyes, room, depths. TopKnown in plain numbers: with one distance more known nothing gets worse on a card.. -/
import Derived.Test.YtccpgpnekoncoaaGreatDoorQ1
namespace Go.PaiM
open Go Go.Sy
structure ThD where
  (lx ly rx ry : Int × Int)
  far : Int
structure PrD where
  (fo ba : Int × Int)
  (tilt near far : Int)
  th : List ThD
def inP (n lo hi : Int) : Bool := decide (lo ≤ n) && decide (n ≤ hi)
def spP (s : Int × Int) (lo hi : Int) : Bool := decide (lo ≤ s.1) && decide (s.1 ≤ s.2) && decide (s.2 ≤ hi)
def plP (x y : Int × Int) : Bool := spP x (-4000) 4000 && spP y (-4000) 4000
def thB (p : PrD) (t : ThD) : Bool := plP t.lx t.ly && plP t.rx t.ry && (decide (t.far = 0) || inP t.far p.near p.far)
def prB (p : PrD) : Bool := spP p.fo 1 50000 && spP p.ba 1 10000 && inP p.tilt 0 1000 && inP p.near 2000 1073741824 && inP p.far p.near 1073741824 && decide (p.th.length ≤ 12) && p.th.all (thB p)
structure ThOk (p : PrD) (t : ThD) : Prop where
  lx : -4000 ≤ t.lx.1 ∧ t.lx.1 ≤ t.lx.2 ∧ t.lx.2 ≤ 4000
  ly : -4000 ≤ t.ly.1 ∧ t.ly.1 ≤ t.ly.2 ∧ t.ly.2 ≤ 4000
  rx : -4000 ≤ t.rx.1 ∧ t.rx.1 ≤ t.rx.2 ∧ t.rx.2 ≤ 4000
  ry : -4000 ≤ t.ry.1 ∧ t.ry.1 ≤ t.ry.2 ∧ t.ry.2 ≤ 4000
  f : t.far = 0 ∨ (p.near ≤ t.far ∧ t.far ≤ p.far)
structure PrOk (p : PrD) : Prop where
  fo : 1 ≤ p.fo.1 ∧ p.fo.1 ≤ p.fo.2 ∧ p.fo.2 ≤ 50000
  ba : 1 ≤ p.ba.1 ∧ p.ba.1 ≤ p.ba.2 ∧ p.ba.2 ≤ 10000
  ti : 0 ≤ p.tilt ∧ p.tilt ≤ 1000
  ne : 2000 ≤ p.near ∧ p.near ≤ 1073741824
  fa : p.near ≤ p.far ∧ p.far ≤ 1073741824
  nt : p.th.length ≤ 12
  th : ∀ t ∈ p.th, ThOk p t
theorem spP_iff {s : Int × Int} {lo hi : Int} : spP s lo hi = true ↔ lo ≤ s.1 ∧ s.1 ≤ s.2 ∧ s.2 ≤ hi := by
  unfold spP
  simp only [Bool.and_eq_true, decide_eq_true_eq, and_assoc]
theorem inP_iff {n lo hi : Int} : inP n lo hi = true ↔ lo ≤ n ∧ n ≤ hi := by
  unfold inP
  simp only [Bool.and_eq_true, decide_eq_true_eq]
theorem thB_iff {p : PrD} {t : ThD} : thB p t = true ↔ ThOk p t := by
  unfold thB plP
  simp only [Bool.and_eq_true, Bool.or_eq_true, decide_eq_true_eq, spP_iff, inP_iff]
  exact ⟨fun ⟨⟨⟨h1, h2⟩, h3, h4⟩, h5⟩ => ⟨h1, h2, h3, h4, h5⟩, fun h => ⟨⟨⟨h.lx, h.ly⟩, h.rx, h.ry⟩, h.f⟩⟩
theorem prB_iff {p : PrD} : prB p = true ↔ PrOk p := by
  unfold prB
  simp only [Bool.and_eq_true, decide_eq_true_eq, spP_iff, inP_iff, List.all_eq_true, thB_iff]
  exact ⟨fun ⟨⟨⟨⟨⟨⟨h1, h2⟩, h3⟩, h4⟩, h5⟩, h6⟩, h7⟩ => ⟨h1, h2, h3, h4, h5, h6, h7⟩, fun h => ⟨⟨⟨⟨⟨⟨h.fo, h.ba⟩, h.ti⟩, h.ne⟩, h.fa⟩, h.nt⟩, h.th⟩⟩
def shf (t : ThD) : Int × Int := (t.lx.1 - t.rx.2, t.lx.2 - t.rx.1)
def nar (a b : Int × Int) : Int × Int := (max a.1 b.1, min a.2 b.2)
def neB (a : Int × Int) : Bool := decide (a.1 ≤ a.2)
def shn (t : ThD) : Int × Int := nar (shf t) (0, 2000)
def upv (t : ThD) : Int × Int := (t.ly.1 - t.ry.2, t.ly.2 - t.ry.1)
def lvl (p : PrD) (t : ThD) : Bool := neB (nar (upv t) (-p.tilt, p.tilt))
def pws (p : PrD) (t : ThD) (s : Int × Int) : Int × Int := if t.far = 0 then (s.1 * p.near, (s.2 + 1) * p.far - 1) else (s.1 * t.far, (s.2 + 1) * t.far - 1)
/-- Whether a thing can stand still in a pair, by its places alone. -/
def okT (p : PrD) (t : ThD) : Bool := neB (shn t) && lvl p t
def stV (p : PrD) (t : ThD) (w : Int × Int) : Int × Int := if okT p t then nar w (pws p t (shn t)) else w
def stB (p : PrD) (t : ThD) (w : Int × Int) : Bool := okT p t && neB (nar w (pws p t (shn t)))
def pow0 (p : PrD) : Int × Int := (p.fo.1 * p.ba.1, p.fo.2 * p.ba.2)
def lkF (p : PrD) : Int × Int → List ThD → Option (Int × Int)
  | w, [] => some w
  | w, t :: l => if t.far = 0 then lkF p w l else if stB p t w then lkF p (stV p t w) l else none
def powO (p : PrD) : Option (Int × Int) := lkF p (pow0 p) p.th
/-- The powers with which a thing stands still. -/
def Ok (p : PrD) (t : ThD) (x : Int) : Prop := okT p t = true ∧ (pws p t (shn t)).1 ≤ x ∧ x ≤ (pws p t (shn t)).2
def InW (w : Int × Int) (x : Int) : Prop := w.1 ≤ x ∧ x ≤ w.2
theorem in_nar {a b : Int × Int} {x : Int} : InW (nar a b) x ↔ InW a x ∧ InW b x := by
  unfold InW nar
  dsimp only
  omega
theorem neB_iff {a : Int × Int} : neB a = true ↔ ∃ x, InW a x := by
  unfold neB InW
  rw [decide_eq_true_eq]
  exact ⟨fun h => ⟨a.1, Int.le_refl _, h⟩, fun ⟨x, h1, h2⟩ => Int.le_trans h1 h2⟩
theorem stB_iff {p : PrD} {t : ThD} {w : Int × Int} : stB p t w = true ↔ ∃ x, InW w x ∧ Ok p t x := by
  unfold stB
  rw [Bool.and_eq_true, neB_iff]
  exact ⟨fun ⟨h1, x, h2⟩ => ⟨x, (in_nar.1 h2).1, h1, (in_nar.1 h2).2⟩, fun ⟨x, h1, h2, h3⟩ => ⟨h2, x, in_nar.2 ⟨h1, h3⟩⟩⟩
theorem stV_in {p : PrD} {t : ThD} {w : Int × Int} (h : stB p t w = true) {x : Int} : InW (stV p t w) x ↔ InW w x ∧ Ok p t x := by
  have ho : okT p t = true := by unfold stB at h; rw [Bool.and_eq_true] at h; exact h.1
  unfold stV
  rw [if_pos ho, in_nar]
  exact ⟨fun ⟨h1, h2⟩ => ⟨h1, ho, h2⟩, fun ⟨h1, _, h2⟩ => ⟨h1, h2⟩⟩
theorem stV_ne {p : PrD} {t : ThD} {w : Int × Int} (h : stB p t w = true) : neB (stV p t w) = true := by
  obtain ⟨x, h1, h2⟩ := stB_iff.1 h
  exact neB_iff.2 ⟨x, (stV_in h).2 ⟨h1, h2⟩⟩
/-- What the powers are: those with which all landmarks stand still. -/
theorem lk_some (p : PrD) : ∀ (l : List ThD) (w w' : Int × Int), neB w = true → lkF p w l = some w' → neB w' = true ∧ ∀ x, InW w' x ↔ InW w x ∧ ∀ t ∈ l, t.far ≠ 0 → Ok p t x
  | [], w, w', hn, h => by
    cases h
    exact ⟨hn, fun x => ⟨fun h => ⟨h, fun t ht => by cases ht⟩, fun h => h.1⟩⟩
  | t :: l, w, w', hn, h => by
    rw [lkF] at h
    split at h
    · rename_i h0
      obtain ⟨h1, h2⟩ := lk_some p l w w' hn h
      refine ⟨h1, fun x => (h2 x).trans ⟨fun ⟨a, b⟩ => ⟨a, fun s hs hf => ?_⟩, fun ⟨a, b⟩ => ⟨a, fun s hs => b s (.tail _ hs)⟩⟩⟩
      rcases List.mem_cons.1 hs with rfl | hs
      · exact absurd h0 hf
      · exact b s hs hf
    · rename_i h0
      split at h
      · rename_i hs
        obtain ⟨h1, h2⟩ := lk_some p l _ w' (stV_ne hs) h
        refine ⟨h1, fun x => (h2 x).trans ⟨fun ⟨a, b⟩ => ⟨((stV_in hs).1 a).1, fun s hs2 hf => ?_⟩, fun ⟨a, b⟩ => ⟨(stV_in hs).2 ⟨a, b t (.head _) h0⟩, fun s hs2 => b s (.tail _ hs2)⟩⟩⟩
        rcases List.mem_cons.1 hs2 with rfl | hs2
        · exact ((stV_in hs).1 a).2
        · exact b s hs2 hf
      · cases h
theorem pow0_ne {p : PrD} (hp : PrOk p) : neB (pow0 p) = true := by
  obtain ⟨a1, a2, a3⟩ := hp.fo
  obtain ⟨b1, b2, b3⟩ := hp.ba
  unfold neB pow0
  exact decide_eq_true (Int.mul_le_mul a2 b2 (by omega) (by omega))
theorem pow0_bd {p : PrD} (hp : PrOk p) : 1 ≤ (pow0 p).1 ∧ (pow0 p).1 ≤ 500000000 ∧ 1 ≤ (pow0 p).2 ∧ (pow0 p).2 ≤ 500000000 := by
  obtain ⟨a1, a2, a3⟩ := hp.fo
  obtain ⟨b1, b2, b3⟩ := hp.ba
  unfold pow0
  dsimp only
  have m1 : p.fo.1 * p.ba.1 ≤ 50000 * 10000 := Int.mul_le_mul (by omega) (by omega) (by omega) (by omega)
  have m2 : p.fo.2 * p.ba.2 ≤ 50000 * 10000 := Int.mul_le_mul (by omega) (by omega) (by omega) (by omega)
  have m3 : 1 * 1 ≤ p.fo.1 * p.ba.1 := Int.mul_le_mul (by omega) (by omega) (by omega) (by omega)
  have m4 : 1 * 1 ≤ p.fo.2 * p.ba.2 := Int.mul_le_mul (by omega) (by omega) (by omega) (by omega)
  omega
/-- The powers are within those of the lens. -/
theorem lk_bd (p : PrD) : ∀ (l : List ThD) (w w' : Int × Int), lkF p w l = some w' → w.1 ≤ w'.1 ∧ w'.2 ≤ w.2
  | [], w, w', h => by cases h; exact ⟨Int.le_refl _, Int.le_refl _⟩
  | t :: l, w, w', h => by
    rw [lkF] at h
    split at h
    · exact lk_bd p l w w' h
    · split at h
      · obtain ⟨h1, h2⟩ := lk_bd p l _ w' h
        unfold stV at h1 h2
        by_cases ho : okT p t = true
        · rw [if_pos ho] at h1 h2
          unfold nar at h1 h2
          dsimp only at h1 h2
          omega
        · rw [if_neg ho] at h1 h2
          exact ⟨h1, h2⟩
      · cases h
end Go.PaiM

namespace Go.PaiM
open Go Go.Sy
/-- How far away a thing can be. -/
def dst (p : PrD) (t : ThD) (w : Int × Int) : Int × Int :=
  nar (p.near, p.far) (w.1 / ((shn t).2 + 1) + 1, if 0 < (shn t).1 then w.2 / (shn t).1 else p.far)
theorem shn_bd {t : ThD} (h : neB (shn t) = true) : 0 ≤ (shn t).1 ∧ (shn t).1 ≤ (shn t).2 ∧ (shn t).2 ≤ 2000 := by
  unfold neB at h
  have h := of_decide_eq_true h
  unfold shn nar at h ⊢
  dsimp only at h ⊢
  omega
theorem okT_ne {p : PrD} {t : ThD} (h : okT p t = true) : neB (shn t) = true := by
  unfold okT at h
  rw [Bool.and_eq_true] at h
  exact h.1
section
variable {p : PrD} {t : ThD} {w : Int × Int}
theorem pow_bd (hp : PrOk p) {w : Int × Int} (h : powO p = some w) : neB w = true ∧ 1 ≤ w.1 ∧ w.1 ≤ w.2 ∧ w.2 ≤ 500000000 := by
  have h1 := (lk_some p p.th _ w (pow0_ne hp) h).1
  have h2 := lk_bd p p.th _ w h
  have h3 := pow0_bd hp
  have h4 := of_decide_eq_true (show decide (w.1 ≤ w.2) = true from h1)
  exact ⟨h1, by omega, h4, by omega⟩
end
end Go.PaiM

namespace Go.PaiM
open Go Go.Sy
structure CaD where
  pr : PrD
  (half step cuts : Int)
  eyes : Int × Int
  (prism squeeze front deep : Int)
def caB (c : CaD) : Bool := inP c.half 1 4000 && inP c.step 1 100 && inP c.cuts 0 40 && (decide (1 ≤ c.eyes.1) && decide (c.eyes.1 ≤ c.eyes.2) && decide (c.eyes.2 ≤ 10000)) && (inP c.prism 0 10000 && inP c.squeeze 0 10000 && inP c.front 0 10000 && inP c.deep 0 10000) && prB c.pr
structure CaOk (c : CaD) : Prop where
  ha : 1 ≤ c.half ∧ c.half ≤ 4000
  st : 1 ≤ c.step ∧ c.step ≤ 100
  cu : 0 ≤ c.cuts ∧ c.cuts ≤ 40
  ey : 1 ≤ c.eyes.1 ∧ c.eyes.1 ≤ c.eyes.2 ∧ c.eyes.2 ≤ 10000
  pm : 0 ≤ c.prism ∧ c.prism ≤ 10000
  sq : 0 ≤ c.squeeze ∧ c.squeeze ≤ 10000
  fr : 0 ≤ c.front ∧ c.front ≤ 10000
  de : 0 ≤ c.deep ∧ c.deep ≤ 10000
  pr : PrOk c.pr
theorem caB_iff {c : CaD} : caB c = true ↔ CaOk c := by
  unfold caB
  simp only [Bool.and_eq_true, decide_eq_true_eq, inP_iff, prB_iff]
  exact ⟨fun ⟨⟨⟨⟨⟨h1, h2⟩, h3⟩, ⟨h4, h5⟩, h6⟩, ⟨⟨h7, h8⟩, h9⟩, h10⟩, h11⟩ => ⟨h1, h2, h3, ⟨h4, h5, h6⟩, h7, h8, h9, h10, h11⟩, fun h => ⟨⟨⟨⟨⟨h.ha, h.st⟩, h.cu⟩, ⟨h.ey.1, h.ey.2.1⟩, h.ey.2.2⟩, ⟨⟨h.pm, h.sq⟩, h.fr⟩, h.de⟩, h.pr⟩⟩
abbrev Edg := Int × Int × Int × Int
def edgL (e : Edg) : List Int := [e.1, e.2.1, e.2.2.1, e.2.2.2]
def winV (c : CaD) (e : Edg) : Int := c.step * (e.1 - e.2.2.1)
def apaV (c : CaD) (e : Edg) : Int := 2 * c.half - c.step * (e.2.1 + e.2.2.1)
/-- Whether a place is cut off. -/
def offB (c : CaD) (l r : Int) (x : Int × Int) : Bool := decide (x.1 < c.step * l - c.half) || decide (c.half - c.step * r < x.2)
def hurN (c : CaD) (e : Edg) (t : ThD) : Nat :=
  if apaV c e - (shf t).2 < c.eyes.2 - c.squeeze then 1
  else if c.eyes.1 + c.prism < apaV c e - (shf t).1 then 2
  else if winV c e + c.front < (shf t).2 then 3
  else if (shf t).1 < winV c e - c.deep then 4
  else if offB c e.1 e.2.1 t.lx || offB c e.2.2.1 e.2.2.2 t.rx then 5 else 0
/-- What is seen, with some powers. -/
def seeB (c : CaD) (w : Int × Int) (i : Nat) : Bool := match c.pr.th[i]? with
  | some t => stB c.pr t w
  | none => false
def seeL (c : CaD) (w : Int × Int) : List Nat := (List.range c.pr.th.length).filter (seeB c w)
def hurI (c : CaD) (e : Edg) (i : Nat) : Nat := match c.pr.th[i]? with
  | some t => hurN c e t
  | none => 0
/-- The first thing that hurts, and why. -/
def hurO (c : CaD) (w : Int × Int) (e : Edg) : Option Nat := (seeL c w).find? fun i => decide (hurI c e i ≠ 0)
def fineB (c : CaD) (w : Int × Int) (e : Edg) : Bool := (seeL c w).all fun i => decide (hurI c e i = 0)
theorem hur_fine {c : CaD} {w : Int × Int} {e : Edg} : hurO c w e = none ↔ fineB c w e = true := by
  unfold hurO fineB
  rw [List.find?_eq_none, List.all_eq_true]
  refine forall_congr' fun i => forall_congr' fun _ => ?_
  simp
/-- The trimmings, those with fewer steps first. -/
def rngI (a b : Int) : List Int := (List.range (b - a + 1).toNat).map fun i => a + (i : Nat)
theorem rng_mem {a b x : Int} : x ∈ rngI a b ↔ a ≤ x ∧ x ≤ b := by
  unfold rngI
  rw [List.mem_map]
  constructor
  · rintro ⟨i, hi, rfl⟩
    have := List.mem_range.1 hi
    omega
  · rintro ⟨h1, h2⟩
    exact ⟨(x - a).toNat, List.mem_range.2 (by omega), by omega⟩
theorem rng_pair (a b : Int) : (rngI a b).Pairwise (· < ·) := by
  unfold rngI
  rw [List.pairwise_map]
  exact List.Pairwise.imp (fun h => by omega) List.pairwise_lt_range
def rowD (k one a : Int) : List Edg := (rngI (max 0 (one - k)) (min one k)).map fun d => (a, one - a, d, one - d)
def rowA (k one : Int) : List Edg := (rngI (max 0 (one - k)) (min one k)).flatMap (rowD k one)
def trmL (k : Int) : List Edg := (List.range (2 * k + 1).toNat).flatMap fun one => rowA k (one : Nat)
def sumE (e : Edg) : Int := e.1 + e.2.1 + e.2.2.1 + e.2.2.2
/-- How many steps are cut off, and, if as many, the edges. -/
def BefE (a b : Edg) : Prop := sumE a < sumE b ∨ (sumE a = sumE b ∧ (a.1 < b.1 ∨ (a.1 = b.1 ∧ a.2.1 = b.2.1 ∧ a.2.2.1 < b.2.2.1)))
def TrmOk (k : Int) (e : Edg) : Prop := (0 ≤ e.1 ∧ e.1 ≤ k) ∧ (0 ≤ e.2.1 ∧ e.2.1 ≤ k) ∧ (0 ≤ e.2.2.1 ∧ e.2.2.1 ≤ k) ∧ (0 ≤ e.2.2.2 ∧ e.2.2.2 ≤ k) ∧ e.1 + e.2.1 = e.2.2.1 + e.2.2.2
theorem rowD_mem {k one a : Int} {e : Edg} : e ∈ rowD k one a ↔ e.1 = a ∧ e.2.1 = one - a ∧ e.2.2.2 = one - e.2.2.1 ∧ max 0 (one - k) ≤ e.2.2.1 ∧ e.2.2.1 ≤ min one k := by
  unfold rowD
  rw [List.mem_map]
  constructor
  · rintro ⟨d, hd, rfl⟩
    exact ⟨rfl, rfl, rfl, rng_mem.1 hd⟩
  · obtain ⟨e1, e2, e3, e4⟩ := e
    rintro ⟨h1, h2, h3, h4⟩
    dsimp only at h1 h2 h3 h4
    subst h1 h2 h3
    exact ⟨e3, rng_mem.2 h4, rfl⟩
theorem trm_mem {k : Int} (hk : 0 ≤ k) {e : Edg} : e ∈ trmL k ↔ TrmOk k e := by
  unfold trmL rowA TrmOk
  simp only [List.mem_flatMap, List.mem_range, rng_mem, rowD_mem]
  constructor
  · rintro ⟨n, hn, a, ha, h1, h2, h3, h4⟩
    omega
  · rintro ⟨h1, h2, h3, h4, h5⟩
    exact ⟨(e.1 + e.2.1).toNat, by omega, e.1, by omega, rfl, by omega, by omega, by omega⟩
theorem trm_pair (k : Int) : (trmL k).Pairwise BefE := by
  unfold trmL
  rw [List.pairwise_flatMap]
  refine ⟨fun n _ => ?_, ?_⟩
  · unfold rowA
    rw [List.pairwise_flatMap]
    refine ⟨fun a _ => ?_, ?_⟩
    · unfold rowD
      rw [List.pairwise_map]
      refine List.Pairwise.imp (fun {d d'} h => ?_) (rng_pair _ _)
      exact .inr ⟨by unfold sumE; dsimp only; omega, .inr ⟨rfl, rfl, h⟩⟩
    · refine List.Pairwise.imp (fun {a a'} h x hx y hy => ?_) (rng_pair _ _)
      obtain ⟨x1, x2, x3, x4⟩ := rowD_mem.1 hx
      obtain ⟨y1, y2, y3, y4⟩ := rowD_mem.1 hy
      exact .inr ⟨by unfold sumE; omega, .inl (by omega)⟩
  · refine List.Pairwise.imp (fun {n m} h x hx y hy => ?_) List.pairwise_lt_range
    unfold rowA at hx hy
    obtain ⟨a, _, hx⟩ := List.mem_flatMap.1 hx
    obtain ⟨b, _, hy⟩ := List.mem_flatMap.1 hy
    obtain ⟨x1, x2, x3, x4⟩ := rowD_mem.1 hx
    obtain ⟨y1, y2, y3, y4⟩ := rowD_mem.1 hy
    exact .inl (by unfold sumE; omega)
def bstO (c : CaD) (w : Int × Int) : Option Edg := (trmL c.cuts).find? (fineB c w)
/-- The shifts that hurt nobody. -/
def rooV (c : CaD) (e : Edg) : Int × Int := nar (nar (0, 2000) (winV c e - c.deep, winV c e + c.front)) (apaV c e - c.eyes.1 - c.prism, apaV c e - c.eyes.2 + c.squeeze)
/-- The least number for which something is so, of some, or the one behind the last. -/
def lstN (f : Nat → Bool) : Nat → Nat
  | 0 => 0
  | n + 1 => if lstN f n < n then lstN f n else if f n then n else n + 1
theorem lst_le (f : Nat → Bool) : ∀ n, lstN f n ≤ n
  | 0 => Nat.le_refl _
  | n + 1 => by
    rw [lstN]
    have := lst_le f n
    split
    · omega
    · split <;> omega
theorem lst_no (f : Nat → Bool) : ∀ n i, i < lstN f n → f i = false
  | 0, i, h => absurd h (Nat.not_lt_zero _)
  | n + 1, i, h => by
    rw [lstN] at h
    have h1 := lst_le f n
    have h2 := lst_no f n
    split at h
    · exact h2 i h
    · rename_i h3
      have h4 : lstN f n = n := by omega
      split at h
      · exact h2 i (by omega)
      · rename_i h5
        rcases (show i < n ∨ i = n by omega) with h6 | rfl
        · exact h2 i (by omega)
        · simpa using h5
theorem lst_yes (f : Nat → Bool) : ∀ n, lstN f n < n → f (lstN f n) = true
  | 0, h => absurd h (Nat.not_lt_zero _)
  | n + 1, h => by
    rw [lstN] at h ⊢
    have h2 := lst_yes f n
    split
    · rename_i h3; exact h2 h3
    · rename_i h3
      rw [if_neg h3] at h
      split
      · rename_i h4; exact h4
      · rename_i h4
        rw [if_neg h4] at h
        omega
theorem lst_uniq {f : Nat → Bool} {n k : Nat} (hk : k ≤ n) (h1 : ∀ i, i < k → f i = false) (h2 : k < n → f k = true) : lstN f n = k := by
  have a1 := lst_le f n
  rcases Nat.lt_trichotomy (lstN f n) k with h | h | h
  · have := lst_yes f n (by omega)
    rw [h1 _ h] at this; cases this
  · exact h
  · have := lst_no f n k h
    rw [h2 (by omega)] at this; cases this
def depN (p : PrD) : Nat := (p.far - p.near + 1).toNat
def dp1 (p : PrD) (w r : Int × Int) (i : Nat) : Bool := decide (w.2 / (p.near + (i : Nat)) ≤ r.2)
def dp2 (p : PrD) (w r : Int × Int) (i : Nat) : Bool := decide (w.1 / (p.near + (i : Nat)) < r.1)
def depV (p : PrD) (w r : Int × Int) : Int × Int := (p.near + (lstN (dp1 p w r) (depN p) : Nat), p.near + (lstN (dp2 p w r) (depN p) : Nat) - 1)
end Go.PaiM

namespace Go.PaiM
open Go Go.Sy
/-- A card after one distance more is known: the same places, some of the powers, some of the things that were seen. -/
structure Kn (c x : CaD) (w w' : Int × Int) (k : Nat) : Prop where
  sc : x.half = c.half ∧ x.step = c.step ∧ x.cuts = c.cuts ∧ x.eyes = c.eyes ∧ x.prism = c.prism ∧ x.squeeze = c.squeeze ∧ x.front = c.front ∧ x.deep = c.deep
  nf : x.pr.near = c.pr.near ∧ x.pr.far = c.pr.far
  ln : x.pr.th.length = c.pr.th.length
  pl : ∀ i : Nat, (x.pr.th[i]?).map shf = (c.pr.th[i]?).map shf ∧ (x.pr.th[i]?).map ThD.lx = (c.pr.th[i]?).map ThD.lx ∧ (x.pr.th[i]?).map ThD.rx = (c.pr.th[i]?).map ThD.rx
  ww : ∀ y, InW w' y → InW w y
  se : ∀ i, seeB x w' i = true → seeB c w i = true
  sk : seeB x w' k = true ∧ seeB c w k = true
/-- How far away a thing is told to be. -/
def dstV (p : PrD) (t : ThD) (w : Int × Int) : Int × Int := if t.far = 0 then dst p t w else (t.far, t.far)
section
variable {c : CaD} {t : ThD} {w : Int × Int} {k : Nat} {z : Int}
end
section
variable {c x : CaD} {w w' : Int × Int} {k : Nat} (h : Kn c x w w' k)
include h
end
end Go.PaiM

