/- Lemmas, in order: What the search for the least reads; its states as keys.. -/
import Derived.Test.YtccpgpnekoncoaaGreatQ12
namespace Go.RoyM
open Go Go.Sy
/-- Numbers without a sign lie in memory. -/
def UAt (w : World) (sa : Option Addr) (l : List Nat) : Prop :=
  ∀ i x, l[i]? = some x → ∃ blk off c T fr, sa = some ⟨blk, off, none⟩ ∧ w.heap[blk]? = some (.cells c T fr) ∧ c[off + ((i : Nat) : Int).toNat * 1]? = some (.int .u64 ((x : Nat) : Int))
theorem UAt.ext {w w' : World} {sa : Option Addr} {l : List Nat} (h : UAt w sa l) (e : Ext [] w w') : UAt w' sa l := fun i s hi =>
  let ⟨blk, off, c, T, fr, h1, h2, h3⟩ := h i s hi
  ⟨blk, off, c, T, fr, h1, e.get h2, h3⟩
/-- Blocks that may change are maps. -/
def MapsOnly (M : List Nat) (w : World) : Prop := ∀ b ∈ M, ∃ es c, w.heap[b]? = some (.map es c)
theorem MapsOnly.get {M : List Nat} {w w' : World} {b : Nat} {c : Array Value} {T : TypeId} {fr : Nat × Nat} (h : MapsOnly M w) (e : Ext M w w') (hb : w.heap[b]? = some (.cells c T fr)) : w'.heap[b]? = some (.cells c T fr) :=
  e.getM hb fun hm => by obtain ⟨es, n, h2⟩ := h b hm; rw [hb] at h2; cases h2
section
variable {M : List Nat} {w w' : World}
theorem TAt.extM {α : Type} {n : Nat} {enc : α → List Value} {sa : Option Addr} {l : List α} (h : TAt n enc w sa l) (hm : MapsOnly M w) (e : Ext M w w') : TAt n enc w' sa l := fun i s hi =>
  let ⟨blk, off, c, T, fr, h1, h2, h3⟩ := h i s hi
  ⟨blk, off, c, T, fr, h1, hm.get e h2, h3⟩
theorem IAt.extM {sa : Option Addr} {l : List Int} (h : IAt w sa l) (hm : MapsOnly M w) (e : Ext M w w') : IAt w' sa l := fun i s hi =>
  let ⟨blk, off, c, T, fr, h1, h2, h3⟩ := h i s hi
  ⟨blk, off, c, T, fr, h1, hm.get e h2, h3⟩
theorem UAt.extM {sa : Option Addr} {l : List Nat} (h : UAt w sa l) (hm : MapsOnly M w) (e : Ext M w w') : UAt w' sa l := fun i s hi =>
  let ⟨blk, off, c, T, fr, h1, h2, h3⟩ := h i s hi
  ⟨blk, off, c, T, fr, h1, hm.get e h2, h3⟩
theorem LAt.extM {sa : Option Addr} {l : List (List Int)} (h : LAt w sa l) (hm : MapsOnly M w) (e : Ext M w w') : LAt w' sa l := fun i s hi =>
  let ⟨blk, off, c, T, fr, sb, cb, h1, h2, h3, h4⟩ := h i s hi
  ⟨blk, off, c, T, fr, sb, cb, h1, hm.get e h2, h3, h4.extM hm e⟩
theorem RoyAt.extM {d : RoyD} {p : Pl} (h : RoyAt w d p) (hm : MapsOnly M w) (e : Ext M w w') : RoyAt w' d p :=
  ⟨h.tm.extM hm e, h.pr.extM hm e, h.sh.extM hm e, h.rp.extM hm e, h.pd.extM hm e, h.n1, h.n2, h.n3, h.n4, h.n5, h.n6, h.cap⟩
end
/-- What the search for the least reads. -/
structure LeC (u : World) (d : RoyD) (p : Pl) (kd : Nat) (ws : List Nat) (sa : Option Addr) (cap Bc Bw Br Bk Bm Bf bm nf : Nat) : Prop where
  c : u.heap[Bc]? = some (.cells (royC d p) 89 (0, 0))
  w : u.heap[Bw]? = some (.cells #[.slice sa ws.length cap] 0 (0, 0))
  r : u.heap[Br]? = some (.cells #[ptr Bc 0] 84 (0, 0))
  k : u.heap[Bk]? = some (.cells #[.int .i64 (kd : Nat)] 3 (0, 0))
  m : u.heap[Bm]? = some (.cells #[.map (some bm)] 0 (0, 0))
  f : u.heap[Bf]? = some (.cells #[.func (.func nf) #[] #[ptr Bw 0, ptr Br 0, ptr Bk 0, ptr Bm 0, ptr Bf 0]] 0 (0, 0))
  wa : UAt u sa ws
  ra : RoyAt u d p
theorem LeC.extM {u w : World} {d : RoyD} {p : Pl} {kd : Nat} {ws : List Nat} {sa : Option Addr} {cap Bc Bw Br Bk Bm Bf bm nf : Nat} {M : List Nat} (h : LeC u d p kd ws sa cap Bc Bw Br Bk Bm Bf bm nf) (hm : MapsOnly M u) (e : Ext M u w) : LeC w d p kd ws sa cap Bc Bw Br Bk Bm Bf bm nf :=
  ⟨hm.get e h.c, hm.get e h.w, hm.get e h.r, hm.get e h.k, hm.get e h.m, hm.get e h.f, h.wa.extM hm e, h.ra.extM hm e⟩
end Go.RoyM

