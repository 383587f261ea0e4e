/- The engine: loops that leave marks; memo maps; unsigned numbers; rows that grow. -/
import Derived.Test.YtkolcbjghphjeaaDoorE4
import Derived.Test.YtkolcbjghphjeaaDoorPC
namespace Go.Sy
open Go Go.Proofs Go.RowKit

theorem Hp.perm {w0 w : World} {M : List Nat} {H H' : List (Nat × Obj)} (h : Hp w0 M H w) (p : H.Perm H') : Hp w0 M H' w :=
  ⟨h.ext, fun x hx => h.get x (p.mem_iff.2 hx), (p.map Prod.fst).nodup_iff.1 h.nodup, fun x hx => h.mine x (p.mem_iff.2 hx)⟩
theorem Hp.mark {w0 w : World} {M : List Nat} {X : List (Nat × Obj)} {D : Nat} {Ds : List Nat} (h : Hp w0 M ((D, .deferred (some [])) :: (X ++ dls Ds)) w) : Hp w0 M (X ++ dls (D :: Ds)) w :=
  h.perm List.perm_middle.symm

section
variable {P : Program} {a : Act} {w w0 : World} {n : Nat} {L : List (Nat × Value)} {fn : Func} {R : Value → World → Prop} {M : List Nat} {H : List (Nat × Obj)}
theorem ret_mb {Ds : List Nat} (hf : Fr n (mkd Ds) L a) (hh : Hp w0 M (H ++ dls Ds) w)
    (k : ∀ w', Hp w0 M H w' → ∃ vs, ResAt P L w' fn.results.toList vs ∧ R (tup vs) w') : bodyPostM (FR none) 0 P fn (Ret R) .ret a w :=
  ret_m hf (hh.perm List.perm_append_comm) k
theorem ret_mbn {Ds : List Nat} (hf : Fr n (mkd Ds) L a) (hh : Hp w0 M (H ++ dls Ds) w)
    (k : ∀ w', Hp w0 M H w' → ∃ vs, ResAt P L w' fn.results.toList vs ∧ R (tup vs) w') : bodyPostM (FR none) 0 P fn (Ret R) .normal a w :=
  ret_mb hf hh k

variable {r : Option Nat} {Q : Exit → Act → World → Prop} {ds : List Deferred}
theorem sy_loopM {σ : Type} {c : Code} (ms : List Nat) (dsf : σ → List Deferred) (ov : σ → List (Nat × Value)) (hp : σ → World → Prop) (μ : σ → Nat) (s0 : σ) (hf : Fr n ds L a) (hd : ds = dsf s0) (h0 : AllIn L (ov s0)) (hw : hp s0 w)
    (round : ∀ s a w, hp s w → Fr n (dsf s) (ov s ++ rmL ms L) a → WP P r c (Exit.then (fun a' w' => ∃ s', (hp s' w' ∧ Fr n (dsf s') (ov s' ++ rmL ms L) a') ∧ μ s' < μ s) Q) a w) : WP P r (.loop c) Q a w :=
  sy_loopG (fun s a w => hp s w ∧ Fr n (dsf s) (ov s ++ rmL ms L) a) μ s0 ⟨hw, (hd ▸ hf).head h0 Keep.base⟩ fun s a w h => round s a w h.1 h.2
end

/-! ### Numbers that are not below 0 -/
theorem ofInt_nat {w : Nat} {p : Int} (h0 : 0 ≤ p) (h1 : p < 2 ^ w) : (BitVec.ofInt w p).toNat = p.toNat := by
  obtain ⟨m, rfl⟩ := Int.eq_ofNat_of_zero_le h0
  rw [BitVec.ofInt_natCast, BitVec.toNat_ofNat, Int.toNat_natCast]
  exact Nat.mod_eq_of_lt (by exact_mod_cast h1)

/-- The greatest number up to which a kind's numbers are taken here. -/
def IntKind.top : IntKind → Int
  | .i64 => 9223372036854775807
  | .u64 => 18446744073709551615
  | _ => 0
theorem wrap_top {k : IntKind} {n : Int} (h0 : 0 ≤ n) (h1 : n ≤ IntKind.top k) (hk : k = .i64 ∨ k = .u64) : k.wrap n = n := by
  rcases hk with rfl | rfl
  · exact wrap_i64 (by omega) h1
  · exact wrap_u64 h0 h1
theorem bits_top {k : IntKind} {p : Int} (h0 : 0 ≤ p) (h1 : p ≤ IntKind.top k) (hk : k = .i64 ∨ k = .u64) : (BitVec.ofInt k.bits p).toNat = p.toNat := by
  refine ofInt_nat h0 ?_
  rcases hk with rfl | rfl <;> simp only [IntKind.top] at h1 <;> simp only [IntKind.bits] <;> omega

/-- The members of a set that another has not. -/
def andn (a b : Nat) : Nat := a ^^^ (a &&& b)

section
variable {P : Program} {C : World → Prop} {L : List (Nat × Value)} {dd : Option Tmp} {ty : TypeId} {pos : String} {af : Array Edge} {gd : Option (Nat × Bool)}
theorem toNat_le_top {k : IntKind} {p : Int} (h0 : 0 ≤ p) (h1 : p ≤ IntKind.top k) : (p.toNat : Int) ≤ IntKind.top k := by rw [Int.toNat_of_nonneg h0]; exact h1

theorem yv_and {t t' : TypeId} {x y : Operand} {k : IntKind} {p q : Int} (hk : k = .i64 ∨ k = .u64) (hx : ev L x = some (.int k p)) (hy : ev L y = some (.int k q)) (hp : 0 ≤ p) (hp1 : p ≤ IntKind.top k) (hq : 0 ≤ q) (hq1 : q ≤ IntKind.top k) :
    Yv P C L ⟨dd, .binOp .and t x y t', ty, pos, af, gd⟩ (.int k ((p.toNat &&& q.toNat : Nat) : Int)) := by
  refine yv_bin hx hy ?_
  simp only [binV, Option.some.injEq, Value.int.injEq, true_and]
  rw [BitVec.toNat_and, bits_top hp hp1 hk, bits_top hq hq1 hk]
  have h1 : p.toNat &&& q.toNat ≤ p.toNat := Nat.and_le_left
  exact wrap_top (by omega) (by have := toNat_le_top hp hp1; omega) hk
theorem or_lt_top {k : IntKind} {p q : Int} (hk : k = .i64 ∨ k = .u64) (hp : 0 ≤ p) (hp1 : p ≤ IntKind.top k) (hq : 0 ≤ q) (hq1 : q ≤ IntKind.top k) : ((p.toNat ||| q.toNat : Nat) : Int) ≤ IntKind.top k ∧ ((p.toNat ^^^ q.toNat : Nat) : Int) ≤ IntKind.top k := by
  rcases hk with rfl | rfl
  · simp only [IntKind.top] at *
    have h1 : p.toNat < 2 ^ 63 := by omega
    have h2 : q.toNat < 2 ^ 63 := by omega
    have h3 := Nat.or_lt_two_pow h1 h2
    have h4 := Nat.xor_lt_two_pow h1 h2
    omega
  · simp only [IntKind.top] at *
    have h1 : p.toNat < 2 ^ 64 := by omega
    have h2 : q.toNat < 2 ^ 64 := by omega
    have h3 := Nat.or_lt_two_pow h1 h2
    have h4 := Nat.xor_lt_two_pow h1 h2
    omega
theorem yv_or {t t' : TypeId} {x y : Operand} {k : IntKind} {p q : Int} (hk : k = .i64 ∨ k = .u64) (hx : ev L x = some (.int k p)) (hy : ev L y = some (.int k q)) (hp : 0 ≤ p) (hp1 : p ≤ IntKind.top k) (hq : 0 ≤ q) (hq1 : q ≤ IntKind.top k) :
    Yv P C L ⟨dd, .binOp .or t x y t', ty, pos, af, gd⟩ (.int k ((p.toNat ||| q.toNat : Nat) : Int)) := by
  refine yv_bin hx hy ?_
  simp only [binV, Option.some.injEq, Value.int.injEq, true_and]
  rw [BitVec.toNat_or, bits_top hp hp1 hk, bits_top hq hq1 hk]
  exact wrap_top (by omega) (or_lt_top hk hp hp1 hq hq1).1 hk
theorem yv_andn {t t' : TypeId} {x y : Operand} {k : IntKind} {p q : Int} (hk : k = .i64 ∨ k = .u64) (hx : ev L x = some (.int k p)) (hy : ev L y = some (.int k q)) (hp : 0 ≤ p) (hp1 : p ≤ IntKind.top k) (hq : 0 ≤ q) (hq1 : q ≤ IntKind.top k) :
    Yv P C L ⟨dd, .binOp .andNot t x y t', ty, pos, af, gd⟩ (.int k (andn p.toNat q.toNat)) := by
  refine yv_bin hx hy ?_
  simp only [binV, Option.some.injEq, Value.int.injEq, true_and]
  have e : (BitVec.ofInt k.bits p &&& ~~~BitVec.ofInt k.bits q).toNat = andn p.toNat q.toNat := by
    have e1 : BitVec.ofInt k.bits p &&& ~~~BitVec.ofInt k.bits q = BitVec.ofInt k.bits p ^^^ (BitVec.ofInt k.bits p &&& BitVec.ofInt k.bits q) := by
      apply BitVec.eq_of_getLsbD_eq
      intro i hi
      rw [BitVec.getLsbD_and, BitVec.getLsbD_not, BitVec.getLsbD_xor, BitVec.getLsbD_and]
      simp only [hi, decide_true, Bool.true_and]
      cases (BitVec.ofInt k.bits p).getLsbD i <;> cases (BitVec.ofInt k.bits q).getLsbD i <;> rfl
    rw [e1, BitVec.toNat_xor, BitVec.toNat_and, bits_top hp hp1 hk, bits_top hq hq1 hk]; rfl
  rw [e]
  have h1 : andn p.toNat q.toNat ≤ p.toNat := by
    unfold andn
    have : p.toNat ^^^ (p.toNat &&& q.toNat) = p.toNat &&& (p.toNat ^^^ (p.toNat &&& q.toNat)) := by
      apply Nat.eq_of_testBit_eq
      intro i
      rw [Nat.testBit_xor, Nat.testBit_and, Nat.testBit_and, Nat.testBit_xor, Nat.testBit_and]
      cases p.toNat.testBit i <;> simp
    rw [this]; exact Nat.and_le_left
  exact wrap_top (by omega) (by have := toNat_le_top hp hp1; omega) hk

theorem yv_addx {t t' : TypeId} {x y : Operand} {k : IntKind} {p q : Int} (hk : k = .i64 ∨ k = .u64) (hx : ev L x = some (.int k p)) (hy : ev L y = some (.int k q)) (h1 : 0 ≤ p + q) (h2 : p + q ≤ IntKind.top k) :
    Yv P C L ⟨dd, .binOp .add t x y t', ty, pos, af, gd⟩ (.int k (p + q)) := yv_bin hx hy (by simp [binV, wrap_top h1 h2 hk])
theorem yv_subx {t t' : TypeId} {x y : Operand} {k : IntKind} {p q : Int} (hk : k = .i64 ∨ k = .u64) (hx : ev L x = some (.int k p)) (hy : ev L y = some (.int k q)) (h1 : 0 ≤ p - q) (h2 : p - q ≤ IntKind.top k) :
    Yv P C L ⟨dd, .binOp .sub t x y t', ty, pos, af, gd⟩ (.int k (p - q)) := yv_bin hx hy (by simp [binV, wrap_top h1 h2 hk])

/-- 1 shifted left. -/
theorem yv_shl1 {t t' : TypeId} {x y : Operand} {k k' : IntKind} {q : Int} (hk : k = .i64 ∨ k = .u64) (hx : ev L x = some (.int k 1)) (hy : ev L y = some (.int k' q)) (h0 : 0 ≤ q) (hq : q ≤ 62) :
    Yv P C L ⟨dd, .binOp .shl t x y t', ty, pos, af, gd⟩ (.int k ((2 ^ q.toNat : Nat) : Int)) := fun ρ hρ w hw => by
  have hb : q ≤ k.bits := by rcases hk with rfl | rfl <;> simp only [IntKind.bits] <;> omega
  have h := yv_shl (P := P) (C := C) (L := L) (dd := dd) (ty := ty) (pos := pos) (af := af) (gd := gd) (t := t) (t' := t') hx hy h0 hb ρ hρ w hw
  have e : ((2 : Int) ^ q.toNat) = ((2 ^ q.toNat : Nat) : Int) := by push_cast; rfl
  have hle : (2 : Nat) ^ q.toNat ≤ 2 ^ 62 := Nat.pow_le_pow_right (by omega) (by omega)
  rw [Int.one_mul, e, wrap_top (k := k) (Int.natCast_nonneg _) (by rcases hk with rfl | rfl <;> simp only [IntKind.top] <;> omega) hk] at h
  exact h
/-- Shifted right. -/
theorem yv_shrx {t t' : TypeId} {x y : Operand} {k k' : IntKind} {p q : Int} (hk : k = .i64 ∨ k = .u64) (hx : ev L x = some (.int k p)) (hy : ev L y = some (.int k' q)) (hp : 0 ≤ p) (h0 : 0 ≤ q) (hq : q ≤ 64) :
    Yv P C L ⟨dd, .binOp .shr t x y t', ty, pos, af, gd⟩ (.int k ((p.toNat >>> q.toNat : Nat) : Int)) := fun ρ hρ w hw => by
  have hb : q ≤ k.bits := by rcases hk with rfl | rfl <;> simp only [IntKind.bits] <;> omega
  have h := yv_shr (P := P) (C := C) (L := L) (dd := dd) (ty := ty) (pos := pos) (af := af) (gd := gd) (t := t) (t' := t') hx hy h0 hb ρ hρ w hw
  have e : p.fdiv (2 ^ q.toNat) = ((p.toNat >>> q.toNat : Nat) : Int) := by
    obtain ⟨m, rfl⟩ := Int.eq_ofNat_of_zero_le hp
    rw [Int.toNat_natCast, Nat.shiftRight_eq_div_pow, Int.fdiv_eq_ediv_of_nonneg _ (Int.pow_nonneg (by omega))]
    push_cast; rfl
  rw [e] at h
  exact h
theorem yv_convx {s t : TypeId} {x : Operand} {k k' : IntKind} {p : Int} (hk : k' = .i64 ∨ k' = .u64) (hs : (P.underlying s).isSome = true) (ht : P.underlying t = some (.int k')) (hx : ev L x = some (.int k p)) (h0 : 0 ≤ p) (h1 : p ≤ IntKind.top k') :
    Yv P C L ⟨dd, .convert s t x, ty, pos, af, gd⟩ (.int k' p) := by
  have h := yv_conv (C := C) (L := L) (dd := dd) (ty := ty) (pos := pos) (af := af) (gd := gd) hs ht hx
  rw [wrap_top h0 h1 hk] at h
  exact h
end

/-! ### Memo maps: numbers to numbers, each entry what it should be -/
def Memo (k k' : IntKind) (F : Int → Int) (es : Array MapEntry) : Prop := ∀ e ∈ es.toList, ∃ n, e.key = .int k n ∧ e.val = .int k' (F n)
def memoHas (es : Array MapEntry) (p : Int) : Bool := es.toList.any fun e => match e.key with | .int _ n => n == p | _ => false

theorem findNow_memo {k k' : IntKind} {F : Int → Int} {p : Int} : ∀ (l : List MapEntry) (i : Nat), (∀ e ∈ l, ∃ n, e.key = .int k n ∧ e.val = .int k' (F n)) →
    (∃ j, l.any (fun e => match e.key with | .int _ n => n == p | _ => false) = true ∧ Instr.findNow (.int k) (.int k p) l i = some (some (j, .int k' (F p))) ∧ ∃ e, l[j - i]? = some e ∧ i ≤ j ∧ e.key = .int k p) ∨
    (l.any (fun e => match e.key with | .int _ n => n == p | _ => false) = false ∧ Instr.findNow (.int k) (.int k p) l i = some none)
  | [], i, _ => .inr ⟨rfl, rfl⟩
  | e :: l, i, h => by
    obtain ⟨n, hn, hv⟩ := h e (by simp)
    by_cases hnp : n = p
    · subst hnp
      refine .inl ⟨i, by simp [hn], by simp [Instr.findNow, Instr.sameNow, hn, hv], e, by simp, Nat.le_refl _, hn⟩
    · have ih := findNow_memo (k := k) (k' := k') (F := F) (p := p) l (i + 1) (fun e he => h e (by simp [he]))
      have e1 : (p == n) = false := by simp; omega
      have e2 : (n == p) = false := by simp; omega
      rcases ih with ⟨j, h1, h2, e', h3, h4, h5⟩ | ⟨h1, h2⟩
      · refine .inl ⟨j, by simp [hn, e2, h1], by simp [Instr.findNow, Instr.sameNow, hn, e1, h2], e', ?_, by omega, h5⟩
        rw [show j - i = (j - (i + 1)) + 1 by omega]; simpa using h3
      · exact .inr ⟨by simp [hn, e2, h1], by simp [Instr.findNow, Instr.sameNow, hn, e1, h2]⟩

def mapTypes (P : Program) (t : TypeId) : Option (TypeId × TypeId × IntKind) :=
  match P.underlying t with
  | some (.map ke el) => match P.underlying ke with
    | some (.int k) => some (ke, el, k)
    | _ => none
  | _ => none
theorem mapTypes_eq {P : Program} {t ke el : TypeId} {k : IntKind} (h : mapTypes P t = some (ke, el, k)) : P.underlying t = some (.map ke el) ∧ P.underlying ke = some (.int k) := by
  unfold mapTypes at h
  split at h
  · rename_i a b hm
    split at h
    · rename_i k' hk
      simp only [Option.some.injEq, Prod.mk.injEq] at h
      obtain ⟨rfl, rfl, rfl⟩ := h
      exact ⟨hm, hk⟩
    · simp at h
  · simp at h

theorem run_checkKey_int {P : Program} {w : World} {b : Bool} {n : Nat} {t : TypeId} {k : IntKind} {p : Int} (h : P.underlying t = some (.int k)) : (Instr.checkKey b (n + 1) t (.int k p)).run P w = .ok () w := by
  simp [Instr.checkKey, run_underlying h]

theorem run_checkKey_int' {P : Program} {w : World} {b : Bool} {t : TypeId} {k : IntKind} {p : Int} (h : P.underlying t = some (.int k)) : (Instr.checkKey b 10000 t (.int k p)).run P w = .ok () w := run_checkKey_int (n := 9999) h

section
variable {P : Program} {C : World → Prop} {L : List (Nat × Value)} {dd : Option Tmp} {ty : TypeId} {pos : String} {af : Array Edge} {gd : Option (Nat × Bool)}
theorem yv_lookup {t ke el : TypeId} {k k' : IntKind} {F : Int → Int} {x y : Operand} {bm c : Nat} {es : Array MapEntry} {p z : Int} (ht : mapTypes P t = some (ke, el, k)) (hz : zeroOf P el = some (.int k' z)) (hx : ev L x = some (.map (some bm))) (hy : ev L y = some (.int k p))
    (hb : ∀ w, C w → w.heap[bm]? = some (.map es c)) (hm : Memo k k' F es) :
    Yv P C L ⟨dd, .lookup t x y true, ty, pos, af, gd⟩ (.tuple #[.int k' (if memoHas es p then F p else z), .bool (memoHas es p)]) := fun ρ hρ w hw => by
  obtain ⟨h1, h2⟩ := mapTypes_eq ht
  have hg : (getObj bm).run P w = .ok (.map es c) w := by simp [getObj, Sem.run, hb w hw]
  have hc := run_checkKey_int' (P := P) (w := w) (b := es.isEmpty) (p := p) h2
  rcases findNow_memo (k := k) (k' := k') (F := F) (p := p) es.toList 0 hm with ⟨j, a1, a2, _⟩ | ⟨a1, a2⟩
  · have e : memoHas es p = true := a1
    simp [execOp, hρ _ _ hx, hρ _ _ hy, Instr.lookup, run_underlying h1, hg, hc, Instr.findKey, run_underlying h2, a2, e]
  · have e : memoHas es p = false := a1
    simp [execOp, hρ _ _ hx, hρ _ _ hy, Instr.lookup, run_underlying h1, hg, hc, Instr.findKey, run_underlying h2, a2, e, run_zero hz]
end

section
variable {P : Program} {r : Option Nat} {all : Array Oper} {Q : Exit → Act → World → Prop} {rest : List Oper} {a : Act} {w w0 : World} {M : List Nat} {H : List (Nat × Obj)} {n : Nat} {ds : List Deferred} {L : List (Nat × Value)} {v : Value} {d : Nat}
  {ty : TypeId} {pos : String} {af : Array Edge} {gd : Option (Nat × Bool)}

theorem ops_mapUpdate {t ke el : TypeId} {k k' : IntKind} {F : Int → Int} {x y z : Operand} {bm c i : Nat} {es : Array MapEntry} {p : Int} (hf : Fr n ds L a) (hh : Hp w0 M H w) (ht : mapTypes P t = some (ke, el, k)) (hx : ev L x = some (.map (some bm))) (hy : ev L y = some (.int k p))
    (hv : ev L z = some (.int k' (F p))) (hi : H[i]? = some (bm, .map es c)) (hm : Memo k k' F es) (hg : GOn all L ⟨none, .mapUpdate t x y z, ty, pos, af, gd⟩)
    (K : ∀ (es' : Array MapEntry) (c' : Nat) (w : World), Memo k k' F es' → Hp w0 M (H.set i (bm, .map es' c')) w → OpsW P r all Q rest a w) : OpsW P r all Q (⟨none, .mapUpdate t x y z, ty, pos, af, gd⟩ :: rest) a w := by
  obtain ⟨h1, h2⟩ := mapTypes_eq ht
  have hb := hh.at hi
  have hgo : (getObj bm).run P w = .ok (.map es c) w := by simp [getObj, Sem.run, hb]
  have hc := run_checkKey_int' (P := P) (w := w) (b := false) (p := p) h2
  have hset : ∀ o, (setObj bm o).run P w = .ok () (w.putObj bm o) := fun o => by simp [setObj, Sem.run, hb, World.putObj]
  rcases findNow_memo (k := k) (k' := k') (F := F) (p := p) es.toList 0 hm with ⟨j, _, a2, e, a3, _, a5⟩ | ⟨_, a2⟩
  · have hej : es[j]? = some e := by rw [Nat.sub_zero] at a3; rw [← Array.getElem?_toList]; exact a3
    have hkeep : (Instr.keyThatStays (((es[j]?).map (·.key)).getD (.int k p)) (.int k p)).run P w = .ok (.int k p) w := by
      rw [hej]; simp [a5, Instr.keyThatStays, Instr.sameBits]
    refine opsW_skip (w' := w.putObj bm (.map (es.modify j fun e => { e with key := .int k p, val := .int k' (F p) }) c)) (hg.wanted hf) rfl ?_ (K _ _ _ ?_ (hh.put hi _))
    · simp [execOp, hf.agree _ _ hx, hf.agree _ _ hy, hf.agree _ _ hv, Instr.mapUpdate, run_underlying h1, hgo, hc, Instr.findKey, run_underlying h2, a2, hkeep, hset]
    · intro e' he'
      rw [Array.mem_toList_iff] at he'
      obtain ⟨q, hq, rfl⟩ := Array.getElem_of_mem he'
      rw [Array.getElem_modify]
      split
      · exact ⟨p, rfl, rfl⟩
      · exact hm _ (Array.mem_toList_iff.2 (Array.getElem_mem _))
  · refine opsW_skip (w' := w.putObj bm (.map (es.push { key := .int k p, val := .int k' (F p), born := c }) (c + 1))) (hg.wanted hf) rfl ?_ (K _ _ _ ?_ (hh.put hi _))
    · simp [execOp, hf.agree _ _ hx, hf.agree _ _ hy, hf.agree _ _ hv, Instr.mapUpdate, run_underlying h1, hgo, hc, Instr.findKey, run_underlying h2, a2, hset]
    · intro e' he'
      rw [Array.toList_push, List.mem_append] at he'
      rcases he' with he' | he'
      · exact hm e' he'
      · simp at he'; subst he'; exact ⟨p, rfl, rfl⟩

theorem ops_makeMap {t : TypeId} (hf : Fr n ds L a) (hh : Hp w0 M H w) (hg : GOn all L ⟨some d, .makeMap t none, ty, pos, af, gd⟩) (hn : Nat.blt d n = true)
    (k : ∀ (B : Nat) (a : Act) (w : World), Fr n ds ((d, .map (some B)) :: L) a → Hp w0 M ((B, .map #[] 0) :: H) w → OpsW P r all Q rest a w) : OpsW P r all Q (⟨some d, .makeMap t none, ty, pos, af, gd⟩ :: rest) a w := by
  refine opsW_value (w' := { w with heap := w.heap.push (.map #[] 0) }) (v := .map (some w.heap.size)) (hg.wanted hf) rfl ?_ ?_
  · rfl
  · exact k w.heap.size _ _ (hf.put (blt_lt hn) _) (hh.alloc _)

/-- A slice that is written out. -/
theorem ops_buildSlice {t : TypeId} {m : Nat} {parts : List (Nat × Operand)} {pv : List (Nat × Value)} {cs : Array Value} {e : TypeId} (hf : Fr n ds L a) (hh : Hp w0 M H w) (hp : evp L parts = some pv)
    (hrun : ∀ w, (Instr.buildSlice t m pv.toArray).run P w = .ok (.slice (some ⟨w.heap.size, 0, none⟩) m m) { w with heap := w.heap.push (.cells cs e) }) (hg : GOn all L ⟨some d, .buildSlice t m parts.toArray, ty, pos, af, gd⟩) (hn : Nat.blt d n = true)
    (k : ∀ (B : Nat) (a : Act) (w : World), Fr n ds ((d, .slice (some ⟨B, 0, none⟩) m m) :: L) a → Hp w0 M ((B, .cells cs e) :: H) w → OpsW P r all Q rest a w) : OpsW P r all Q (⟨some d, .buildSlice t m parts.toArray, ty, pos, af, gd⟩ :: rest) a w := by
  have hp' := evp_map hf.agree _ _ hp
  refine opsW_value (w' := { w with heap := w.heap.push (.cells cs e) }) (v := .slice (some ⟨w.heap.size, 0, none⟩) m m) (hg.wanted hf) rfl ?_ ?_
  · simp only [execOp, List.map_toArray, hp', Sem.run_bind, hrun, Result.andThen_ok, Sem.run_pure]
  · exact k w.heap.size _ _ (hf.put (blt_lt hn) _) (hh.alloc _)
end
end Go.Sy
namespace Go.Sy
open Go Go.Proofs
theorem yv_cast {P : Program} {C : World → Prop} {L : List (Nat × Value)} {o : Oper} {v v' : Value} (h : Yv P C L o v) (e : v = v') : Yv P C L o v' := e ▸ h
theorem intv {k : IntKind} {a b : Int} (h : a = b) : Value.int k a = Value.int k b := congrArg _ h
end Go.Sy
