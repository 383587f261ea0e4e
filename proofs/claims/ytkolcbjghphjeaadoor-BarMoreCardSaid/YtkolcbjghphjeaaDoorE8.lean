/- Worlds with a memo map whose entries grow. -/
import Derived.Test.YtkolcbjghphjeaaDoorE7
namespace Go.Sy
open Go Go.Proofs
/-- What is known of the blocks, with a memo map of which only the law of its entries is known. -/
def Mw (k k' : IntKind) (F : Int → Int) (u : World) (M : List Nat) (H : List (Nat × Obj)) (bm : Nat) (w : World) : Prop := ∃ es cm, Memo k k' F es ∧ Hp u M ((bm, .map es cm) :: H) w
section
variable {k k' : IntKind} {F : Int → Int} {u w : World} {M : List Nat} {H : List (Nat × Obj)} {bm : Nat}
theorem Mw.of {es : Array MapEntry} {cm : Nat} (hM : Memo k k' F es) (hh : Hp u M ((bm, .map es cm) :: H) w) : Mw k k' F u M H bm w := ⟨es, cm, hM, hh⟩
theorem Mw.drawn (h : Mw k k' F u M H bm w) (n : Nat) : Mw k k' F u M H bm { w with drawn := n } := let ⟨es, cm, h1, h2⟩ := h; ⟨es, cm, h1, h2.drawn n⟩
theorem Mw.at (h : Mw k k' F u M H bm w) {i b : Nat} {o : Obj} (hi : H[i]? = some (b, o)) : w.heap[b]? = some o := let ⟨_, _, _, h2⟩ := h; h2.at (i := i + 1) hi
theorem Mw.oldM (h : Mw k k' F u M H bm w) {b : Nat} {o : Obj} (hb : u.heap[b]? = some o) (hm : b ∉ M) : w.heap[b]? = some o := let ⟨_, _, _, h2⟩ := h; h2.oldM hb hm
end
section
variable {P : Program} {k k' : IntKind} {F : Int → Int} {u : World} {M : List Nat} {H : List (Nat × Obj)} {bm n : Nat} {ds : List Deferred} {L : List (Nat × Value)} {a : Act}
  {all : Array Oper} {rest : List Oper} {v : Value} {d : Nat} {ty : TypeId} {pos : String} {af : Array Edge} {gd : Option (Nat × Bool)} {Q : Act → Prop}
/-- A call that may write into the memo. -/
theorem q_callM {fop : Operand} {args : List Operand} {ats : Array TypeId} {f : FuncId} {fs cs : Array Value} {vs : List Value} {av : Array Value} (hf : Fr n ds L a) (hE : Enters P f)
    (hfv : ev L fop = some (.func (.func f) fs cs)) (hargs : evs L args = some vs) (hav : fs ++ vs.toArray ++ cs = av) (hg : GOn all L ⟨some d, .call ⟨.value fop, args.toArray, ats⟩, ty, pos, af, gd⟩) (hn : Nat.blt d n = true)
    (hc : ∀ w es cm, Memo k k' F es → Hp u M ((bm, .map es cm) :: H) w → Calls P f av w (Ret fun v' w' => v' = v ∧ ∃ es' c', Memo k k' F es' ∧ Hp w [bm] [(bm, .map es' c')] w'))
    (K : ∀ (a : Act), Fr n ds ((d, v) :: L) a → wpQuiet P all (Mw k k' F u M H bm) Q rest a) :
    wpQuiet P all (Mw k k' F u M H bm) Q (⟨some d, .call ⟨.value fop, args.toArray, ats⟩, ty, pos, af, gd⟩ :: rest) a :=
  q_call hf hE hfv hargs hav hg hn (fun w ⟨es, cm, hM, hh⟩ => Calls.ret_mono (hc w es cm hM hh) fun _ _ ⟨h1, es', c', h2, h3⟩ => ⟨h1, es', c', h2, hh.turn (i := 0) rfl h3.ext (h3.at (i := 0) rfl)⟩) K
/-- A call that writes nothing. -/
theorem q_callP {fop : Operand} {args : List Operand} {ats : Array TypeId} {f : FuncId} {fs cs : Array Value} {vs : List Value} {av : Array Value} (hf : Fr n ds L a) (hE : Enters P f)
    (hfv : ev L fop = some (.func (.func f) fs cs)) (hargs : evs L args = some vs) (hav : fs ++ vs.toArray ++ cs = av) (hg : GOn all L ⟨some d, .call ⟨.value fop, args.toArray, ats⟩, ty, pos, af, gd⟩) (hn : Nat.blt d n = true)
    (hc : ∀ w es cm, Memo k k' F es → Hp u M ((bm, .map es cm) :: H) w → Calls P f av w (Ret fun v' w' => v' = v ∧ Ext [] w w'))
    (K : ∀ (a : Act), Fr n ds ((d, v) :: L) a → wpQuiet P all (Mw k k' F u M H bm) Q rest a) :
    wpQuiet P all (Mw k k' F u M H bm) Q (⟨some d, .call ⟨.value fop, args.toArray, ats⟩, ty, pos, af, gd⟩ :: rest) a :=
  q_call hf hE hfv hargs hav hg hn (fun w ⟨es, cm, hM, hh⟩ => Calls.ret_mono (hc w es cm hM hh) fun _ _ ⟨h1, h2⟩ => ⟨h1, es, cm, hM, hh.more h2⟩) K
end
end Go.Sy
