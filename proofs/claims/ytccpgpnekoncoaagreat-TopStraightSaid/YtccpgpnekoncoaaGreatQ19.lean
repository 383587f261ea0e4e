/- Lemmas, in order: A call of a method of an interface value whose type is no pointer.. -/
import Derived.Test.YtccpgpnekoncoaaGreatQ18
namespace Go.Sy
open Go Go.Proofs Go.RowKit
/-- The function that a method of a type of structs is. -/
def methS (P : Program) (t : TypeId) (name : String) : Option FuncId := match P.info? t, P.underlying t with
  | some ti, some (.struct _) => match ti.methods.find? (·.name == name) with
    | some m => if m.path.isEmpty = true then match m.func with
      | some (f, false) => some f
      | _ => none else none
    | none => none
  | _, _ => none
section
variable {P : Program} {t : TypeId} {name : String} {f : FuncId}
theorem run_methodS (h : methS P t name = some f) (fuel : Nat) (v : Value) (w : World) : (method (fuel + 1) t v name).run P w = .ok (f, v) w := by
  unfold methS at h
  split at h
  · rename_i ti e hi hu
    split at h
    · rename_i m hm
      split at h
      · rename_i hp
        split at h
        · rename_i f' hf'
          cases h
          have hp' : m.path.toList = [] := by simpa using hp
          simp [method, run_typeInfo w hi, hm, hp', follow, hf', receiverAt, run_underlying hu, Place.get]
        · cases h
      · cases h
    · cases h
  · cases h
variable {L : List (Nat × Value)} {dd : Option Tmp} {ty : TypeId} {pos : String} {af : Array Edge} {gd : Option (Nat × Bool)}
theorem run_invokeS {ρ : Operand → Value} {rc : Operand} {args : List Operand} {ats : Array TypeId} {v : Value} {vs : List Value} {w : World} (hm : methS P t name = some f) (hρ : Agree L ρ) (hE : Enters P f)
    (hr : ev L rc = some (.iface t v)) (hargs : evs L args = some vs) : (execOp ρ ⟨dd, .call ⟨.invoke rc name, args.toArray, ats⟩, ty, pos, af, gd⟩).run P w = .ok (.enter f (#[v] ++ vs.toArray)) w := by
  obtain ⟨n, hn⟩ : ∃ n, P.types.size + Made.depth = n + 1 := ⟨P.types.size + Made.depth - 1, by
    have : 0 < Made.depth := by decide
    omega⟩
  have h1 := run_methodS hm n v w
  have hev := evs_map hρ _ _ hargs
  have hz : (#[Value.iface t v] ++ vs.toArray).extract 1 (1 + vs.length) = vs.toArray := by
    apply Array.ext'
    simp
  simp [execOp, resolve, invoke, hρ _ _ hr, hev, callMethod, hn, h1, hE _ w, hz]
variable {r : Option Nat} {all : Array Oper} {Q : Exit → Act → World → Prop} {rest : List Oper} {a : Act} {w : World} {n : Nat} {ds : List Deferred} {d : Nat}
theorem o_invokeS {rc : Operand} {args : List Operand} {ats : Array TypeId} {v : Value} {vs : List Value} {av : Array Value} {R : Value → World → Prop} (hf : Fr n ds L a) (hm : methS P t name = some f) (hE : Enters P f)
    (hr : ev L rc = some (.iface t v)) (hargs : evs L args = some vs) (hav : #[v] ++ vs.toArray = av) (hc : Calls P f av w (Ret R)) (k : ∀ (v : Value) (a : Act) (w : World), R v w → Fr n ds ((d, v) :: L) a → OpsW P r all Q rest a w)
    (hg : GOn all L ⟨some d, .call ⟨.invoke rc name, args.toArray, ats⟩, ty, pos, af, gd⟩ := by first | exact .inl rfl | exact gon' rfl rfl rfl) (hn : Nat.blt d n = true := by rfl) :
    OpsW P r all Q (⟨some d, .call ⟨.invoke rc name, args.toArray, ats⟩, ty, pos, af, gd⟩ :: rest) a w := by
  subst hav
  refine opsW_enter (hg.wanted hf) rfl (run_invokeS hm hf.agree hE hr hargs) ((callsIn_wide (n := 0)).2 hc) fun v w'' hR => ?_
  exact k v _ w'' hR (hf.put (blt_lt hn) v)
end
end Go.Sy

