/- Equality of structs of three integers. -/
import Derived.Test.YtkolcbjghphjeaaDoorE6
import Derived.Laws.StructEq
namespace Go.Sy
open Go
/-- A struct type of three integers, one after the other. -/
def eq3B (P : Program) (t : TypeId) : Bool :=
  match P.underlying t with
  | some (.struct fs) => match fs.toList with
    | [f, g, h] => decide (f.name ≠ "_" ∧ g.name ≠ "_" ∧ h.name ≠ "_" ∧ f.offset = 0 ∧ g.offset = 1 ∧ h.offset = 2) && intB f.type && intB g.type && intB h.type && !P.stoodInHeld t && !P.eqGuardType P.depth t
    | _ => false
  | _ => false
where intB (u : TypeId) : Bool := match P.underlying u with | some (.int _) => true | _ => false
section
variable {P : Program} {C : World → Prop} {L : List (Nat × Value)} {dd : Option Tmp} {ty : TypeId} {pos : String} {af : Array Edge} {gd : Option (Nat × Bool)}
theorem intB_ex {u : TypeId} (h : eq3B.intB P u = true) : ∃ k, P.underlying u = some (.int k) := by
  unfold eq3B.intB at h
  split at h
  · exact ⟨_, by assumption⟩
  · simp at h
theorem run_eqF (d : Nat) (f : Field) (fs : List Field) (xs ys : Array Value) (k : IntKind) (p q : Int) (w : World) (hn : f.name ≠ "_") (hi : eq3B.intB P f.type = true)
    (hx : xs[f.offset]? = some (.int k p)) (hy : ys[f.offset]? = some (.int k q)) :
    (Op.eqFields (d + 1) xs ys (f :: fs)).run P w = if p = q then (Op.eqFields (d + 1) xs ys fs).run P w else .ok false w := by
  obtain ⟨j, hj⟩ := intB_ex hi
  have hs : scalB P f.type = true := by unfold scalB; rw [hj]
  have e : ∀ w, (Op.equalIn (d + 1) f.type (.int k p) (.int k q)).run P w = .ok (p == q) w := fun w => by simp [Op.equalIn, run_underlying hj]
  simp [Op.eqFields, hn, part, run_isAgg_scal hs, hx, hy, e]
theorem yv_eq3 {t t' : TypeId} {x y : Operand} {k1 k2 k3 : IntKind} {p1 p2 p3 q1 q2 q3 : Int} (ht : eq3B P t = true)
    (hx : ev L x = some (.agg #[.int k1 p1, .int k2 p2, .int k3 p3])) (hy : ev L y = some (.agg #[.int k1 q1, .int k2 q2, .int k3 q3])) :
    Yv P C L ⟨dd, .binOp .eql t x y t', ty, pos, af, gd⟩ (.bool (decide (p1 = q1 ∧ p2 = q2 ∧ p3 = q3))) := fun ρ hρ w _ => by
  unfold eq3B at ht
  split at ht
  · rename_i fs hfs
    split at ht
    · rename_i f g h hl
      simp at ht
      obtain ⟨⟨⟨⟨⟨⟨n1, n2, n3, o1, o2, o3⟩, i1⟩, i2⟩, i3⟩, hst⟩, hgd⟩ := ht
      have hfo : P.fieldsOf t = fs := by unfold Program.fieldsOf; rw [hfs]
      simp only [execOp, hρ _ _ hx, hρ _ _ hy]
      have e := run_eqGuard_agg (P := P) w .eql t x y #[.int k1 p1, .int k2 p2, .int k3 p3] #[.int k1 q1, .int k2 q2, .int k3 q3] hgd
      have e2 := run_eql_struct (P := P) w t #[.int k1 p1, .int k2 p2, .int k3 p3] #[.int k1 q1, .int k2 q2, .int k3 q3]
      have e3 := run_equalIn_struct (P := P) w 9999 t #[.int k1 p1, .int k2 p2, .int k3 p3] #[.int k1 q1, .int k2 q2, .int k3 q3] (by rw [hfo]; exact hfs) hst
      rw [hfo, hl] at e3
      rw [show (9999 : Nat) = 9998 + 1 from rfl, run_eqF 9998 f _ _ _ k1 p1 q1 w n1 i1 (by rw [o1]; rfl) (by rw [o1]; rfl), run_eqF 9998 g _ _ _ k2 p2 q2 w n2 i2 (by rw [o2]; rfl) (by rw [o2]; rfl), run_eqF 9998 h _ _ _ k3 p3 q3 w n3 i3 (by rw [o3]; rfl) (by rw [o3]; rfl)] at e3
      rw [e3] at e2
      simp [e, e2, Op.eqFields]
      by_cases h1 : p1 = q1 <;> by_cases h2 : p2 = q2 <;> by_cases h3 : p3 = q3 <;> simp [h1, h2, h3]
    · simp at ht
  · simp at ht
end
end Go.Sy
