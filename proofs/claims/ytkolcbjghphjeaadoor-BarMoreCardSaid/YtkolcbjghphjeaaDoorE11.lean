/- The engine: a slice of one's own grows by another slice; a point at which several ways meet. -/
import Derived.Test.YtkolcbjghphjeaaDoorE10
namespace Go.Sy
open Go Go.Proofs Go.RowKit
section
variable {P : Program} {r : Option Nat} {all : Array Oper} {Q : Exit → Act → World → Prop} {rest : List Oper} {a : Act} {w w0 : World} {M : List Nat} {H : List (Nat × Obj)} {n : Nat} {ds : List Deferred} {L : List (Nat × Value)} {v : Value} {d : Nat}
  {ty : TypeId} {pos : String} {af : Array Edge} {gd : Option (Nat × Bool)}
theorem ops_appendS {t : TypeId} {e size bytes : Nat} {z : Value} {x y : Operand} {m q : Nat} {xs news : List Value} {X Z : List (Nat × Obj)} {sa : Addr} {cq : Nat} (hf : Fr n ds L a) (hh : Hp w0 M (X ++ Z) w)
    (ht : elemB P t = some (e, size, bytes, z)) (hx : ev L x = some v) (hy : ev L y = some (.slice (some sa) q cq)) (ho : OwnSl e size v m xs X) (hnews : ∀ j u, news[j]? = some u → w.cell? (sa.add j) = some u) (hl : news.length = q * size) (h1 : news.all (·.oneCell') = true)
    (h63 : m + q ≤ maxLen) (hby : (m + q) * bytes ≤ 140737488355328) (hg : GOn all L ⟨some d, .call ⟨.builtin .append, #[x, y], #[t, t]⟩, ty, pos, af, gd⟩) (hn : Nat.blt d n = true)
    (k : ∀ (v' : Value) (X' : List (Nat × Obj)) (a : Act) (w : World), OwnSl e size v' (m + q) (xs ++ news) X' → Fr n ds ((d, v') :: L) a → Hp w0 M (X' ++ Z) w → OpsW P r all Q rest a w) :
    OpsW P r all Q (⟨some d, .call ⟨.builtin .append, #[x, y], #[t, t]⟩, ty, pos, af, gd⟩ :: rest) a w := by
  obtain ⟨hxl, hown⟩ := ho
  unfold elemB at ht
  split at ht
  · rename_i e0 hu
    split at ht
    · rename_i i hi
      split at ht
      · rename_i z0 hz
        split at ht
        · rename_i hzs
          simp only [Option.some.injEq, Prod.mk.injEq] at ht
          obtain ⟨rfl, rfl, rfl, rfl⟩ := ht
          have h1' : ∀ u ∈ news, u.oneCell' = true := List.all_eq_true.1 h1
          have hrest : Hp w0 M Z w := hh.less (List.sublist_append_right _ _)
          have hlen : (xs ++ news).length = (m + q) * i.size := by rw [List.length_append, hxl, hl, Nat.add_mul]
          have hgo : ∀ (v' : Value) (w' : World), (Builtin.append_ #[t, t] ty #[v, .slice (some sa) q cq]).run P w = .ok v' w' →
              (execOp a.eval ⟨some d, .call ⟨.builtin .append, #[x, y], #[t, t]⟩, ty, pos, af, gd⟩).run P w = .ok (.value v') w' := fun v' w' hr => by
            simp only [execOp, resolve, invoke, builtin, Sem.run_bind, Sem.run_pure, Result.andThen_ok, List.map_toArray, List.map_cons, List.map_nil, hf.agree _ _ hx, hf.agree _ _ hy, hr]
          -- a new block
          have fresh : ∀ (old : Nat), old ≤ m + q → OwnSl e0 i.size (.slice (some ⟨w.heap.size, 0, none⟩) (m + q) (grownCap w (m + q) old e0)) (m + q) (xs ++ news)
              [(w.heap.size, .cells (xs.toArray ++ news.toArray ++ Builtin.zeroCells z0.cells (grownCap w (m + q) old e0 - (m + q))) e0 (0, 0))] := by
            intro old _
            have hge := grownCap_ge w (m + q) old e0
            refine ⟨hlen, .inr ⟨_, _, _, rfl, rfl, hge, grownCap_le_maxLen w (m + q) old e0 h63, ?_, ?_⟩⟩
            · simp only [Array.size_append, List.size_toArray, size_zeroCells, hzs.1, hxl, hl, ← Nat.add_mul]
              congr 1; omega
            · simp only [Array.toList_append, List.append_assoc]
              rw [← List.append_assoc, ← hlen]
              exact List.take_left
          have hal : ∀ o, Hp w0 M ((w.heap.size, o) :: Z) (w.drew.alloc o) := fun o => by
            have := (hrest.drawn (w.drawn + 1)).alloc o
            exact this
          rcases hown with ⟨rfl, rfl, rfl⟩ | ⟨B, cap, cur, rfl, rfl, h3, h4, h5, h6⟩
          · have hx0 : xs = [] := List.eq_nil_of_length_eq_zero (by simpa using hxl)
            subst hx0
            by_cases hq : q = 0
            · subst hq
              have hn0 : news = [] := List.eq_nil_of_length_eq_zero (by simpa using hl)
              subst hn0
              refine opsW_value (hg.wanted hf) rfl (hgo (.slice none 0 0) w ?_) (k _ [] _ _ (OwnSl.nil _ _) (hf.put (blt_lt hn) _) hrest)
              simp [Builtin.append_, run_underlying hu, sizeOf, typeInfo, hi, Builtin.lenOf, Builtin.firstCells, loadCells, loadCellsFrom]
            · have hr := run_append_nil (P := P) w t ty e0 i z0 hu hi hz sa q cq news hl hnews (by omega) (by simp only [maxLen] at h63; omega) (by have hb := hby; simp only [Nat.zero_add] at hb; omega)
              have hfr := fresh 0 (by omega)
              simp only [Nat.zero_add, List.nil_append, Array.empty_append] at hfr
              refine opsW_value (hg.wanted hf) rfl (hgo _ _ hr) (k _ [(w.heap.size, _)] _ _ ?_ (hf.put (blt_lt hn) _) (hal _))
              simpa using hfr
          · have hb := hh.at (i := 0) rfl
            by_cases hroom : m + q ≤ cap
            · have hfit : m * i.size + news.length ≤ cur.size := by rw [hl, h5, ← Nat.add_mul]; exact Nat.mul_le_mul_right _ hroom
              have hr := run_append_room (P := P) w t ty e0 i hu hi B m cap cur hb sa q cq news hl hnews h1' hroom hfit
              have ht2 := hh.turn (i := 0) rfl (ext_setRow w B (cur.toList.take (m * i.size) ++ news ++ cur.toList.drop (m * i.size + news.length)).toArray) (setRow_heap w B cur _ e0 _ hb)
              refine opsW_value (hg.wanted hf) rfl (hgo _ _ hr) (k _ [(B, .cells (cur.toList.take (m * i.size) ++ news ++ cur.toList.drop (m * i.size + news.length)).toArray e0 (0, 0))] _ _ ?_ (hf.put (blt_lt hn) _) ht2)
              refine ⟨hlen, .inr ⟨B, cap, _, rfl, rfl, hroom, h4, ?_, ?_⟩⟩
              · simp only [List.size_toArray, List.length_append, List.length_take, List.length_drop, Array.length_toList]
                omega
              · rw [h6, ← hlen]
                exact List.take_left
            · have holds : ∀ j u, xs[j]? = some u → w.cell? ((⟨B, 0, none⟩ : Addr).add j) = some u := fun j u hj => by
                rw [add_spot, Nat.zero_add]
                have : cur[j]? = some u := by
                  rw [← h6, List.getElem?_take] at hj
                  split at hj
                  · rwa [Array.getElem?_toList] at hj
                  · cases hj
                simp [World.cell?, hb, this]
              have hr := run_append_grow (P := P) w t ty e0 i z0 hu hi hz ⟨B, 0, none⟩ m cap xs hxl holds sa q cq news hl hnews (by omega) (by simp only [maxLen] at h63; omega) (growslice_fits (by omega) hby)
              exact opsW_value (hg.wanted hf) rfl (hgo _ _ hr) (k _ [(w.heap.size, _)] _ _ (fresh cap (by omega)) (hf.put (blt_lt hn) _) (hal _))
        · simp at ht
      · simp at ht
    · simp at ht
  · simp at ht
end
section
variable {P : Program} {r : Option Nat} {Q : Exit → Act → World → Prop} {n : Nat} {ds : List Deferred} {L : List (Nat × Value)} {a : Act} {w : World}
/-- A point at which several ways meet: what is written before it is told by a state. -/
theorem sy_cut {σ : Type} {x y : Code} (ms : List Nat) (ov : σ → List (Nat × Value)) (hp : σ → World → Prop) (hf : Fr n ds L a)
    (hx : WP P r x (Exit.then (fun a' w' => ∃ s, hp s w' ∧ Fr n ds (ov s ++ rmL ms L) a') Q) a w)
    (hy : ∀ s a w, hp s w → Fr n ds (ov s ++ rmL ms L) a → WP P r y Q a w) : WP P r (.seq x y) Q a w := by
  refine sy_seq (sy_mono hx fun e a w he => ?_)
  cases e with
  | normal => obtain ⟨s, h1, h2⟩ := he; exact hy s a w h1 h2
  | _ => exact he
end
end Go.Sy
