/- Lemmas, in order: Blocks picked by their places ahead of others that stay.. -/
import Derived.Test.YtccpgpnekoncoaaQ14
namespace Go.Sy
open Go Go.Proofs
theorem Hp.pickX {w0 w : World} {M : List Nat} {F X : List (Nat × Obj)} (h : Hp w0 M (F ++ X) w) (is : List Nat) (hd : is.Nodup := by decide) : Hp w0 M ((is.filterMap fun i => F[i]?) ++ X) w := by
  have hn := h.nodup
  rw [List.map_append, List.nodup_append] at hn
  have hm : ∀ q ∈ is.filterMap (fun i => F[i]?), q ∈ F := fun q hq => by obtain ⟨i, _, e⟩ := pick_mem hq; exact List.mem_of_getElem? e
  have hs : ∀ q ∈ (is.filterMap fun i => F[i]?) ++ X, q ∈ F ++ X := fun q hq => by
    rcases List.mem_append.1 hq with hq | hq
    · exact List.mem_append_left _ (hm q hq)
    · exact List.mem_append_right _ hq
  refine ⟨h.ext, fun q hq => h.get q (hs q hq), ?_, fun q hq => h.mine q (hs q hq)⟩
  rw [List.map_append, List.nodup_append]
  refine ⟨pick_nodup hn.1 hd, hn.2.1, fun a ha b hb => ?_⟩
  obtain ⟨q, hq, rfl⟩ := List.mem_map.1 ha
  exact hn.2.2 _ (List.mem_map.2 ⟨q, hm q hq, rfl⟩) b hb
end Go.Sy
