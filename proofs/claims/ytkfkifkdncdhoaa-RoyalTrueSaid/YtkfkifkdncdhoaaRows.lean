/-
  No cell of these rows narrows 'for every input' (looked for: loops, veiled, ifaces, maps, wideKeys, modest, calm, conditions, laid).
  DERIVED. THE GIVEN ROWS OF THIS SEAT. 11 by the template 'for every input the law returns true; each argument reads behind the call as it read before'; 0 by the template 'total and deterministic' (their statements: YtkfkifkdncdhoaaTotals.lean).
  GIVEN WITH THE SEED: the statements are not yours to turn. If you find one false, say at which input.
  Laid BY PROGRAM, IN A SANDBOX (cutbox-rows.mjs): the forced cells as the released guide's own fill.sh prints them over the translation 0bf1830826bfadd9… (all of the seat's roots in one cut). By AI agents, Wed Nov 11 2026. No macro, syntax, notation, axiom, sorry.
-/
import Derived.Test.YtkfkifkdncdhoaaChecked
import GoSem.Claim
import GoSem.ClaimJoined
import GoSem.ClaimMapViews
import Derived.JoinedTies
import Derived.KernelRfl
namespace Go.Proofs.Ytkfkifkdncdhoaa
/- THE CELL 'sum', in the pinned program and in every row, IS THE sha256 OF THE DUMP (.gsa) THAT YtkfkifkdncdhoaaProg.lean LOADS. Nothing in Lean hashes anything: it is a label: what it is worth is what the hold of that sum in a sandbox is worth. -/
noncomputable def Try.pinned : Pinned := { name := "ytkfkifkdncdhoaa", sum := "0bf1830826bfadd9f5ccf3c506face03ff09134edde1e11089500c6a799ad2fb", checked := Try.checked }
namespace Rows
def none {H : Type} : Left H := { results := [], args := [] }

/-- 'pairworkslaw12.RoyalShares': WHATEVER THE INPUT: true; the input reads as it did. -/
def royalSharesSpec : ChangeSpec := { name := "royalShares", fn := fun _ => fun
  | [d1, d2, d3, d4, d5] => { results := [.lit (.bool true)], args := [d1, d2, d3, d4, d5] }
  | _ => none }
def royalSharesRow : OpenClaim := { program := "ytkfkifkdncdhoaa", sum := "0bf1830826bfadd9f5ccf3c506face03ff09134edde1e11089500c6a799ad2fb", func := "pairworks/pairworkslaw12.RoyalShares", spec := "royalShares", unfollowed := true, recurses := true, plainKeys := false, apart := false }
def RoyalSharesSaid : Prop := royalSharesRow.holds Try.pinned (OpenSpec.ofChange royalSharesSpec)

/-- ITS FALSE NEIGHBOUR: 'it returns false'. Refute it at one input. -/
def royalSharesWrong : ChangeSpec := { name := "royalShares", fn := fun _ => fun
  | [d1, d2, d3, d4, d5] => { results := [.lit (.bool false)], args := [d1, d2, d3, d4, d5] }
  | _ => none }
def RoyalSharesWrongFalsely : Prop := royalSharesRow.holds Try.pinned (OpenSpec.ofChange royalSharesWrong)

/-- 'pairworkslaw12.RoyalClaims': WHATEVER THE INPUT: true; the input reads as it did. -/
def royalClaimsSpec : ChangeSpec := { name := "royalClaims", fn := fun _ => fun
  | [d1, d2, d3] => { results := [.lit (.bool true)], args := [d1, d2, d3] }
  | _ => none }
def royalClaimsRow : OpenClaim := { program := "ytkfkifkdncdhoaa", sum := "0bf1830826bfadd9f5ccf3c506face03ff09134edde1e11089500c6a799ad2fb", func := "pairworks/pairworkslaw12.RoyalClaims", spec := "royalClaims", unfollowed := true, recurses := true, plainKeys := false, apart := false }
def RoyalClaimsSaid : Prop := royalClaimsRow.holds Try.pinned (OpenSpec.ofChange royalClaimsSpec)

/-- ITS FALSE NEIGHBOUR: 'it returns false'. Refute it at one input. -/
def royalClaimsWrong : ChangeSpec := { name := "royalClaims", fn := fun _ => fun
  | [d1, d2, d3] => { results := [.lit (.bool false)], args := [d1, d2, d3] }
  | _ => none }
def RoyalClaimsWrongFalsely : Prop := royalClaimsRow.holds Try.pinned (OpenSpec.ofChange royalClaimsWrong)

/-- 'pairworkslaw12.RoyalAlls': WHATEVER THE INPUT: true; the input reads as it did. -/
def royalAllsSpec : ChangeSpec := { name := "royalAlls", fn := fun _ => fun
  | [d1, d2, d3] => { results := [.lit (.bool true)], args := [d1, d2, d3] }
  | _ => none }
def royalAllsRow : OpenClaim := { program := "ytkfkifkdncdhoaa", sum := "0bf1830826bfadd9f5ccf3c506face03ff09134edde1e11089500c6a799ad2fb", func := "pairworks/pairworkslaw12.RoyalAlls", spec := "royalAlls", unfollowed := true, recurses := true, plainKeys := false, apart := false }
def RoyalAllsSaid : Prop := royalAllsRow.holds Try.pinned (OpenSpec.ofChange royalAllsSpec)

/-- ITS FALSE NEIGHBOUR: 'it returns false'. Refute it at one input. -/
def royalAllsWrong : ChangeSpec := { name := "royalAlls", fn := fun _ => fun
  | [d1, d2, d3] => { results := [.lit (.bool false)], args := [d1, d2, d3] }
  | _ => none }
def RoyalAllsWrongFalsely : Prop := royalAllsRow.holds Try.pinned (OpenSpec.ofChange royalAllsWrong)

/-- 'pairworkslaw12.RoyalNames': WHATEVER THE INPUT: true; the input reads as it did. -/
def royalNamesSpec : ChangeSpec := { name := "royalNames", fn := fun _ => fun
  | [] => { results := [.lit (.bool true)], args := [] }
  | _ => none }
def royalNamesRow : OpenClaim := { program := "ytkfkifkdncdhoaa", sum := "0bf1830826bfadd9f5ccf3c506face03ff09134edde1e11089500c6a799ad2fb", func := "pairworks/pairworkslaw12.RoyalNames", spec := "royalNames", unfollowed := true, recurses := true, plainKeys := false, apart := false }
def RoyalNamesSaid : Prop := royalNamesRow.holds Try.pinned (OpenSpec.ofChange royalNamesSpec)

/-- ITS FALSE NEIGHBOUR: 'it returns false'. Refute it at one input. -/
def royalNamesWrong : ChangeSpec := { name := "royalNames", fn := fun _ => fun
  | [] => { results := [.lit (.bool false)], args := [] }
  | _ => none }
def RoyalNamesWrongFalsely : Prop := royalNamesRow.holds Try.pinned (OpenSpec.ofChange royalNamesWrong)

/-- 'pairworkslaw12.RoyalPenny': WHATEVER THE INPUT: true; the input reads as it did. -/
def royalPennySpec : ChangeSpec := { name := "royalPenny", fn := fun _ => fun
  | [d1, d2] => { results := [.lit (.bool true)], args := [d1, d2] }
  | _ => none }
def royalPennyRow : OpenClaim := { program := "ytkfkifkdncdhoaa", sum := "0bf1830826bfadd9f5ccf3c506face03ff09134edde1e11089500c6a799ad2fb", func := "pairworks/pairworkslaw12.RoyalPenny", spec := "royalPenny", unfollowed := true, recurses := true, plainKeys := false, apart := false }
def RoyalPennySaid : Prop := royalPennyRow.holds Try.pinned (OpenSpec.ofChange royalPennySpec)

/-- ITS FALSE NEIGHBOUR: 'it returns false'. Refute it at one input. -/
def royalPennyWrong : ChangeSpec := { name := "royalPenny", fn := fun _ => fun
  | [d1, d2] => { results := [.lit (.bool false)], args := [d1, d2] }
  | _ => none }
def RoyalPennyWrongFalsely : Prop := royalPennyRow.holds Try.pinned (OpenSpec.ofChange royalPennyWrong)

/-- 'pairworkslaw12.RoyalCommission': WHATEVER THE INPUT: true; the input reads as it did. -/
def royalCommissionSpec : ChangeSpec := { name := "royalCommission", fn := fun _ => fun
  | [d1, d2, d3] => { results := [.lit (.bool true)], args := [d1, d2, d3] }
  | _ => none }
def royalCommissionRow : OpenClaim := { program := "ytkfkifkdncdhoaa", sum := "0bf1830826bfadd9f5ccf3c506face03ff09134edde1e11089500c6a799ad2fb", func := "pairworks/pairworkslaw12.RoyalCommission", spec := "royalCommission", unfollowed := true, recurses := true, plainKeys := false, apart := false }
def RoyalCommissionSaid : Prop := royalCommissionRow.holds Try.pinned (OpenSpec.ofChange royalCommissionSpec)

/-- ITS FALSE NEIGHBOUR: 'it returns false'. Refute it at one input. -/
def royalCommissionWrong : ChangeSpec := { name := "royalCommission", fn := fun _ => fun
  | [d1, d2, d3] => { results := [.lit (.bool false)], args := [d1, d2, d3] }
  | _ => none }
def RoyalCommissionWrongFalsely : Prop := royalCommissionRow.holds Try.pinned (OpenSpec.ofChange royalCommissionWrong)

/-- 'pairworkslaw12.RoyalTrue': WHATEVER THE INPUT: true; the input reads as it did. -/
def royalTrueSpec : ChangeSpec := { name := "royalTrue", fn := fun _ => fun
  | [d1, d2] => { results := [.lit (.bool true)], args := [d1, d2] }
  | _ => none }
def royalTrueRow : OpenClaim := { program := "ytkfkifkdncdhoaa", sum := "0bf1830826bfadd9f5ccf3c506face03ff09134edde1e11089500c6a799ad2fb", func := "pairworks/pairworkslaw12.RoyalTrue", spec := "royalTrue", unfollowed := true, recurses := true, plainKeys := false, apart := false }
def RoyalTrueSaid : Prop := royalTrueRow.holds Try.pinned (OpenSpec.ofChange royalTrueSpec)

/-- ITS FALSE NEIGHBOUR: 'it returns false'. Refute it at one input. -/
def royalTrueWrong : ChangeSpec := { name := "royalTrue", fn := fun _ => fun
  | [d1, d2] => { results := [.lit (.bool false)], args := [d1, d2] }
  | _ => none }
def RoyalTrueWrongFalsely : Prop := royalTrueRow.holds Try.pinned (OpenSpec.ofChange royalTrueWrong)

/-- 'pairworkslaw12.RoyalLeast': WHATEVER THE INPUT: true; the input reads as it did. -/
def royalLeastSpec : ChangeSpec := { name := "royalLeast", fn := fun _ => fun
  | [d1, d2, d3] => { results := [.lit (.bool true)], args := [d1, d2, d3] }
  | _ => none }
def royalLeastRow : OpenClaim := { program := "ytkfkifkdncdhoaa", sum := "0bf1830826bfadd9f5ccf3c506face03ff09134edde1e11089500c6a799ad2fb", func := "pairworks/pairworkslaw12.RoyalLeast", spec := "royalLeast", unfollowed := true, recurses := true, plainKeys := false, apart := false }
def RoyalLeastSaid : Prop := royalLeastRow.holds Try.pinned (OpenSpec.ofChange royalLeastSpec)

/-- ITS FALSE NEIGHBOUR: 'it returns false'. Refute it at one input. -/
def royalLeastWrong : ChangeSpec := { name := "royalLeast", fn := fun _ => fun
  | [d1, d2, d3] => { results := [.lit (.bool false)], args := [d1, d2, d3] }
  | _ => none }
def RoyalLeastWrongFalsely : Prop := royalLeastRow.holds Try.pinned (OpenSpec.ofChange royalLeastWrong)

/-- 'pairworkslaw12.RoyalOnce': WHATEVER THE INPUT: true; the input reads as it did. -/
def royalOnceSpec : ChangeSpec := { name := "royalOnce", fn := fun _ => fun
  | [d] => { results := [.lit (.bool true)], args := [d] }
  | _ => none }
def royalOnceRow : OpenClaim := { program := "ytkfkifkdncdhoaa", sum := "0bf1830826bfadd9f5ccf3c506face03ff09134edde1e11089500c6a799ad2fb", func := "pairworks/pairworkslaw12.RoyalOnce", spec := "royalOnce", unfollowed := true, recurses := true, plainKeys := false, apart := false }
def RoyalOnceSaid : Prop := royalOnceRow.holds Try.pinned (OpenSpec.ofChange royalOnceSpec)

/-- ITS FALSE NEIGHBOUR: 'it returns false'. Refute it at one input. -/
def royalOnceWrong : ChangeSpec := { name := "royalOnce", fn := fun _ => fun
  | [d] => { results := [.lit (.bool false)], args := [d] }
  | _ => none }
def RoyalOnceWrongFalsely : Prop := royalOnceRow.holds Try.pinned (OpenSpec.ofChange royalOnceWrong)

/-- 'pairworkslaw12.RoyalMore': WHATEVER THE INPUT: true; the input reads as it did. -/
def royalMoreSpec : ChangeSpec := { name := "royalMore", fn := fun _ => fun
  | [d1, d2, d3] => { results := [.lit (.bool true)], args := [d1, d2, d3] }
  | _ => none }
def royalMoreRow : OpenClaim := { program := "ytkfkifkdncdhoaa", sum := "0bf1830826bfadd9f5ccf3c506face03ff09134edde1e11089500c6a799ad2fb", func := "pairworks/pairworkslaw12.RoyalMore", spec := "royalMore", unfollowed := true, recurses := true, plainKeys := false, apart := false }
def RoyalMoreSaid : Prop := royalMoreRow.holds Try.pinned (OpenSpec.ofChange royalMoreSpec)

/-- ITS FALSE NEIGHBOUR: 'it returns false'. Refute it at one input. -/
def royalMoreWrong : ChangeSpec := { name := "royalMore", fn := fun _ => fun
  | [d1, d2, d3] => { results := [.lit (.bool false)], args := [d1, d2, d3] }
  | _ => none }
def RoyalMoreWrongFalsely : Prop := royalMoreRow.holds Try.pinned (OpenSpec.ofChange royalMoreWrong)

/-- 'pairworkslaw12.RoyalTurned': WHATEVER THE INPUT: true; the input reads as it did. -/
def royalTurnedSpec : ChangeSpec := { name := "royalTurned", fn := fun _ => fun
  | [d1, d2] => { results := [.lit (.bool true)], args := [d1, d2] }
  | _ => none }
def royalTurnedRow : OpenClaim := { program := "ytkfkifkdncdhoaa", sum := "0bf1830826bfadd9f5ccf3c506face03ff09134edde1e11089500c6a799ad2fb", func := "pairworks/pairworkslaw12.RoyalTurned", spec := "royalTurned", unfollowed := true, recurses := true, plainKeys := false, apart := false }
def RoyalTurnedSaid : Prop := royalTurnedRow.holds Try.pinned (OpenSpec.ofChange royalTurnedSpec)

/-- ITS FALSE NEIGHBOUR: 'it returns false'. Refute it at one input. -/
def royalTurnedWrong : ChangeSpec := { name := "royalTurned", fn := fun _ => fun
  | [d1, d2] => { results := [.lit (.bool false)], args := [d1, d2] }
  | _ => none }
def RoyalTurnedWrongFalsely : Prop := royalTurnedRow.holds Try.pinned (OpenSpec.ofChange royalTurnedWrong)

/- THE SECOND FORM. 'bulk': how many values and letters a reading holds, each counted each time it is reached (what is shared counts as often as it is met; a slice's spare places count too). A statement '..UptoSaid' is the law's where the arguments, and the package variables that the reading takes, are together of bulk at most 1048576: NARROWER than '..Said'. Prove '..Said' where nothing that the law and all that it calls make is longer than what came in: it says more and counts as full. Else prove '..UptoSaid'. A law counts once. -/
mutual
def uptoBulk {H : Type} : DataW H → Nat
  | .lit (.string bytes) => bytes.length + 1
  | .lit _ => 1
  | .nil => 1
  | .ptr d => uptoBulk d + 1
  | .slice elems spare => uptoBulkAll elems + uptoBulkAll spare + 1
  | .agg parts => uptoBulkAll parts + 1
  | .iface _ d => uptoBulk d + 1
  | .map entries => uptoBulkEntries entries + 1
  | .held _ => 1
def uptoBulkAll {H : Type} : List (DataW H) → Nat
  | [] => 0
  | d :: r => uptoBulk d + uptoBulkAll r
def uptoBulkEntries {H : Type} : List (Lit × DataW H) → Nat
  | [] => 0
  | x :: r => uptoBulkEntry x + uptoBulkEntries r
def uptoBulkEntry {H : Type} : Lit × DataW H → Nat
  | (.string bytes, d) => bytes.length + uptoBulk d + 1
  | (_, d) => uptoBulk d + 1
 end
def uptoSmall : (H : Type) → List (DataW H) → Bool := fun _ ds => decide (uptoBulkAll ds ≤ 1048576)
def OpenSpec.upto (s : _root_.Go.ChangeSpec) : _root_.Go.OpenSpec := { _root_.Go.OpenSpec.ofChange s with cond := some uptoSmall }

/-- 'pairworkslaw12.RoyalShares', WHERE WHAT IT READS IS OF BULK AT MOST 1048576: true; the input reads as it did. -/
def royalSharesUptoRow : OpenClaim := { program := "ytkfkifkdncdhoaa", sum := "0bf1830826bfadd9f5ccf3c506face03ff09134edde1e11089500c6a799ad2fb", func := "pairworks/pairworkslaw12.RoyalShares", spec := "royalShares", unfollowed := true, recurses := true, plainKeys := false, apart := false, narrowed := true }
def RoyalSharesUptoSaid : Prop := royalSharesUptoRow.holds Try.pinned (OpenSpec.upto royalSharesSpec)

/-- 'pairworkslaw12.RoyalClaims', WHERE WHAT IT READS IS OF BULK AT MOST 1048576: true; the input reads as it did. -/
def royalClaimsUptoRow : OpenClaim := { program := "ytkfkifkdncdhoaa", sum := "0bf1830826bfadd9f5ccf3c506face03ff09134edde1e11089500c6a799ad2fb", func := "pairworks/pairworkslaw12.RoyalClaims", spec := "royalClaims", unfollowed := true, recurses := true, plainKeys := false, apart := false, narrowed := true }
def RoyalClaimsUptoSaid : Prop := royalClaimsUptoRow.holds Try.pinned (OpenSpec.upto royalClaimsSpec)

/-- 'pairworkslaw12.RoyalAlls', WHERE WHAT IT READS IS OF BULK AT MOST 1048576: true; the input reads as it did. -/
def royalAllsUptoRow : OpenClaim := { program := "ytkfkifkdncdhoaa", sum := "0bf1830826bfadd9f5ccf3c506face03ff09134edde1e11089500c6a799ad2fb", func := "pairworks/pairworkslaw12.RoyalAlls", spec := "royalAlls", unfollowed := true, recurses := true, plainKeys := false, apart := false, narrowed := true }
def RoyalAllsUptoSaid : Prop := royalAllsUptoRow.holds Try.pinned (OpenSpec.upto royalAllsSpec)

/-- 'pairworkslaw12.RoyalNames', WHERE WHAT IT READS IS OF BULK AT MOST 1048576: true; the input reads as it did. -/
def royalNamesUptoRow : OpenClaim := { program := "ytkfkifkdncdhoaa", sum := "0bf1830826bfadd9f5ccf3c506face03ff09134edde1e11089500c6a799ad2fb", func := "pairworks/pairworkslaw12.RoyalNames", spec := "royalNames", unfollowed := true, recurses := true, plainKeys := false, apart := false, narrowed := true }
def RoyalNamesUptoSaid : Prop := royalNamesUptoRow.holds Try.pinned (OpenSpec.upto royalNamesSpec)

/-- 'pairworkslaw12.RoyalPenny', WHERE WHAT IT READS IS OF BULK AT MOST 1048576: true; the input reads as it did. -/
def royalPennyUptoRow : OpenClaim := { program := "ytkfkifkdncdhoaa", sum := "0bf1830826bfadd9f5ccf3c506face03ff09134edde1e11089500c6a799ad2fb", func := "pairworks/pairworkslaw12.RoyalPenny", spec := "royalPenny", unfollowed := true, recurses := true, plainKeys := false, apart := false, narrowed := true }
def RoyalPennyUptoSaid : Prop := royalPennyUptoRow.holds Try.pinned (OpenSpec.upto royalPennySpec)

/-- 'pairworkslaw12.RoyalCommission', WHERE WHAT IT READS IS OF BULK AT MOST 1048576: true; the input reads as it did. -/
def royalCommissionUptoRow : OpenClaim := { program := "ytkfkifkdncdhoaa", sum := "0bf1830826bfadd9f5ccf3c506face03ff09134edde1e11089500c6a799ad2fb", func := "pairworks/pairworkslaw12.RoyalCommission", spec := "royalCommission", unfollowed := true, recurses := true, plainKeys := false, apart := false, narrowed := true }
def RoyalCommissionUptoSaid : Prop := royalCommissionUptoRow.holds Try.pinned (OpenSpec.upto royalCommissionSpec)

/-- 'pairworkslaw12.RoyalTrue', WHERE WHAT IT READS IS OF BULK AT MOST 1048576: true; the input reads as it did. -/
def royalTrueUptoRow : OpenClaim := { program := "ytkfkifkdncdhoaa", sum := "0bf1830826bfadd9f5ccf3c506face03ff09134edde1e11089500c6a799ad2fb", func := "pairworks/pairworkslaw12.RoyalTrue", spec := "royalTrue", unfollowed := true, recurses := true, plainKeys := false, apart := false, narrowed := true }
def RoyalTrueUptoSaid : Prop := royalTrueUptoRow.holds Try.pinned (OpenSpec.upto royalTrueSpec)

/-- 'pairworkslaw12.RoyalLeast', WHERE WHAT IT READS IS OF BULK AT MOST 1048576: true; the input reads as it did. -/
def royalLeastUptoRow : OpenClaim := { program := "ytkfkifkdncdhoaa", sum := "0bf1830826bfadd9f5ccf3c506face03ff09134edde1e11089500c6a799ad2fb", func := "pairworks/pairworkslaw12.RoyalLeast", spec := "royalLeast", unfollowed := true, recurses := true, plainKeys := false, apart := false, narrowed := true }
def RoyalLeastUptoSaid : Prop := royalLeastUptoRow.holds Try.pinned (OpenSpec.upto royalLeastSpec)

/-- 'pairworkslaw12.RoyalOnce', WHERE WHAT IT READS IS OF BULK AT MOST 1048576: true; the input reads as it did. -/
def royalOnceUptoRow : OpenClaim := { program := "ytkfkifkdncdhoaa", sum := "0bf1830826bfadd9f5ccf3c506face03ff09134edde1e11089500c6a799ad2fb", func := "pairworks/pairworkslaw12.RoyalOnce", spec := "royalOnce", unfollowed := true, recurses := true, plainKeys := false, apart := false, narrowed := true }
def RoyalOnceUptoSaid : Prop := royalOnceUptoRow.holds Try.pinned (OpenSpec.upto royalOnceSpec)

/-- 'pairworkslaw12.RoyalMore', WHERE WHAT IT READS IS OF BULK AT MOST 1048576: true; the input reads as it did. -/
def royalMoreUptoRow : OpenClaim := { program := "ytkfkifkdncdhoaa", sum := "0bf1830826bfadd9f5ccf3c506face03ff09134edde1e11089500c6a799ad2fb", func := "pairworks/pairworkslaw12.RoyalMore", spec := "royalMore", unfollowed := true, recurses := true, plainKeys := false, apart := false, narrowed := true }
def RoyalMoreUptoSaid : Prop := royalMoreUptoRow.holds Try.pinned (OpenSpec.upto royalMoreSpec)

/-- 'pairworkslaw12.RoyalTurned', WHERE WHAT IT READS IS OF BULK AT MOST 1048576: true; the input reads as it did. -/
def royalTurnedUptoRow : OpenClaim := { program := "ytkfkifkdncdhoaa", sum := "0bf1830826bfadd9f5ccf3c506face03ff09134edde1e11089500c6a799ad2fb", func := "pairworks/pairworkslaw12.RoyalTurned", spec := "royalTurned", unfollowed := true, recurses := true, plainKeys := false, apart := false, narrowed := true }
def RoyalTurnedUptoSaid : Prop := royalTurnedUptoRow.holds Try.pinned (OpenSpec.upto royalTurnedSpec)

end Rows
end Go.Proofs.Ytkfkifkdncdhoaa
