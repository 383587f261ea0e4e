/- Lemmas, in order: Circles from a station on. All circles. The library's sort and its Compact, laid at this program. What a sort by Bet, and Compact behind it, leave. The sets of wrong, as they are gathered. Sums over a circle. The sort and Compact, at slices of one's own. Wrong.. -/
import Derived.Test.YtccpgpnekoncoaaGreatQ9
import Derived.Test.YtccpgpnekoncoaaGreatProg
import Derived.Shelf.SlSortCmp.Whole1
import Derived.Shelf.SlSortCmp.NoneTotal
import Derived.Shelf.SlicesE.Compact
namespace Go.Proofs.YtccpgpnekoncoaaGreat
open Go Go.Sy Go.ChaM
set_option maxRecDepth 100000 in
set_option maxHeartbeats 4000000 in
theorem p85 {Bv : Nat} {c : ChD} {sa : Option Addr} {cp : Nat} {u0 : World} (hV : VAt u0 Bv c sa cp) (hO : ChOk c) (ly : Nat) (J K : Nat → List Nat → World → Prop) (B1 B2 B3 B4 b : Nat) (hb : b < c.n.toNat)
  (hJl : ∀ k N v, J k N v → ∀ x ∈ N, x < v.heap.size) (jE : ∀ {k N v v'}, J k N v → Ext [] v v' → J k N v') (kE : ∀ {k N v v'}, K k N v → Ext [] v v' → K k N v')
  (hy : ∀ k N v args x, (cirL c)[k]? = some x → WayAt x args N v → J k N v → Yld Tryz.prog ly args v (fun o v' => ∃ N', Grows N N' v ∧ Ext N v v' ∧ ((o = .bool true ∧ J (k + 1) N' v') ∨ (o = .bool false ∧ K k N' v')))) : ∀ (f at_ ps : Nat) (way : List LkD) (u : World) (N : List Nat) (done rest : List (List LkD)) (sw : Option Addr) (nw cw : Nat) (hat : at_ < c.n.toNat) (hps : ps < 256) (hfu : f + psN c.n.toNat ps = c.n.toNat + 1) (hnw : nw = way.length) (hwl : way.length + 1 = psN c.n.toNat ps) (hC : cirL c = done ++ cirN c b f at_ ps way ++ rest) (hJ0 : J done.length N u) (hu : Ext [] u0 u) (hN : ∀ x ∈ N, u0.heap.size ≤ x) (hH : Held N u [(B1, .cells #[ptr Bv 0] 112), (B2, .cells #[.func (.yield ly) #[] #[]] 224), (B3, .cells #[.int .i64 (b : Nat)] 3), (B4, .cells #[.func (.func 149) #[] #[ptr B1 0, ptr B3 0, ptr B2 0, ptr B4 0]] 225)]) (hW : TOff 3 lkC N u sw way),
    Calls Tryz.prog 149 #[.int .i64 (at_ : Nat), .int .i64 (ps : Nat), .slice sw nw cw, ptr B1 0, ptr B3 0, ptr B2 0, ptr B4 0] u (Ret fun v w' => ∃ N', Rn u N N' w' ∧ ((v = .bool true ∧ J (done.length + (cirN c b f at_ ps way).length) N' w') ∨ (v = .bool false ∧ ∃ k, K k N' w'))) := by
  obtain ⟨bm, es0, cm0, m, hb0, hbm0, hM0, hLks, hA⟩ := hV
  have hn1 := hO.n1; have hn2 := hO.n2; have hl10 := hO.l
  intro f
  induction f with
  | zero =>
    intro at_ ps way u N done rest sw nw cw hat hps hfu
    have := psN_le c.n.toNat ps
    omega
  | succ f ih =>
    intro at_ ps way u N done rest sw nw cw hat hps hfu hnw hwl hC hJ0 hu hN hH hW
    subst hnw
    have hpl := psN_le c.n.toNat ps
    obtain ⟨sl, cl, hLv, hLt⟩ := hLks at_ hat
    have hLl := lks_len c at_
    rw [cirN_eq] at hC ⊢
    obtain ⟨L, hL⟩ : ∃ z, z = lks c at_ := ⟨_, rfl⟩
    rw [← hL] at hC hLv hLt hLl ⊢
    have hbv := hu.get hb0; have hbm := hu.get hbm0
    have m1 := (hH).at 0 rfl; have m2 := (hH).at 1 rfl; have m3 := (hH).at 2 rfl; have m4 := (hH).at 3 rfl
    refine calls_of Tryz.func149 rfl rfl (fun a hf => ?_)
    have hh := Hp.init u []
    refine sy_sq ?_
    refine o_v hf hh (yv_assign rfl) ?_; clear hf a; intro a hf
    refine o_end ?_
    refine sy_scope ?_
    refine sy_seq ?_
    refine sy_label ?_
    refine then_n ?_
    refine sy_seq ?_
    refine sy_sq ?_
    refine o_v hf hh (y_ld Tryz.sc_112 rfl) ?_; clear hf a; intro a hf
    refine o_v hf hh (yv_nilCheck rfl) ?_; clear hf a; intro a hf
    refine o_v hf hh (yv_fieldAddr Tryz.fo_121_1 rfl) ?_; clear hf a; intro a hf
    refine o_v hf hh (y_ld Tryz.sc_119 rfl) ?_; clear hf a; intro a hf
    refine o_v hf hh (yv_move rfl) ?_; clear hf a; intro a hf
    refine o_v hf hh (yv_cast (yv_getI Tryz.mt_119 Tryz.ze_171 rfl rfl (fun _ h => h.old hbm) hM0) hLv) ?_; clear hf a; intro a hf
    refine o_v hf hh (yv_len Tryz.se_171 rfl) ?_; clear hf a; intro a hf
    refine o_v hf hh (yv_move rfl) ?_; clear hf a; intro a hf
    refine o_end ?_
    refine sy_block ?_
    refine sy_loopH (σ := Nat) [10, 12, 13, 14, 22, 23, 24, 25, 26, 27, 28, 29, 30, 31, 32, 33, 34, 35, 36, 37, 38, 39, 40, 41, 42, 43, 44, 45, 46, 47, 48, 49, 50, 51, 52, 53, 54, 55, 56, 57, 58, 59, 60, 61, 62, 63, 64, 65, 66, 67, 68] (fun j => [(22, .int .i64 (j : Nat))]) (fun j => fun w' => j ≤ L.length ∧ ∃ N', Rn u N N' w' ∧ J (done.length + (preC c b f ps way L j).length) N' w') (fun j => L.length - j) (0) hf ?_ ?_ ?_
    · repeat' (first | exact True.intro | refine And.intro rfl ?_)
    · exact ⟨Nat.zero_le _, N, (Rn.refl u N).more hh.ext, jE hJ0 hh.ext⟩
    ·rintro j a w ⟨hj, N', hRn, hJ⟩ hf
     obtain ⟨w1, rfl⟩ : ∃ q, q = w := ⟨_, rfl⟩
     obtain ⟨e0, hN'⟩ := hRn.base hu hN
     have hH' := hH.step hRn.ext hRn.gr
     have hW' := hW.step hRn.ext hRn.gr
     clear hh m1 m2 m3 m4 hbv hbm
     have hbv := e0.get hb0
     have m1 := (hH').at 0 rfl; have m2 := (hH').at 1 rfl; have m3 := (hH').at 2 rfl; have m4 := (hH').at 3 rfl
     have hh := Hp.init w1 []
     refine sy_sq ?_
     refine o_v hf hh (yv_bin rfl rfl rfl) ?_; clear hf a; intro a hf
     refine o_end ?_
     refine sy_seq ?_
     refine sy_cond hf rfl (fun hg3 => ?_) (fun hg3 => ?_)
     ·have hG3 := hg3; try simp only [gS] at hG3
      refine sy_skip ?_
      refine then_n ?_
      refine sy_seq ?_
      refine sy_block ?_
      refine sy_seq ?_
      obtain ⟨z, hz⟩ := ex_of (l := L) (i := j) (by omega)
      obtain ⟨blk, off, cc, T, fr, esl, hb20, hc⟩ := hLt j z hz
      have hb2 := e0.get hb20
      have hzk : (lks c at_)[j]? = some z := by rw [← hL]; exact hz
      obtain ⟨hto1, hto2, s, hsi⟩ := lks_to hO (List.mem_of_getElem? hzk)
      have hil := len_of hsi
      have hsp := preC_split (c := c) (b := b) (f := f) (ps := ps) (way := way) hz
      have hsu := preC_succ (c := c) (b := b) (f := f) (ps := ps) (way := way) hz
      have hp2 : 2 ^ z.to ≤ 2 ^ 7 := Nat.pow_le_pow_right (by omega) (by omega)
      refine sy_ops ?_
      refine o_v hf hh (y_ix Tryz.se_171 (congrArg (fun q => some (Value.slice q L.length cl)) esl) rfl) ?_; clear hf a; intro a hf
      refine o_v hf hh (y_lds Tryz.ag_173 rfl) ?_; clear hf a; intro a hf
      refine o_alloc hf hh Tryz.ze_173 ?_; clear hf hh a; intro B12 a w hf hh
      refine o_store hf hh Tryz.sz_173 fun w hh => ?_
      refine o_end ?_
      refine sy_sq ?_
      refine o_v hf hh (yv_makeFunc rfl rfl) ?_; clear hf a; intro a hf
      refine o_v hf hh (yv_assign rfl) ?_; clear hf a; intro a hf
      refine o_end ?_
      refine sy_seq ?_
      refine sy_sq ?_
      refine o_v hf hh (yv_fieldAddr Tryz.fo_173_1 rfl) ?_; clear hf a; intro a hf
      refine o_v hf hh (y_ld Tryz.sc_3 rfl) ?_; clear hf a; intro a hf
      refine o_v hf hh (y_ld Tryz.sc_3 rfl) ?_; clear hf a; intro a hf
      refine o_v hf hh (yv_bin rfl rfl rfl) ?_; clear hf a; intro a hf
      refine o_v hf hh (yv_move rfl) ?_; clear hf a; intro a hf
      refine guard_split hf (t := 31) rfl (fun hg6 => ?_) (fun hg6 => ?_)
      ·have hG6 := hg6; try simp only [gS] at hG6
       refine o_off hf ?_; clear hf a; intro a hf
       refine o_off hf ?_; clear hf a; intro a hf
       refine o_off hf ?_; clear hf a; intro a hf
       refine o_v hf hh (y_pt rfl rfl) ?_; clear hf a; intro a hf
       refine o_end ?_
       refine c_t hf ?_
       refine sy_exit ?_
       refine then_e ?_
       refine blk_e ?_
       refine then_n ?_
       refine sy_ops ?_
       refine o_v hf hh (y_add rfl rfl) ?_; clear hf a; intro a hf
       refine o_v hf hh (yv_move rfl) ?_; clear hf a; intro a hf
       refine ops_end ?_
       refine then_n ?_
       first
         | (have hJ2 := ho1 (by assumption)
            exact ⟨j + 1, ⟨⟨by omega, N2, hRn2.more hh.ext, jE hJ2 hh.ext⟩, (hf.head (by repeat' (first | exact True.intro | refine And.intro rfl ?_)) (Keep.cons rfl (Keep.cons rfl (Keep.cons rfl (Keep.cons rfl (Keep.cons rfl (Keep.cons rfl (Keep.cons rfl (Keep.cons rfl (Keep.cons rfl (Keep.cons rfl (Keep.cons rfl (Keep.cons rfl (Keep.cons rfl (Keep.cons rfl (Keep.cons rfl (Keep.cons rfl (Keep.cons rfl (Keep.app rfl (Keep.rm rfl Keep.base))))))))))))))))))))⟩, by omega⟩)
         | (have hst : stepC c b f ps way z = [] := by
              unfold stepC
              first
              | rw [if_pos (.inl (by omega))]
              | (rw [if_pos (.inr (by rw [any_okL]; assumption))])
            exact ⟨j + 1, ⟨⟨by omega, N', hRn.more hh.ext, by rw [hsu, hst, List.append_nil]; exact jE hJ hh.ext⟩, (hf.head (by repeat' (first | exact True.intro | refine And.intro rfl ?_)) (Keep.cons rfl (Keep.cons rfl (Keep.cons rfl (Keep.cons rfl (Keep.cons rfl (Keep.cons rfl (Keep.cons rfl (Keep.cons rfl (Keep.cons rfl (Keep.cons rfl (Keep.cons rfl (Keep.cons rfl (Keep.cons rfl (Keep.cons rfl (Keep.cons rfl (Keep.cons rfl (Keep.cons rfl (Keep.app rfl (Keep.rm rfl Keep.base))))))))))))))))))))⟩, by omega⟩)
         | (have hst : stepC c b f ps way z = [] := by
              unfold stepC
              rw [if_neg (by rw [hnu]; simp; omega), if_neg hne, if_pos (by assumption)]
            exact ⟨j + 1, ⟨⟨by omega, N', hRn.more hh.ext, by rw [hsu, hst, List.append_nil]; exact jE hJ hh.ext⟩, (hf.head (by repeat' (first | exact True.intro | refine And.intro rfl ?_)) (Keep.cons rfl (Keep.cons rfl (Keep.cons rfl (Keep.cons rfl (Keep.cons rfl (Keep.cons rfl (Keep.cons rfl (Keep.cons rfl (Keep.cons rfl (Keep.cons rfl (Keep.cons rfl (Keep.cons rfl (Keep.cons rfl (Keep.cons rfl (Keep.cons rfl (Keep.cons rfl (Keep.cons rfl (Keep.app rfl (Keep.rm rfl Keep.base))))))))))))))))))))⟩, by omega⟩)
         | omega
      ·have hG6 := hg6; try simp only [gS] at hG6
       refine o_v hf hh (yv_move rfl) ?_; clear hf a; intro a hf
       refine o_v hf hh (yv_move rfl) ?_; clear hf a; intro a hf
       refine o_call hf Tryz.en_151 rfl rfl rfl (p87 (okL z) way sw _ cw 150 #[ptr B12 0] _ (hW'.at.ext hh.ext) rfl (by omega) Tryz.en_150 (fun x _ w2 e => p86 x z B12 w2 (e.get (hh.at (i := 0) rfl)))) ?_; clear hf a; intro v a w hR hf
       obtain ⟨rfl, hx⟩ := hR; replace hh := hh.more hx; clear hx
       refine o_v hf hh (y_pf rfl rfl) ?_; clear hf a; intro a hf
       refine o_end ?_
       refine sy_cond hf rfl (fun hg8 => ?_) (fun hg8 => ?_)
       ·have hG8 := hg8; try simp only [gS] at hG8
        refine sy_exit ?_
        refine then_e ?_
        refine blk_e ?_
        refine then_n ?_
        refine sy_ops ?_
        refine o_v hf hh (y_add rfl rfl) ?_; clear hf a; intro a hf
        refine o_v hf hh (yv_move rfl) ?_; clear hf a; intro a hf
        refine ops_end ?_
        refine then_n ?_
        first
          | (have hJ2 := ho1 (by assumption)
             exact ⟨j + 1, ⟨⟨by omega, N2, hRn2.more hh.ext, jE hJ2 hh.ext⟩, (hf.head (by repeat' (first | exact True.intro | refine And.intro rfl ?_)) (Keep.cons rfl (Keep.cons rfl (Keep.cons rfl (Keep.cons rfl (Keep.cons rfl (Keep.cons rfl (Keep.cons rfl (Keep.cons rfl (Keep.cons rfl (Keep.cons rfl (Keep.cons rfl (Keep.cons rfl (Keep.cons rfl (Keep.cons rfl (Keep.cons rfl (Keep.cons rfl (Keep.cons rfl (Keep.app rfl (Keep.rm rfl Keep.base))))))))))))))))))))⟩, by omega⟩)
          | (have hst : stepC c b f ps way z = [] := by
               unfold stepC
               first
               | rw [if_pos (.inl (by omega))]
               | (rw [if_pos (.inr (by rw [any_okL]; assumption))])
             exact ⟨j + 1, ⟨⟨by omega, N', hRn.more hh.ext, by rw [hsu, hst, List.append_nil]; exact jE hJ hh.ext⟩, (hf.head (by repeat' (first | exact True.intro | refine And.intro rfl ?_)) (Keep.cons rfl (Keep.cons rfl (Keep.cons rfl (Keep.cons rfl (Keep.cons rfl (Keep.cons rfl (Keep.cons rfl (Keep.cons rfl (Keep.cons rfl (Keep.cons rfl (Keep.cons rfl (Keep.cons rfl (Keep.cons rfl (Keep.cons rfl (Keep.cons rfl (Keep.cons rfl (Keep.cons rfl (Keep.app rfl (Keep.rm rfl Keep.base))))))))))))))))))))⟩, by omega⟩)
          | (have hst : stepC c b f ps way z = [] := by
               unfold stepC
               rw [if_neg (by rw [hnu]; simp; omega), if_neg hne, if_pos (by assumption)]
             exact ⟨j + 1, ⟨⟨by omega, N', hRn.more hh.ext, by rw [hsu, hst, List.append_nil]; exact jE hJ hh.ext⟩, (hf.head (by repeat' (first | exact True.intro | refine And.intro rfl ?_)) (Keep.cons rfl (Keep.cons rfl (Keep.cons rfl (Keep.cons rfl (Keep.cons rfl (Keep.cons rfl (Keep.cons rfl (Keep.cons rfl (Keep.cons rfl (Keep.cons rfl (Keep.cons rfl (Keep.cons rfl (Keep.cons rfl (Keep.cons rfl (Keep.cons rfl (Keep.cons rfl (Keep.cons rfl (Keep.app rfl (Keep.rm rfl Keep.base))))))))))))))))))))⟩, by omega⟩)
          | omega
       ·have hG8 := hg8; try simp only [gS] at hG8
        refine sy_skip ?_
        refine then_n ?_
        refine sy_cut (σ := Option Addr × Nat × List (Nat × Obj)) [14, 36, 37, 38, 39, 40] (fun q => [(14, .slice q.1 (way.length + 1) q.2.1)]) (fun q => fun w' => OwnSl 173 3 (.slice q.1 (way.length + 1) q.2.1) (way.length + 1) ((way ++ [z]).flatMap lkC) q.2.2 ∧ Hp w1 [] ((B12, .cells #[.int .i64 (z.i : Nat), .int .i64 (z.to : Nat), .bool z.back] 173) :: q.2.2) w') hf ?_ ?_
        ·replace hh : Hp w1 [] [(B12, .cells #[.int .i64 (z.i : Nat), .int .i64 (z.to : Nat), .bool z.back] 173)] w := hh
         refine sy_treeC (.p 0 (.q 0 2 (.e2 1 (.e1 3 (.e1 4 (.p 5 (.fin)))) 3 (.e1 1 (.e1 4 (.p 5 (.fin))))))) [[4]] [(AtE w1 [] [(B12, .cells #[.int .i64 (z.i : Nat), .int .i64 (z.to : Nat), .bool z.back] 173)], [4])] Tryz.follows (by kernel_rfl) rfl hh (fun w hh => ?_)
         refine mc_p rfl   hf (yv_move rfl) (.inl rfl) rfl rfl ?_; clear hf a; intro a hf
         refine mc_q rfl rfl (AtE.of hh (by intro p hp; rw [List.mem_singleton.1 hp]; simp)) hf (y_lds Tryz.ag_173 rfl) (.inl rfl) rfl rfl ?_; clear hf a; intro a hf
         refine ⟨?_, ?_⟩
         ·refine mc_e rfl fun Q1 => ?_
          refine o_call hf Tryz.en_152 rfl rfl rfl (p88 way sw _ cw _ (hW'.at.ext hh.ext) rfl (by omega)) ?_; clear hf a; intro v a w hR hf
          obtain ⟨X, hOX, hx⟩ := hR; obtain ⟨oa, cpx, rfl⟩ := own_val hOX; replace hh := hh.join hx; clear hx
          refine ops_end ?_
          refine then_n ⟨⟨fun _ _ => (AtE.of hh (by intro p hp; rw [List.mem_singleton.1 hp]; simp)), trivial⟩, ?_⟩
          refine mc_e rfl fun Q1 => ?_
          refine ops_buildSl hf hh Tryz.bl_171_1 rfl rfl (.inl rfl) rfl ?_; clear hf hh; clear a; intro B39 a w hf hh
          refine ops_end ?_
          refine then_n ⟨⟨fun _ _ => (AtE.of hh (by intro p hp; rw [List.mem_singleton.1 hp]; simp)), trivial⟩, ?_⟩
          refine mc_e rfl fun Q1 => ?_
          first
            | (refine ops_append (e := 173) (size := 3) (xs := way.flatMap lkC) (X := X) (Z := [(B12, .cells #[.int .i64 (z.i : Nat), .int .i64 (z.to : Nat), .bool z.back] 173)]) (m := way.length) (q := 1) hf hh Tryz.eb_171 rfl rfl hOX rfl rfl rfl (by simp only [maxLen]; omega) (by omega) (.inl rfl) rfl ?_)
            | (refine ops_append (e := 173) (size := 3) (xs := way.flatMap lkC) (X := X) (Z := [(B12, .cells #[.int .i64 (z.i : Nat), .int .i64 (z.to : Nat), .bool z.back] 173)]) (m := way.length) (q := 1) hf (hh.perm List.perm_middle) Tryz.eb_171 rfl rfl hOX rfl rfl rfl (by simp only [maxLen]; omega) (by omega) (.inl rfl) rfl ?_)
          clear hf hh a; intro v2 X2 a w hO2 hf hh
          obtain ⟨oa2, cp2, rfl⟩ := own_val hO2
          replace hO2 : OwnSl 173 3 (.slice oa2 (way.length + 1) cp2) (way.length + 1) (way.flatMap lkC ++ lkC z) X2 := hO2
          refine ops_end ?_
          refine then_n ⟨⟨fun h => Bool.noConfusion (show true = false from h), trivial⟩, ?_⟩
          refine mc_p rfl   hf (yv_assign rfl) (.inl rfl) rfl rfl ?_; clear hf a; intro a hf
          refine mc_end ?_
          refine then_n ?_
          exact ⟨(oa2, cp2, X2), ⟨by rw [List.flatMap_append]; simpa using hO2, hh.perm List.perm_append_comm⟩, hf.head ⟨rfl, True.intro⟩ (Keep.cons rfl (Keep.cons rfl (Keep.cons rfl (Keep.cons rfl (Keep.cons rfl (Keep.cons rfl (Keep.base)))))))⟩
         ·refine mc_e rfl fun Q1 => ?_
          refine ops_buildSl hf hh Tryz.bl_171_1 rfl rfl (.inl rfl) rfl ?_; clear hf hh; clear a; intro B39 a w hf hh
          refine ops_end ?_
          refine then_n ⟨⟨fun _ _ => (AtE.of hh (by intro p hp; rw [List.mem_singleton.1 hp]; simp)), trivial⟩, ?_⟩
          refine mc_e rfl fun Q1 => ?_
          refine o_call hf Tryz.en_152 rfl rfl rfl (p88 way sw _ cw _ (hW'.at.ext hh.ext) rfl (by omega)) ?_; clear hf a; intro v a w hR hf
          obtain ⟨X, hOX, hx⟩ := hR; obtain ⟨oa, cpx, rfl⟩ := own_val hOX; replace hh := hh.join hx; clear hx
          refine ops_end ?_
          refine then_n ⟨⟨fun _ _ => (AtE.of hh (by intro p hp; rw [List.mem_singleton.1 hp]; simp)), trivial⟩, ?_⟩
          refine mc_e rfl fun Q1 => ?_
          first
            | (refine ops_append (e := 173) (size := 3) (xs := way.flatMap lkC) (X := X) (Z := [(B12, .cells #[.int .i64 (z.i : Nat), .int .i64 (z.to : Nat), .bool z.back] 173)]) (m := way.length) (q := 1) hf hh Tryz.eb_171 rfl rfl hOX rfl rfl rfl (by simp only [maxLen]; omega) (by omega) (.inl rfl) rfl ?_)
            | (refine ops_append (e := 173) (size := 3) (xs := way.flatMap lkC) (X := X) (Z := [(B12, .cells #[.int .i64 (z.i : Nat), .int .i64 (z.to : Nat), .bool z.back] 173)]) (m := way.length) (q := 1) hf (hh.perm List.perm_middle) Tryz.eb_171 rfl rfl hOX rfl rfl rfl (by simp only [maxLen]; omega) (by omega) (.inl rfl) rfl ?_)
          clear hf hh a; intro v2 X2 a w hO2 hf hh
          obtain ⟨oa2, cp2, rfl⟩ := own_val hO2
          replace hO2 : OwnSl 173 3 (.slice oa2 (way.length + 1) cp2) (way.length + 1) (way.flatMap lkC ++ lkC z) X2 := hO2
          refine ops_end ?_
          refine then_n ⟨⟨fun h => Bool.noConfusion (show true = false from h), trivial⟩, ?_⟩
          refine mc_p rfl   hf (yv_assign rfl) (.inl rfl) rfl rfl ?_; clear hf a; intro a hf
          refine mc_end ?_
          refine then_n ?_
          exact ⟨(oa2, cp2, X2), ⟨by rw [List.flatMap_append]; simpa using hO2, hh.perm List.perm_append_comm⟩, hf.head ⟨rfl, True.intro⟩ (Keep.cons rfl (Keep.cons rfl (Keep.cons rfl (Keep.cons rfl (Keep.cons rfl (Keep.cons rfl (Keep.base)))))))⟩
        ·rintro q a w ⟨hO3, hh⟩ hf
         obtain ⟨oa3, cp3, X3⟩ := q; simp only at hO3 hh hf ⊢
         have hnb : ¬ z.to < b := by omega
         have hnu : (way.any fun o => decide (o.i = z.i)) = false := by
           rw [any_okL]
           have h8 : way.all (okL z) = true := by simp_all
           rw [h8]; rfl
         have hoffN : ∀ x ∈ N', x ∉ X3.map Prod.fst := fun x hx hx2 => by
           have h1 := hJl _ _ _ hJ x hx
           obtain ⟨q, hq, rfl⟩ := List.mem_map.1 hx2
           rcases hh.mine q (.tail _ hq) with h2 | h2
           · omega
           · cases h2
         have hwz : way.length + 1 = (way ++ [z]).length := by rw [List.length_append]; rfl
         refine sy_seq ?_
         refine sy_sq ?_
         refine o_v hf hh (yv_fieldAddr Tryz.fo_173_1 rfl) ?_; clear hf a; intro a hf
         refine o_v hf hh (y_ld Tryz.sc_3 rfl) ?_; clear hf a; intro a hf
         refine o_v hf hh (y_ld Tryz.sc_3 rfl) ?_; clear hf a; intro a hf
         refine o_v hf hh (yv_bin rfl rfl rfl) ?_; clear hf a; intro a hf
         refine o_end ?_
         refine sy_cond hf rfl (fun hg14 => ?_) (fun hg14 => ?_)
         ·have hG14 := hg14; try simp only [gS] at hG14
          refine sy_seq ?_
          refine sy_sq ?_
          refine o_v hf hh (y_ld Tryz.sc_224 rfl) ?_; clear hf a; intro a hf
          refine o_v hf hh (yv_move rfl) ?_; clear hf a; intro a hf
          have hst : stepC c b f ps way z = [way ++ [z]] := by unfold stepC; rw [if_neg (by rw [hnu]; simp; omega), if_pos (by omega)]
          refine ops_yield hf rfl rfl (.inl rfl) rfl (hy _ N' _ _ (way ++ [z]) (cir_at (by rw [hC, hsp]) hst) ⟨oa3, cp3, by rw [← hwz], toff_own hO3 hwz (fun q hq => hh.get q (.tail _ hq)) hoffN⟩ (jE hJ hh.ext)) ?_; clear hf a; intro v a w hR hf
          obtain ⟨N2, hg2, he2, hR2⟩ := hR
          have hRn2 := (hRn.more hh.ext).step hg2 he2
          have hR3 : ∃ o, v = .bool o ∧ (o = true → J (done.length + (preC c b f ps way L (j + 1)).length) N2 w) ∧ (o = false → ∃ k, K k N2 w) := by
            rcases hR2 with ⟨rfl, h⟩ | ⟨rfl, h⟩
            · exact ⟨true, rfl, fun _ => by rw [hsu, hst, List.length_append, ← Nat.add_assoc]; exact h, (fun h => by cases h)⟩
            · exact ⟨false, rfl, (fun h => by cases h), fun _ => ⟨_, h⟩⟩
          clear hR2
          obtain ⟨o, rfl, ho1, ho2⟩ := hR3
          replace hh := Hp.init w []; clear m1 m2 m3 m4 hbv hb2
          refine o_v hf hh (yv_not rfl) ?_; clear hf a; intro a hf
          refine o_end ?_
          refine sy_cond hf rfl (fun hg16 => ?_) (fun hg16 => ?_)
          ·have hG16 := hg16; try simp only [gS] at hG16
           refine sy_sq ?_
           refine o_v hf hh (yv_assign rfl) ?_; clear hf a; intro a hf
           refine o_end ?_
           refine sy_ret ?_
           refine then_r ?_
           refine then_r ?_
           refine blk_r ?_
           refine then_r ?_
           refine then_r ?_
           refine blk_r ?_
           refine then_r ?_
           refine ng_r ?_
           refine ret_r hf rfl rfl ?_
           first
             | exact ⟨N2, hRn2.more hh.ext, .inr ⟨rfl, by obtain ⟨k, hk⟩ := ho2 (by assumption); exact ⟨k, kE hk hh.ext⟩⟩⟩
             | (have hjl : j = L.length := by omega
                exact ⟨N', hRn.more hh.ext, .inl ⟨rfl, by rw [← preC_all hjl]; exact jE hJ hh.ext⟩⟩)
             | omega
          ·have hG16 := hg16; try simp only [gS] at hG16
           refine sy_skip ?_
           refine then_n ?_
           refine sy_exit ?_
           refine then_e ?_
           refine blk_e ?_
           refine then_n ?_
           refine sy_ops ?_
           refine o_v hf hh (y_add rfl rfl) ?_; clear hf a; intro a hf
           refine o_v hf hh (yv_move rfl) ?_; clear hf a; intro a hf
           refine ops_end ?_
           refine then_n ?_
           first
             | (have hJ2 := ho1 (by assumption)
                exact ⟨j + 1, ⟨⟨by omega, N2, hRn2.more hh.ext, jE hJ2 hh.ext⟩, (hf.head (by repeat' (first | exact True.intro | refine And.intro rfl ?_)) (Keep.cons rfl (Keep.cons rfl (Keep.cons rfl (Keep.cons rfl (Keep.cons rfl (Keep.cons rfl (Keep.cons rfl (Keep.cons rfl (Keep.cons rfl (Keep.cons rfl (Keep.app rfl (Keep.rm rfl (Keep.cons rfl (Keep.cons rfl (Keep.cons rfl (Keep.cons rfl (Keep.cons rfl (Keep.cons rfl (Keep.cons rfl (Keep.cons rfl (Keep.cons rfl (Keep.cons rfl (Keep.cons rfl (Keep.cons rfl (Keep.cons rfl (Keep.cons rfl (Keep.cons rfl (Keep.app rfl (Keep.rm rfl Keep.base))))))))))))))))))))))))))))))⟩, by omega⟩)
             | (have hst : stepC c b f ps way z = [] := by
                  unfold stepC
                  first
                  | rw [if_pos (.inl (by omega))]
                  | (rw [if_pos (.inr (by rw [any_okL]; assumption))])
                exact ⟨j + 1, ⟨⟨by omega, N', hRn.more hh.ext, by rw [hsu, hst, List.append_nil]; exact jE hJ hh.ext⟩, (hf.head (by repeat' (first | exact True.intro | refine And.intro rfl ?_)) (Keep.cons rfl (Keep.cons rfl (Keep.cons rfl (Keep.cons rfl (Keep.cons rfl (Keep.cons rfl (Keep.cons rfl (Keep.cons rfl (Keep.cons rfl (Keep.cons rfl (Keep.app rfl (Keep.rm rfl (Keep.cons rfl (Keep.cons rfl (Keep.cons rfl (Keep.cons rfl (Keep.cons rfl (Keep.cons rfl (Keep.cons rfl (Keep.cons rfl (Keep.cons rfl (Keep.cons rfl (Keep.cons rfl (Keep.cons rfl (Keep.cons rfl (Keep.cons rfl (Keep.cons rfl (Keep.app rfl (Keep.rm rfl Keep.base))))))))))))))))))))))))))))))⟩, by omega⟩)
             | (have hst : stepC c b f ps way z = [] := by
                  unfold stepC
                  rw [if_neg (by rw [hnu]; simp; omega), if_neg hne, if_pos (by assumption)]
                exact ⟨j + 1, ⟨⟨by omega, N', hRn.more hh.ext, by rw [hsu, hst, List.append_nil]; exact jE hJ hh.ext⟩, (hf.head (by repeat' (first | exact True.intro | refine And.intro rfl ?_)) (Keep.cons rfl (Keep.cons rfl (Keep.cons rfl (Keep.cons rfl (Keep.cons rfl (Keep.cons rfl (Keep.cons rfl (Keep.cons rfl (Keep.cons rfl (Keep.cons rfl (Keep.app rfl (Keep.rm rfl (Keep.cons rfl (Keep.cons rfl (Keep.cons rfl (Keep.cons rfl (Keep.cons rfl (Keep.cons rfl (Keep.cons rfl (Keep.cons rfl (Keep.cons rfl (Keep.cons rfl (Keep.cons rfl (Keep.cons rfl (Keep.cons rfl (Keep.cons rfl (Keep.cons rfl (Keep.app rfl (Keep.rm rfl Keep.base))))))))))))))))))))))))))))))⟩, by omega⟩)
             | omega
         ·have hG14 := hg14; try simp only [gS] at hG14
          refine sy_skip ?_
          refine then_n ?_
          refine sy_seq ?_
          have hne : ¬ z.to = b := by omega
          refine sy_treeC (.p 0 (.p 1 (.q 0 2 (.p 3 (.p 4 (.p 5 (.p 6 (.q 0 7 (.p 8 (.q 0 9 (.p 10 (.p 11 (.q 0 12 (.p 13 (.p 14 (.p 15 (.e1 16 (.p 17 (.p 18 (.fin)))))))))))))))))))) [[16]] [(AtE w1 [] [(B12, .cells #[.int .i64 (z.i : Nat), .int .i64 (z.to : Nat), .bool z.back] 173)], [16])] Tryz.follows (by kernel_rfl) rfl hh (fun w hh => ?_)
          refine mc_p rfl   hf (yv_move rfl) (.inl rfl) rfl rfl ?_; clear hf a; intro a hf
          refine mc_p rfl   hf (yv_fieldAddr Tryz.fo_173_1 rfl) (.inl rfl) rfl rfl ?_; clear hf a; intro a hf
          refine mc_q rfl rfl (AtE.of hh (by intro p hp; rw [List.mem_singleton.1 hp]; simp)) hf (y_ld Tryz.sc_3 rfl) (.inl rfl) rfl rfl ?_; clear hf a; intro a hf
          refine mc_p rfl   hf (yv_shrN rfl rfl (by omega)) (.inl rfl) rfl rfl ?_; clear hf a; intro a hf
          refine mc_p rfl   hf (yv_and1 rfl rfl (by omega)) (.inl rfl) rfl rfl ?_; clear hf a; intro a hf
          refine mc_p rfl   hf (yv_bit0 rfl rfl) (.inl rfl) rfl rfl ?_; clear hf a; intro a hf
          refine mc_p rfl   hf (yv_move rfl) (.inl rfl) rfl rfl ?_; clear hf a; intro a hf
          refine guard_any hf (t := 55) rfl (fun hg20 => ?_) (fun hg20 => ?_)
          ·have hG20 := hg20; try simp only [gS] at hG20
           refine mc_q rfl rfl (AtE.of hh (by intro p hp; rw [List.mem_singleton.1 hp]; simp)) hf (y_ld Tryz.sc_225 rfl) (gon rfl rfl rfl (by first | assumption | rfl | (simp; done) | (simp; omega))) rfl rfl ?_; clear hf a; intro a hf
           refine mc_p rfl   hf (yv_fieldAddr Tryz.fo_173_1 rfl) (gon rfl rfl rfl (by first | assumption | rfl | (simp; done) | (simp; omega))) rfl rfl ?_; clear hf a; intro a hf
           refine mc_q rfl rfl (AtE.of hh (by intro p hp; rw [List.mem_singleton.1 hp]; simp)) hf (y_ld Tryz.sc_3 rfl) (gon rfl rfl rfl (by first | assumption | rfl | (simp; done) | (simp; omega))) rfl rfl ?_; clear hf a; intro a hf
           refine mc_p rfl   hf (yv_move rfl) (gon rfl rfl rfl (by first | assumption | rfl | (simp; done) | (simp; omega))) rfl rfl ?_; clear hf a; intro a hf
           refine mc_p rfl   hf (yv_fieldAddr Tryz.fo_173_1 rfl) (gon rfl rfl rfl (by first | assumption | rfl | (simp; done) | (simp; omega))) rfl rfl ?_; clear hf a; intro a hf
           refine mc_q rfl rfl (AtE.of hh (by intro p hp; rw [List.mem_singleton.1 hp]; simp)) hf (y_ld Tryz.sc_3 rfl) (gon rfl rfl rfl (by first | assumption | rfl | (simp; done) | (simp; omega))) rfl rfl ?_; clear hf a; intro a hf
           refine mc_p rfl   hf (yv_cast (yv_shl1 (.inl rfl) rfl rfl (by omega) (by omega)) (intv (b := ((2 ^ z.to : Nat) : Int)) (by rw [Int.toNat_natCast]))) (gon rfl rfl rfl (by first | assumption | rfl | (simp; done) | (simp; omega))) rfl rfl ?_; clear hf a; intro a hf
           refine mc_p rfl   hf (yv_orI rfl rfl (by omega) (by omega)) (gon rfl rfl rfl (by first | assumption | rfl | (simp; done) | (simp; omega))) rfl rfl ?_; clear hf a; intro a hf
           refine mc_p rfl   hf (yv_move rfl) (gon rfl rfl rfl (by first | assumption | rfl | (simp; done) | (simp; omega))) rfl rfl ?_; clear hf a; intro a hf
           refine mc_e rfl fun Q1 => ?_
           have hbt : ps.testBit z.to = false := by assumption
           have hst : stepC c b f ps way z = cirN c b f z.to (ps ||| 2 ^ z.to) (way ++ [z]) := by unfold stepC; rw [if_neg (by rw [hnu]; simp; omega), if_neg hne, if_neg (by rw [hbt]; decide)]
           have hpa := psN_add hto2 hbt
           rw [hst] at hsp hsu
           refine o_call hf Tryz.en_149 rfl rfl rfl (ih z.to (ps ||| 2 ^ z.to) (way ++ [z]) w N' (done ++ preC c b f ps way L j) ((L.drop (j + 1)).flatMap (stepC c b f ps way) ++ rest) oa3 (way.length + 1) cp3 hto2 (Nat.or_lt_two_pow (n := 8) hps (by omega)) (by omega) hwz (by rw [hpa, ← hwz]; omega) (by rw [hC, hsp]; simp only [List.append_assoc]) (by rw [List.length_append]; exact jE hJ hh.ext) (e0.trans hh.ext) hN' (hH'.ext hh.ext) (toff_own hO3 hwz (fun q hq => hh.get q (.tail _ hq)) hoffN)) ?_; clear hf a; intro v a w hR hf
           obtain ⟨N2, hr2, hR2⟩ := hR
           have hRn2 := (hRn.more hh.ext).step hr2.gr hr2.ext
           have hR3 : ∃ o, v = .bool o ∧ (o = true → J (done.length + (preC c b f ps way L (j + 1)).length) N2 w) ∧ (o = false → ∃ k, K k N2 w) := by
             rcases hR2 with ⟨rfl, h⟩ | ⟨rfl, h⟩
             · exact ⟨true, rfl, fun _ => by rw [hsu, List.length_append, ← Nat.add_assoc]; rw [List.length_append] at h; exact h, (fun h => by cases h)⟩
             · exact ⟨false, rfl, (fun h => by cases h), fun _ => h⟩
           clear hR2
           obtain ⟨o, rfl, ho1, ho2⟩ := hR3
           replace hh := Hp.init w []; clear m1 m2 m3 m4 hbv hb2
           refine ops_end ?_
           refine then_n ⟨⟨fun h => Bool.noConfusion (show true = false from h), trivial⟩, ?_⟩
           refine mc_p rfl   hf (yv_not rfl) (gon rfl rfl rfl (by first | assumption | rfl | (simp; done) | (simp; omega))) rfl rfl ?_; clear hf a; intro a hf
           refine mc_p rfl   hf (y_pt rfl rfl) (.inl rfl) rfl rfl ?_; clear hf a; intro a hf
           refine mc_end ?_
           refine then_n ?_
           refine sy_cond hf rfl (fun hg24 => ?_) (fun hg24 => ?_)
           ·have hG24 := hg24; try simp only [gS] at hG24
            refine sy_sq ?_
            refine o_v hf hh (yv_assign rfl) ?_; clear hf a; intro a hf
            refine o_end ?_
            refine sy_ret ?_
            refine blk_r ?_
            refine then_r ?_
            refine then_r ?_
            refine blk_r ?_
            refine then_r ?_
            refine ng_r ?_
            refine ret_r hf rfl rfl ?_
            first
              | exact ⟨N2, hRn2.more hh.ext, .inr ⟨rfl, by obtain ⟨k, hk⟩ := ho2 (by assumption); exact ⟨k, kE hk hh.ext⟩⟩⟩
              | (have hjl : j = L.length := by omega
                 exact ⟨N', hRn.more hh.ext, .inl ⟨rfl, by rw [← preC_all hjl]; exact jE hJ hh.ext⟩⟩)
              | omega
           ·have hG24 := hg24; try simp only [gS] at hG24
            refine sy_skip ?_
            refine blk_n ?_
            refine then_n ?_
            refine sy_ops ?_
            refine o_v hf hh (y_add rfl rfl) ?_; clear hf a; intro a hf
            refine o_v hf hh (yv_move rfl) ?_; clear hf a; intro a hf
            refine ops_end ?_
            refine then_n ?_
            first
              | (have hJ2 := ho1 (by assumption)
                 exact ⟨j + 1, ⟨⟨by omega, N2, hRn2.more hh.ext, jE hJ2 hh.ext⟩, (hf.head (by repeat' (first | exact True.intro | refine And.intro rfl ?_)) (Keep.cons rfl (Keep.cons rfl (Keep.cons rfl (Keep.cons rfl (Keep.cons rfl (Keep.cons rfl (Keep.cons rfl (Keep.cons rfl (Keep.cons rfl (Keep.cons rfl (Keep.cons rfl (Keep.cons rfl (Keep.cons rfl (Keep.cons rfl (Keep.cons rfl (Keep.cons rfl (Keep.cons rfl (Keep.cons rfl (Keep.cons rfl (Keep.cons rfl (Keep.cons rfl (Keep.cons rfl (Keep.cons rfl (Keep.cons rfl (Keep.cons rfl (Keep.app rfl (Keep.rm rfl (Keep.cons rfl (Keep.cons rfl (Keep.cons rfl (Keep.cons rfl (Keep.cons rfl (Keep.cons rfl (Keep.cons rfl (Keep.cons rfl (Keep.cons rfl (Keep.cons rfl (Keep.cons rfl (Keep.cons rfl (Keep.cons rfl (Keep.cons rfl (Keep.cons rfl (Keep.app rfl (Keep.rm rfl Keep.base)))))))))))))))))))))))))))))))))))))))))))))⟩, by omega⟩)
              | (have hst : stepC c b f ps way z = [] := by
                   unfold stepC
                   first
                   | rw [if_pos (.inl (by omega))]
                   | (rw [if_pos (.inr (by rw [any_okL]; assumption))])
                 exact ⟨j + 1, ⟨⟨by omega, N', hRn.more hh.ext, by rw [hsu, hst, List.append_nil]; exact jE hJ hh.ext⟩, (hf.head (by repeat' (first | exact True.intro | refine And.intro rfl ?_)) (Keep.cons rfl (Keep.cons rfl (Keep.cons rfl (Keep.cons rfl (Keep.cons rfl (Keep.cons rfl (Keep.cons rfl (Keep.cons rfl (Keep.cons rfl (Keep.cons rfl (Keep.cons rfl (Keep.cons rfl (Keep.cons rfl (Keep.cons rfl (Keep.cons rfl (Keep.cons rfl (Keep.cons rfl (Keep.cons rfl (Keep.cons rfl (Keep.cons rfl (Keep.cons rfl (Keep.cons rfl (Keep.cons rfl (Keep.cons rfl (Keep.cons rfl (Keep.app rfl (Keep.rm rfl (Keep.cons rfl (Keep.cons rfl (Keep.cons rfl (Keep.cons rfl (Keep.cons rfl (Keep.cons rfl (Keep.cons rfl (Keep.cons rfl (Keep.cons rfl (Keep.cons rfl (Keep.cons rfl (Keep.cons rfl (Keep.cons rfl (Keep.cons rfl (Keep.cons rfl (Keep.app rfl (Keep.rm rfl Keep.base)))))))))))))))))))))))))))))))))))))))))))))⟩, by omega⟩)
              | (have hst : stepC c b f ps way z = [] := by
                   unfold stepC
                   rw [if_neg (by rw [hnu]; simp; omega), if_neg hne, if_pos (by assumption)]
                 exact ⟨j + 1, ⟨⟨by omega, N', hRn.more hh.ext, by rw [hsu, hst, List.append_nil]; exact jE hJ hh.ext⟩, (hf.head (by repeat' (first | exact True.intro | refine And.intro rfl ?_)) (Keep.cons rfl (Keep.cons rfl (Keep.cons rfl (Keep.cons rfl (Keep.cons rfl (Keep.cons rfl (Keep.cons rfl (Keep.cons rfl (Keep.cons rfl (Keep.cons rfl (Keep.cons rfl (Keep.cons rfl (Keep.cons rfl (Keep.cons rfl (Keep.cons rfl (Keep.cons rfl (Keep.cons rfl (Keep.cons rfl (Keep.cons rfl (Keep.cons rfl (Keep.cons rfl (Keep.cons rfl (Keep.cons rfl (Keep.cons rfl (Keep.cons rfl (Keep.app rfl (Keep.rm rfl (Keep.cons rfl (Keep.cons rfl (Keep.cons rfl (Keep.cons rfl (Keep.cons rfl (Keep.cons rfl (Keep.cons rfl (Keep.cons rfl (Keep.cons rfl (Keep.cons rfl (Keep.cons rfl (Keep.cons rfl (Keep.cons rfl (Keep.cons rfl (Keep.cons rfl (Keep.app rfl (Keep.rm rfl Keep.base)))))))))))))))))))))))))))))))))))))))))))))⟩, by omega⟩)
              | omega
          ·have hG20 := hg20; try simp only [gS] at hG20
           refine mc_offq rfl rfl (AtE.of hh (by intro p hp; rw [List.mem_singleton.1 hp]; simp)) hf (goff rfl rfl rfl (by first | assumption | rfl | (simp; done) | (simp; omega))) rfl rfl ?_; clear hf a; intro a hf
           refine mc_off rfl hf (goff rfl rfl rfl (by first | assumption | rfl | (simp; done) | (simp; omega))) rfl rfl ?_; clear hf a; intro a hf
           refine mc_offq rfl rfl (AtE.of hh (by intro p hp; rw [List.mem_singleton.1 hp]; simp)) hf (goff rfl rfl rfl (by first | assumption | rfl | (simp; done) | (simp; omega))) rfl rfl ?_; clear hf a; intro a hf
           refine mc_off rfl hf (goff rfl rfl rfl (by first | assumption | rfl | (simp; done) | (simp; omega))) rfl rfl ?_; clear hf a; intro a hf
           refine mc_off rfl hf (goff rfl rfl rfl (by first | assumption | rfl | (simp; done) | (simp; omega))) rfl rfl ?_; clear hf a; intro a hf
           refine mc_offq rfl rfl (AtE.of hh (by intro p hp; rw [List.mem_singleton.1 hp]; simp)) hf (goff rfl rfl rfl (by first | assumption | rfl | (simp; done) | (simp; omega))) rfl rfl ?_; clear hf a; intro a hf
           refine mc_off rfl hf (goff rfl rfl rfl (by first | assumption | rfl | (simp; done) | (simp; omega))) rfl rfl ?_; clear hf a; intro a hf
           refine mc_off rfl hf (goff rfl rfl rfl (by first | assumption | rfl | (simp; done) | (simp; omega))) rfl rfl ?_; clear hf a; intro a hf
           refine mc_off rfl hf (goff rfl rfl rfl (by first | assumption | rfl | (simp; done) | (simp; omega))) rfl rfl ?_; clear hf a; intro a hf
           refine mc_e rfl fun Q1 => ?_
           refine o_off hf ?_; clear hf a; intro a hf
           refine ops_end ?_
           refine then_n ⟨⟨fun h => Bool.noConfusion (show true = false from h), trivial⟩, ?_⟩
           refine mc_off rfl hf (goff rfl rfl rfl (by first | assumption | rfl | (simp; done) | (simp; omega))) rfl rfl ?_; clear hf a; intro a hf
           refine mc_p rfl   hf (y_pf rfl rfl) (.inl rfl) rfl rfl ?_; clear hf a; intro a hf
           refine mc_end ?_
           refine then_n ?_
           refine c_f hf ?_
           refine sy_skip ?_
           refine blk_n ?_
           refine then_n ?_
           refine sy_ops ?_
           refine o_v hf hh (y_add rfl rfl) ?_; clear hf a; intro a hf
           refine o_v hf hh (yv_move rfl) ?_; clear hf a; intro a hf
           refine ops_end ?_
           refine then_n ?_
           first
             | (have hJ2 := ho1 (by assumption)
                exact ⟨j + 1, ⟨⟨by omega, N2, hRn2.more hh.ext, jE hJ2 hh.ext⟩, (hf.head (by repeat' (first | exact True.intro | refine And.intro rfl ?_)) (Keep.cons rfl (Keep.cons rfl (Keep.cons rfl (Keep.cons rfl (Keep.cons rfl (Keep.cons rfl (Keep.cons rfl (Keep.cons rfl (Keep.cons rfl (Keep.cons rfl (Keep.cons rfl (Keep.cons rfl (Keep.cons rfl (Keep.cons rfl (Keep.cons rfl (Keep.cons rfl (Keep.cons rfl (Keep.cons rfl (Keep.cons rfl (Keep.cons rfl (Keep.cons rfl (Keep.cons rfl (Keep.cons rfl (Keep.cons rfl (Keep.cons rfl (Keep.app rfl (Keep.rm rfl (Keep.cons rfl (Keep.cons rfl (Keep.cons rfl (Keep.cons rfl (Keep.cons rfl (Keep.cons rfl (Keep.cons rfl (Keep.cons rfl (Keep.cons rfl (Keep.cons rfl (Keep.cons rfl (Keep.cons rfl (Keep.cons rfl (Keep.cons rfl (Keep.cons rfl (Keep.app rfl (Keep.rm rfl Keep.base)))))))))))))))))))))))))))))))))))))))))))))⟩, by omega⟩)
             | (have hst : stepC c b f ps way z = [] := by
                  unfold stepC
                  first
                  | rw [if_pos (.inl (by omega))]
                  | (rw [if_pos (.inr (by rw [any_okL]; assumption))])
                exact ⟨j + 1, ⟨⟨by omega, N', hRn.more hh.ext, by rw [hsu, hst, List.append_nil]; exact jE hJ hh.ext⟩, (hf.head (by repeat' (first | exact True.intro | refine And.intro rfl ?_)) (Keep.cons rfl (Keep.cons rfl (Keep.cons rfl (Keep.cons rfl (Keep.cons rfl (Keep.cons rfl (Keep.cons rfl (Keep.cons rfl (Keep.cons rfl (Keep.cons rfl (Keep.cons rfl (Keep.cons rfl (Keep.cons rfl (Keep.cons rfl (Keep.cons rfl (Keep.cons rfl (Keep.cons rfl (Keep.cons rfl (Keep.cons rfl (Keep.cons rfl (Keep.cons rfl (Keep.cons rfl (Keep.cons rfl (Keep.cons rfl (Keep.cons rfl (Keep.app rfl (Keep.rm rfl (Keep.cons rfl (Keep.cons rfl (Keep.cons rfl (Keep.cons rfl (Keep.cons rfl (Keep.cons rfl (Keep.cons rfl (Keep.cons rfl (Keep.cons rfl (Keep.cons rfl (Keep.cons rfl (Keep.cons rfl (Keep.cons rfl (Keep.cons rfl (Keep.cons rfl (Keep.app rfl (Keep.rm rfl Keep.base)))))))))))))))))))))))))))))))))))))))))))))⟩, by omega⟩)
             | (have hst : stepC c b f ps way z = [] := by
                  unfold stepC
                  rw [if_neg (by rw [hnu]; simp; omega), if_neg hne, if_pos (by assumption)]
                exact ⟨j + 1, ⟨⟨by omega, N', hRn.more hh.ext, by rw [hsu, hst, List.append_nil]; exact jE hJ hh.ext⟩, (hf.head (by repeat' (first | exact True.intro | refine And.intro rfl ?_)) (Keep.cons rfl (Keep.cons rfl (Keep.cons rfl (Keep.cons rfl (Keep.cons rfl (Keep.cons rfl (Keep.cons rfl (Keep.cons rfl (Keep.cons rfl (Keep.cons rfl (Keep.cons rfl (Keep.cons rfl (Keep.cons rfl (Keep.cons rfl (Keep.cons rfl (Keep.cons rfl (Keep.cons rfl (Keep.cons rfl (Keep.cons rfl (Keep.cons rfl (Keep.cons rfl (Keep.cons rfl (Keep.cons rfl (Keep.cons rfl (Keep.cons rfl (Keep.app rfl (Keep.rm rfl (Keep.cons rfl (Keep.cons rfl (Keep.cons rfl (Keep.cons rfl (Keep.cons rfl (Keep.cons rfl (Keep.cons rfl (Keep.cons rfl (Keep.cons rfl (Keep.cons rfl (Keep.cons rfl (Keep.cons rfl (Keep.cons rfl (Keep.cons rfl (Keep.cons rfl (Keep.app rfl (Keep.rm rfl Keep.base)))))))))))))))))))))))))))))))))))))))))))))⟩, by omega⟩)
             | omega
     ·have hG3 := hg3; try simp only [gS] at hG3
      refine sy_exit ?_
      refine then_e ?_
      refine then_e ?_
      refine blk_e ?_
      refine then_n ?_
      refine sy_sq ?_
      refine o_v hf hh (yv_assign rfl) ?_; clear hf a; intro a hf
      refine o_end ?_
      refine sy_ret ?_
      refine ng_r ?_
      refine ret_r hf rfl rfl ?_
      first
        | exact ⟨N2, hRn2.more hh.ext, .inr ⟨rfl, by obtain ⟨k, hk⟩ := ho2 (by assumption); exact ⟨k, kE hk hh.ext⟩⟩⟩
        | (have hjl : j = L.length := by omega
           exact ⟨N', hRn.more hh.ext, .inl ⟨rfl, by rw [← preC_all hjl]; exact jE hJ hh.ext⟩⟩)
        | omega
end Go.Proofs.YtccpgpnekoncoaaGreat

namespace Go.Proofs.YtccpgpnekoncoaaGreat
open Go Go.Sy Go.ChaM
theorem p69 (Bv : Nat) (u : World) : Calls Tryz.prog 127 #[ptr Bv 0] u (Ret fun v w' => ∃ B1, v = .func (.func 148) #[] #[ptr B1 0] ∧ Hp u [] [(B1, .cells #[ptr Bv 0] 112)] w') := by
  refine calls_of Tryz.func127 rfl rfl (fun a hf => ?_)
  have hh := Hp.init u []
  refine sy_sq ?_
  refine o_box hf hh ?_; clear hf hh a; intro B1 a w hf hh
  refine o_v hf hh (yv_assign rfl) ?_; clear hf a; intro a hf
  refine o_end ?_
  refine sy_sq ?_
  refine o_v hf hh (yv_makeFunc rfl rfl) ?_; clear hf a; intro a hf
  refine o_v hf hh (yv_assign rfl) ?_; clear hf a; intro a hf
  refine o_end ?_
  refine sy_ret ?_
  refine ret_r hf rfl rfl ?_
  exact ⟨B1, rfl, hh⟩
set_option maxRecDepth 100000 in
theorem it84 {Bv : Nat} {c : ChD} {sa : Option Addr} {cp : Nat} {u0 : World} (hV : VAt u0 Bv c sa cp) (hO : ChOk c) (B1 : Nat) :
    IterR Tryz.prog 148 #[] #[ptr B1 0] (cirL c) WayAt [] (fun N w => Ext [] u0 w ∧ (∀ x ∈ N, u0.heap.size ≤ x) ∧ Held N w [(B1, .cells #[ptr Bv 0] 112)]) := by
  intro ly J K uI N0 hJl hKl hJe hKe hy hJ0 hOw
  obtain ⟨hu0, hN0, hH0⟩ := hOw
  show Calls Tryz.prog 148 #[.func (.yield ly) #[] #[], ptr B1 0] uI _
  have jE : ∀ {k N v v'}, J k N v → Ext [] v v' → J k N v' := fun h e => hJe _ _ _ _ [] h e (by simp)
  have kE : ∀ {k N v v'}, K k N v → Ext [] v v' → K k N v' := fun h e => hKe _ _ _ _ [] h e (by simp)
  have hB1 := hH0.at 0 rfl
  have hB1n : B1 ∉ [] ++ N0 := fun h => hH0.off 0 rfl (by simpa using h)
  have hS0 : SyN uI [] N0 N0 [] uI := SyN.init (Hp.init uI []) (fun x _ h => by simp at h) (hJl _ _ _ hJ0) (fun x h => by simp at h)
  have hV0 := hV
  obtain ⟨bm, es0, cm0, m, hbv0, _, _, _, _⟩ := hV0
  have hn1 := hO.n1; have hn2 := hO.n2
  have m1 := hB1
  have hbv := hu0.get hbv0
  refine calls_of Tryz.func148 rfl rfl (fun a hf => ?_)
  have hh := Hp.init uI []
  refine sy_sq ?_
  refine o_box hf hh ?_; clear hf hh a; intro B2 a w hf hh
  refine o_end ?_
  refine sy_sq ?_
  refine o_alloc hf hh Tryz.ze_3 ?_; clear hf hh a; intro B3 a w hf hh
  refine o_end ?_
  refine sy_sq ?_
  refine o_alloc hf hh Tryz.ze_225 ?_; clear hf hh a; intro B4 a w hf hh
  refine o_end ?_
  refine sy_sq ?_
  refine o_v hf hh (yv_makeFunc rfl rfl) ?_; clear hf a; intro a hf
  refine o_store hf hh Tryz.sz_225 fun w hh => ?_
  refine o_end ?_
  refine sy_sq ?_
  refine o_v hf hh (y_ld Tryz.sc_112 rfl) ?_; clear hf a; intro a hf
  refine o_v hf hh (yv_nilCheck rfl) ?_; clear hf a; intro a hf
  refine o_v hf hh (yv_fieldAddr Tryz.fo_121_0 rfl) ?_; clear hf a; intro a hf
  refine o_v hf hh (yv_fieldAddr Tryz.fo_57_0 rfl) ?_; clear hf a; intro a hf
  refine o_v hf hh (y_ld Tryz.sc_3 rfl) ?_; clear hf a; intro a hf
  refine o_v hf hh (yv_move rfl) ?_; clear hf a; intro a hf
  refine o_end ?_
  refine sy_block ?_
  refine sy_loopH (σ := Nat) [11, 12, 13, 14, 15, 16, 17, 18, 19, 20] (fun i => [(11, .int .i64 (i : Nat))]) (fun i => fun w' => i ≤ c.n.toNat ∧ ∃ N' z, J (begC c i).length N' w' ∧ SyN uI [] N0 N' [(B4, .cells #[.func (.func 149) #[] #[ptr B1 0, ptr B3 0, ptr B2 0, ptr B4 0]] 225), (B3, .cells #[.int .i64 (z)] 3), (B2, .cells #[.func (.yield ly) #[] #[]] 224)] w') (fun i => c.n.toNat - i) (0) hf ?_ ?_ ?_
  · repeat' (first | exact True.intro | refine And.intro rfl ?_)
  · exact ⟨Nat.zero_le _, N0, 0, jE hJ0 hh.ext, hS0.step hh (fun x hx => .inl hx)⟩
  ·rintro i a w ⟨hi, N', z, hJ, hS⟩ hf
   clear hh m1 hbv
   have m1 := hS.old hB1 hB1n
   have m1n := hS.oldN hB1 (by simp)
   have hbv := (Ext.over hu0 hS.hp.ext (fun x hx => hN0 x (by simpa using hx))).get hbv0
   have hh := hS.hp.own
   have hRx : i < c.n.toNat → ∃ R, cirL c = begC c i ++ cirN c i c.n.toNat i (2 ^ i) [] ++ R := begC_split
   refine sy_sq ?_
   refine o_v hf hh (yv_bin rfl rfl rfl) ?_; clear hf a; intro a hf
   refine o_end ?_
   refine sy_seq ?_
   refine sy_cond hf rfl (fun hg2 => ?_) (fun hg2 => ?_)
   ·have hG2 := hg2; try simp only [gS] at hG2
    refine sy_skip ?_
    refine then_n ?_
    refine sy_seq ?_
    refine sy_block ?_
    refine sy_sq ?_
    refine o_v hf hh (yv_move rfl) ?_; clear hf a; intro a hf
    refine o_store hf hh Tryz.sz_3 fun w hh => ?_
    refine o_end ?_
    refine sy_seq ?_
    obtain ⟨R, hR⟩ := hRx (by omega)
    refine sy_tree1 (.q 0 0 (.q 0 1 (.q 0 2 (.p 3 (.e1 4 (.p 5 (.fin))))))) [4] Tryz.follows (by kernel_rfl) hh (fun w hh => ?_)
    refine mc_q rfl rfl hh hf (y_ld Tryz.sc_225 rfl) (.inl rfl) rfl rfl ?_; clear hf a; intro a hf
    refine mc_q rfl rfl hh hf (y_ld Tryz.sc_3 rfl) (.inl rfl) rfl rfl ?_; clear hf a; intro a hf
    refine mc_q rfl rfl hh hf (y_ld Tryz.sc_3 rfl) (.inl rfl) rfl rfl ?_; clear hf a; intro a hf
    refine mc_p rfl   hf (yv_cast (yv_shl1 (.inl rfl) rfl rfl (by omega) (by omega)) (intv (b := ((2 ^ i : Nat) : Int)) (by rw [Int.toNat_natCast]))) (.inl rfl) rfl rfl ?_; clear hf a; intro a hf
    refine mc_e rfl fun Q1 => ?_
    replace hJ := hJe _ _ _ _ _ hJ hh.ext (hS.side fun x hx => .inl hx)
    replace hS := hS.step hh (fun x hx => .inl hx)
    replace hS : SyN uI [] N0 N' [(B4, .cells #[.func (.func 149) #[] #[ptr B1 0, ptr B3 0, ptr B2 0, ptr B4 0]] 225), (B3, .cells #[.int .i64 ((i : Nat))] 3), (B2, .cells #[.func (.yield ly) #[] #[]] 224)] w := hS
    have eu := Ext.over hu0 hS.hp.ext (fun x hx => hN0 x (by simpa using hx))
    have hNN : ∀ x ∈ N', u0.heap.size ≤ x := fun x hx => by
      rcases hS.gr x hx with h1 | h1
      · exact hN0 x h1
      · exact Nat.le_trans hu0.size h1
    have hB1w : w.heap[B1]? = some (.cells #[ptr Bv 0] 112) := hS.old hB1 hB1n
    have hB1N : B1 ∉ N' := fun hx => by
      rcases hS.gr _ hx with h1 | h1
      · exact hB1n (by simpa using h1)
      · have := (Array.getElem?_eq_some_iff.1 hB1).1; omega
    have hon : ∀ x ∈ [B4, B3, B2], x ∉ N' := fun x hx hx2 => hS.off x hx2 (by simpa using hx)
    have hpo : 2 ^ i < 256 := Nat.lt_of_le_of_lt (Nat.pow_le_pow_right (by omega) (show i ≤ 7 by omega)) (by decide)
    refine o_call hf Tryz.en_149 rfl rfl rfl (p85 hV hO ly J K B1 B2 B3 B4 i (by omega) hJl jE kE hy c.n.toNat i (2 ^ i) [] w N' (begC c i) R none 0 0 (by omega) hpo (by rw [psN_one (by omega)]) rfl (by rw [psN_one (by omega)]; rfl) hR hJ eu hNN
      (Held.cons hB1w hB1N (Held.cons (hS.hp.at (i := 2) rfl) (hon _ (by simp)) (Held.cons (hS.hp.at (i := 1) rfl) (hon _ (by simp)) (Held.cons (hS.hp.at (i := 0) rfl) (hon _ (by simp)) (Held.nil _ _))))) (fun i s h => by simp at h)) ?_; clear hf a; intro v a w hRR hf
    obtain ⟨N2, hr2, hR2⟩ := hRR
    have hR3 : ∃ o, v = .bool o ∧ (o = true → J (begC c (i + 1)).length N2 w) ∧ (o = false → ∃ k, K k N2 w) ∧ ∀ x ∈ N2, x < w.heap.size := by
      rcases hR2 with ⟨rfl, h⟩ | ⟨rfl, k, h⟩
      · exact ⟨true, rfl, fun _ => by rw [begC_succ, List.length_append]; exact h, (fun h => by cases h), hJl _ _ _ h⟩
      · exact ⟨false, rfl, (fun h => by cases h), fun _ => ⟨k, h⟩, hKl _ _ _ h⟩
    clear hR2
    obtain ⟨o, rfl, ho1, ho2, hl2⟩ := hR3
    replace hS := hS.yield hr2.ext hr2.gr hl2
    clear eu hNN hB1w hB1N hon
    replace hh := hS.hp.own
    refine ops_end ?_
    refine then_n ⟨⟨fun h => Bool.noConfusion (show true = false from h), trivial⟩, ?_⟩
    refine mc_p rfl   hf (yv_not rfl) (.inl rfl) rfl rfl ?_; clear hf a; intro a hf
    refine mc_end ?_
    refine then_n ?_
    refine sy_cond hf rfl (fun hg5 => ?_) (fun hg5 => ?_)
    ·have hG5 := hg5; try simp only [gS] at hG5
     refine sy_ret ?_
     refine blk_r ?_
     refine then_r ?_
     refine then_r ?_
     refine blk_r ?_
     refine ret_r hf rfl rfl ?_
     first
       | (obtain ⟨k, hK⟩ := ho2 (by assumption)
          replace hK := hKe _ _ _ _ _ hK hh.ext (hS.side fun x hx => .inl hx)
          replace hS := hS.step hh (fun x hx => .inl hx)
          have eu := Ext.over hu0 hS.hp.ext (fun x hx => hN0 x (by simpa using hx))
          have hNN : ∀ x ∈ N2, u0.heap.size ≤ x := fun x hx => by
            rcases hS.gr x hx with h1 | h1
            · exact hN0 x h1
            · exact Nat.le_trans hu0.size h1
          have hB1w : w.heap[B1]? = some (.cells #[ptr Bv 0] 112) := hS.old hB1 hB1n
          have hB1N : B1 ∉ N2 := fun hx => by
            rcases hS.gr _ hx with h1 | h1
            · exact hB1n (by simpa using h1)
            · have := (Array.getElem?_eq_some_iff.1 hB1).1; omega
          exact ⟨N2, ⟨eu, hNN, Held.cons hB1w hB1N (Held.nil _ _)⟩, .inr ⟨k, hK⟩⟩)
       | (obtain rfl : i = c.n.toNat := by omega
          replace hJ := hJe _ _ _ _ _ hJ hh.ext (hS.side fun x hx => .inl hx)
          replace hS := hS.step hh (fun x hx => .inl hx)
          have eu := Ext.over hu0 hS.hp.ext (fun x hx => hN0 x (by simpa using hx))
          have hNN : ∀ x ∈ N', u0.heap.size ≤ x := fun x hx => by
            rcases hS.gr x hx with h1 | h1
            · exact hN0 x h1
            · exact Nat.le_trans hu0.size h1
          have hB1w : w.heap[B1]? = some (.cells #[ptr Bv 0] 112) := hS.old hB1 hB1n
          have hB1N : B1 ∉ N' := fun hx => by
            rcases hS.gr _ hx with h1 | h1
            · exact hB1n (by simpa using h1)
            · have := (Array.getElem?_eq_some_iff.1 hB1).1; omega
          exact ⟨N', ⟨eu, hNN, Held.cons hB1w hB1N (Held.nil _ _)⟩, .inl hJ⟩)
       | omega
    ·have hG5 := hg5; try simp only [gS] at hG5
     refine sy_skip ?_
     refine blk_n ?_
     refine then_n ?_
     refine sy_ops ?_
     refine o_v hf hh (y_add rfl rfl) ?_; clear hf a; intro a hf
     refine o_v hf hh (yv_move rfl) ?_; clear hf a; intro a hf
     refine ops_end ?_
     refine then_n ?_
     have hJ2 := ho1 (by assumption)
     replace hJ2 := hJe _ _ _ _ _ hJ2 hh.ext (hS.side fun x hx => .inl hx)
     replace hS := hS.step hh (fun x hx => .inl hx)
     exact ⟨i + 1, ⟨⟨by omega, N2, i, hJ2, hS⟩, (hf.head (by repeat' (first | exact True.intro | refine And.intro rfl ?_)) (Keep.cons rfl (Keep.cons rfl (Keep.cons rfl (Keep.cons rfl (Keep.cons rfl (Keep.cons rfl (Keep.cons rfl (Keep.cons rfl (Keep.cons rfl (Keep.cons rfl (Keep.app rfl (Keep.rm rfl Keep.base)))))))))))))⟩, by omega⟩
   ·have hG2 := hg2; try simp only [gS] at hG2
    refine sy_exit ?_
    refine then_e ?_
    refine then_e ?_
    refine blk_e ?_
    refine ret_n hf rfl rfl ?_
    first
      | (obtain ⟨k, hK⟩ := ho2 (by assumption)
         replace hK := hKe _ _ _ _ _ hK hh.ext (hS.side fun x hx => .inl hx)
         replace hS := hS.step hh (fun x hx => .inl hx)
         have eu := Ext.over hu0 hS.hp.ext (fun x hx => hN0 x (by simpa using hx))
         have hNN : ∀ x ∈ N2, u0.heap.size ≤ x := fun x hx => by
           rcases hS.gr x hx with h1 | h1
           · exact hN0 x h1
           · exact Nat.le_trans hu0.size h1
         have hB1w : w.heap[B1]? = some (.cells #[ptr Bv 0] 112) := hS.old hB1 hB1n
         have hB1N : B1 ∉ N2 := fun hx => by
           rcases hS.gr _ hx with h1 | h1
           · exact hB1n (by simpa using h1)
           · have := (Array.getElem?_eq_some_iff.1 hB1).1; omega
         exact ⟨N2, ⟨eu, hNN, Held.cons hB1w hB1N (Held.nil _ _)⟩, .inr ⟨k, hK⟩⟩)
      | (obtain rfl : i = c.n.toNat := by omega
         replace hJ := hJe _ _ _ _ _ hJ hh.ext (hS.side fun x hx => .inl hx)
         replace hS := hS.step hh (fun x hx => .inl hx)
         have eu := Ext.over hu0 hS.hp.ext (fun x hx => hN0 x (by simpa using hx))
         have hNN : ∀ x ∈ N', u0.heap.size ≤ x := fun x hx => by
           rcases hS.gr x hx with h1 | h1
           · exact hN0 x h1
           · exact Nat.le_trans hu0.size h1
         have hB1w : w.heap[B1]? = some (.cells #[ptr Bv 0] 112) := hS.old hB1 hB1n
         have hB1N : B1 ∉ N' := fun hx => by
           rcases hS.gr _ hx with h1 | h1
           · exact hB1n (by simpa using h1)
           · have := (Array.getElem?_eq_some_iff.1 hB1).1; omega
         exact ⟨N', ⟨eu, hNN, Held.cons hB1w hB1N (Held.nil _ _)⟩, .inl hJ⟩)
      | omega
end Go.Proofs.YtccpgpnekoncoaaGreat

namespace Go.Proofs.YtccpgpnekoncoaaGreat
set_option maxRecDepth 100000
open Go Go.Proofs
def Tryz.sortK_ren : Go.Shelf.Ren := ⟨fun | 6 => 132 | 15 => 154 | 14 => 153 | 28 => 169 | 29 => 170 | 20 => 161 | 21 => 162 | 22 => 163 | 23 => 164 | 24 => 165 | 25 => 166 | 26 => 167 | 27 => 168 | 46 => 173 | 47 => 174 | 48 => 175 | 49 => 176 | 50 => 177 | 57 => 178 | n => n, fun | 22 => 174 | 24 => 123 | 25 => 212 | 3 => 3 | 39 => 90 | 0 => 0 | 53 => 198 | 55 => 200 | 4 => 4 | 46 => 234 | 45 => 233 | 50 => 176 | 5 => 5 | 9 => 9 | 66 => 240 | 70 => 244 | 76 => 246 | 77 => 247 | n => n, fun | n => n⟩
theorem Tryz.sortK : Go.Proofs.SlLaysF.n6 Tryz.prog Tryz.sortK_ren where
  mixed := by kernel_rfl
  f6 := ⟨Tryz.f132.name, by kernel_rfl, Tryz.func132.trans (congrArg some (by kernel_rfl))⟩
  f14 := ⟨Tryz.f153.name, by kernel_rfl, Tryz.func153.trans (congrArg some (by kernel_rfl))⟩
  f15 := Tryz.func154.trans (congrArg some (by kernel_rfl))
  f20 := ⟨Tryz.f161.name, by kernel_rfl, Tryz.func161.trans (congrArg some (by kernel_rfl))⟩
  f21 := ⟨Tryz.f162.name, by kernel_rfl, Tryz.func162.trans (congrArg some (by kernel_rfl))⟩
  f22 := ⟨Tryz.f163.name, by kernel_rfl, Tryz.func163.trans (congrArg some (by kernel_rfl))⟩
  f23 := ⟨Tryz.f164.name, by kernel_rfl, Tryz.func164.trans (congrArg some (by kernel_rfl))⟩
  f24 := ⟨Tryz.f165.name, by kernel_rfl, Tryz.func165.trans (congrArg some (by kernel_rfl))⟩
  f25 := ⟨Tryz.f166.name, by kernel_rfl, Tryz.func166.trans (congrArg some (by kernel_rfl))⟩
  f26 := ⟨Tryz.f167.name, by kernel_rfl, Tryz.func167.trans (congrArg some (by kernel_rfl))⟩
  f27 := ⟨Tryz.f168.name, by kernel_rfl, Tryz.func168.trans (congrArg some (by kernel_rfl))⟩
  f28 := Tryz.func169.trans (congrArg some (by kernel_rfl))
  f29 := Tryz.func170.trans (congrArg some (by kernel_rfl))
  f46 := ⟨Tryz.f173.name, by kernel_rfl, Tryz.func173.trans (congrArg some (by kernel_rfl))⟩
  f47 := Tryz.func174.trans (congrArg some (by kernel_rfl))
  f48 := Tryz.func175.trans (congrArg some (by kernel_rfl))
  f49 := ⟨Tryz.f176.name, by kernel_rfl, Tryz.func176.trans (congrArg some (by kernel_rfl))⟩
  f50 := ⟨Tryz.f177.name, by kernel_rfl, Tryz.func177.trans (congrArg some (by kernel_rfl))⟩
  f57 := ⟨Tryz.f178.name, by kernel_rfl, Tryz.func178.trans (congrArg some (by kernel_rfl))⟩
  t0 := Tryz.underlying0
  a0 := Tryz.isAgg0
  z0 := Tryz.sizeOf0
  v0 := Tryz.zeroValue0
  t3 := Tryz.underlying3
  a3 := Tryz.isAgg3
  z3 := Tryz.sizeOf3
  v3 := Tryz.zeroValue3
  t4 := Tryz.underlying4
  a4 := Tryz.isAgg4
  z4 := Tryz.sizeOf4
  v4 := Tryz.zeroValue4
  t5 := Tryz.underlying5
  a5 := Tryz.isAgg5
  z5 := Tryz.sizeOf5
  v5 := Tryz.zeroValue5
  t9 := Tryz.underlying9
  a9 := Tryz.isAgg9
  z9 := Tryz.sizeOf9
  v9 := Tryz.zeroValue9
  t22 := Tryz.underlying174
  a22 := Tryz.isAgg174
  z22 := Tryz.sizeOf174
  v22 := Tryz.zeroValue174
  a24 := Tryz.isAgg123
  z24 := Tryz.sizeOf123
  t25 := Tryz.underlying212
  a25 := Tryz.isAgg212
  z25 := Tryz.sizeOf212
  v25 := Tryz.zeroValue212
  t39 := Tryz.underlying90
  a39 := Tryz.isAgg90
  z39 := Tryz.sizeOf90
  v39 := Tryz.zeroValue90
  t45 := Tryz.underlying233
  a45 := Tryz.isAgg233
  z45 := Tryz.sizeOf233
  v45 := Tryz.zeroValue233
  t46 := Tryz.underlying234
  a46 := Tryz.isAgg234
  z46 := Tryz.sizeOf234
  v46 := Tryz.zeroValue234
  t50 := Tryz.underlying176
  a50 := Tryz.isAgg176
  z50 := Tryz.sizeOf176
  v50 := Tryz.zeroValue176
  t53 := Tryz.underlying198
  a53 := Tryz.isAgg198
  z53 := Tryz.sizeOf198
  v53 := Tryz.zeroValue198
  t55 := Tryz.underlying200
  a55 := Tryz.isAgg200
  z55 := Tryz.sizeOf200
  v55 := Tryz.zeroValue200
  t66 := Tryz.underlying240
  a66 := Tryz.isAgg240
  z66 := Tryz.sizeOf240
  v66 := Tryz.zeroValue240
  t70 := Tryz.underlying244
  a70 := Tryz.isAgg244
  z70 := Tryz.sizeOf244
  v70 := Tryz.zeroValue244
  t76 := Tryz.underlying246
  a76 := Tryz.isAgg246
  z76 := Tryz.sizeOf246
  v76 := Tryz.zeroValue246
  t77 := Tryz.underlying247
  a77 := Tryz.isAgg247
  z77 := Tryz.sizeOf247
  v77 := Tryz.zeroValue247
def Tryz.compactK_ren : Go.Shelf.Ren := ⟨fun | 43 => 134 | n => n, fun | 22 => 174 | 23 => 123 | 3 => 3 | 4 => 4 | 0 => 0 | n => n, fun | n => n⟩
theorem Tryz.compactK : Go.Proofs.SlLaysE.n43 Tryz.prog Tryz.compactK_ren where
  mixed := by kernel_rfl
  f43 := ⟨Tryz.f134.name, by kernel_rfl, Tryz.func134.trans (congrArg some (by kernel_rfl))⟩
  t0 := Tryz.underlying0
  a0 := Tryz.isAgg0
  z0 := Tryz.sizeOf0
  v0 := Tryz.zeroValue0
  t3 := Tryz.underlying3
  a3 := Tryz.isAgg3
  z3 := Tryz.sizeOf3
  v3 := Tryz.zeroValue3
  t4 := Tryz.underlying4
  a4 := Tryz.isAgg4
  z4 := Tryz.sizeOf4
  v4 := Tryz.zeroValue4
  t22 := Tryz.underlying174
  a22 := Tryz.isAgg174
  z22 := Tryz.sizeOf174
  v22 := Tryz.zeroValue174
  a23 := Tryz.isAgg123
  z23 := Tryz.sizeOf123
end Go.Proofs.YtccpgpnekoncoaaGreat

namespace Go.Proofs.YtccpgpnekoncoaaGreat
open Go Go.Sy Go.ChaM Go.Proofs Go.Sort Go.Lib
abbrev U16 := Fin 65536
def encU (x : U16) : Value := .int .u64 ((x.val : Nat) : Int)
theorem one_U : OneCell encU := fun x => rfl
def cfU (x y : U16) : Int := cmpS x.val y.val
theorem ltU (x y : U16) : ltOf cfU x y = decide (Bet x.val y.val) := by
  unfold ltOf cfU
  rw [decide_eq_decide]
  exact cmpS_neg
theorem swo_U : SWO (ltOf cfU) where
  irrefl x := by rw [ltU]; exact decide_eq_false Bet.irr
  trans x y z h1 h2 := by rw [ltU] at *; exact decide_eq_true ((of_decide_eq_true h1).trans (of_decide_eq_true h2))
  ntrans x y z h1 h2 := by
    rw [ltU] at *
    have h3 := of_decide_eq_false h1
    have h4 := of_decide_eq_false h2
    refine decide_eq_false fun h => ?_
    rcases Bet.tri x.val y.val with h5 | h5 | h5
    · exact h3 h5
    · rw [h5] at h; exact h4 h
    · exact h4 (h5.trans h)
theorem cmp_lays (blk off size : Nat) (w : World) : CmpLays1 Tryz.prog 133 #[] encU cfU blk off size w := fun m os dk _ x y => by
  refine (p55 x.val y.val x.isLt y.isLt (sortWorld encU w blk off m dk os)).mono fun e w' he => ?_
  cases e with
  | returned v => exact ⟨by rw [he.1]; rfl, grown_of he.2⟩
  | panicked c => exact he.elim
  | outgrown => exact he.elim
/-- A row of sets of one's own. -/
structure RowU (w : World) (B : Nat) (cur : Array Value) (d : Array U16) : Prop where
  at_ : w.heap[B]? = some (.cells cur 123 (0, 0))
  take : cur.toList.take (d.size * 1) = d.toList.map encU
  le : d.size ≤ cur.size
theorem p73 (d : Array U16) (B cap : Nat) (cur : Array Value) (w : World) (h : RowU w B cur d) (hsz : d.size < 4611686018427387904) : Calls Tryz.prog 132 #[.slice (some ⟨B, 0, none⟩) d.size cap, .func (.func 133) #[] #[]] w (Ret fun _ w' => ∃ d' cur', d'.toList.Perm d.toList ∧ SortedIn (ltOf cfU) 0 d'.size d' ∧ cur'.size = cur.size ∧ RowU w' B cur' d' ∧ Hp w [B] [(B, .cells cur' 123 (0, 0))] w') := by
  have hcon := Any.slices_SortFunc Tryz.sortK encU one_U cfU swo_U 133 #[] B 0 cap d w Tryz.en_133 (cmp_lays B 0 d.size w) (own_holds h.at_ rfl h.take) (Array.getElem?_eq_some_iff.1 h.at_).1 hsz
  refine (show Calls Tryz.prog 132 _ _ _ from hcon).mono fun e w' he => ?_
  obtain ⟨rfl, d', n, os, ⟨hs, _, hp⟩, hso, hw⟩ := he
  have hh := sorted_hp h.at_ hw
  refine ⟨d', _, ?_, by rw [hs]; exact hso, put_size 0 d' cur, ⟨hh.at (i := 0) rfl, ?_, ?_⟩, hh⟩
  · rw [show d'.extract 0 d.size = d' by rw [← hs]; simp, show d.extract 0 d.size = d by simp] at hp
    exact hp
  · rw [Nat.mul_one]; exact put_take (by rw [hs]; exact h.le)
  · rw [put_size, hs]; exact h.le
theorem p73n (p : Option Addr) (cap : Nat) (w : World) : Calls Tryz.prog 132 #[.slice p 0 cap, .func (.func 133) #[] #[]] w (Ret fun _ w' => Ext [] w w') := by
  have hcon := AnyF.slices_SortFunc_none (P := Tryz.prog) (ρ := Tryz.sortK_ren) { Tryz.sortK with } p cap (.func (.func 133) #[] #[]) w
  refine (show Calls Tryz.prog 132 _ _ _ from hcon).mono fun e w' he => ?_
  obtain ⟨rfl, rfl⟩ := he
  exact Ext.refl _ _
theorem eql_U (T : TypeId) : EqlAt Tryz.prog T encU (fun x y => decide (x = y)) := ⟨fun x y w => by
  have h := (EqlAt.intD Tryz.prog T .u64).1 ((x.val : Nat) : Int) ((y.val : Nat) : Int) w
  dsimp only
  rw [show decide (x = y) = decide (((x.val : Nat) : Int) = ((y.val : Nat) : Int)) by rw [decide_eq_decide]; constructor
                                                                                      · intro e; rw [e]
                                                                                      · intro e; exact Fin.ext (by omega)]
  exact h, fun op a b x y w => GuardAt.int Tryz.prog T .u64 op a b _ _ w⟩
theorem neq_U (T : TypeId) : NeqAt Tryz.prog T encU (fun x y => decide (x = y)) := ⟨fun x y w => by
  have h := (NeqAt.intD Tryz.prog T .u64).1 ((x.val : Nat) : Int) ((y.val : Nat) : Int) w
  dsimp only
  rw [show decide (x = y) = decide (((x.val : Nat) : Int) = ((y.val : Nat) : Int)) by rw [decide_eq_decide]; constructor
                                                                                      · intro e; rw [e]
                                                                                      · intro e; exact Fin.ext (by omega)]
  exact h, fun op a b x y w => GuardAt.int Tryz.prog T .u64 op a b _ _ w⟩
theorem p74 (d : Array U16) (B cap : Nat) (cur : Array Value) (w : World) (h : RowU w B cur d) (hc : d.size ≤ cap) (hsz : d.size < 4611686018427387904) : Calls Tryz.prog 134 #[.slice (some ⟨B, 0, none⟩) d.size cap] w (Ret fun v w' => v = .slice (some ⟨B, 0, none⟩) (compactUpTo d d.size).length cap ∧ ∃ cur', Hp w [B] [(B, .cells cur' 123 (0, 0))] w' ∧ ∀ w2 : World, w2.heap[B]? = some (.cells cur' 123 (0, 0)) → UAt w2 (some ⟨B, 0, none⟩) ((compactUpTo d d.size).map Fin.val)) := by
  have hcon := AnyE.slices_Compact Tryz.compactK encU one_U (eql_U _) (neq_U _) (0 : U16) (fun w => Tryz.zeroValue123 w) B 0 cap d w (own_holds h.at_ rfl h.take) (by omega) hc
  refine (show Calls Tryz.prog 134 _ _ _ from hcon).mono fun e w' he => ?_
  obtain ⟨rfl, q, hw⟩ := he
  have hw2 : w' = sortWorld encU w B 0 q (compactUpTo d d.size ++ List.replicate (d.size - (compactUpTo d d.size).length) 0).toArray #[] := by rw [hw]; unfold sortWorld; rw [grow_empty]
  have hh := sorted_hp h.at_ hw2
  have hle : (compactUpTo d d.size).length ≤ d.size := by
    unfold compactUpTo
    rw [List.length_map]
    have := List.length_filter_le (keeps d) (List.range d.size)
    rw [List.length_range] at this
    exact this
  refine ⟨rfl, _, hh, fun w2 hw3 i x hi => ⟨B, 0, _, _, _, rfl, hw3, ?_⟩⟩
  have ht := put_take (enc := encU) (d := (compactUpTo d d.size ++ List.replicate (d.size - (compactUpTo d d.size).length) 0).toArray) (c := cur) (by have := h.le; simp; omega)
  have h1 := congrArg (·[i]?) ht
  have hil := len_of hi
  rw [List.length_map] at hil
  simp only [List.getElem?_take] at h1
  rw [if_pos (by simp; omega)] at h1
  rw [Array.getElem?_toList] at h1
  rw [Int.toNat_natCast, Nat.zero_add, Nat.mul_one, h1]
  rw [List.getElem?_map, List.getElem?_append_left hil]
  rw [List.getElem?_map] at hi
  cases hz : (compactUpTo d d.size)[i]? with
  | none => rw [hz] at hi; cases hi
  | some z => rw [hz] at hi; cases hi; rfl
/-- Compact keeps all, and the head. -/
theorem keeps_all {d : Array U16} : ∀ j, j < d.size → d[j]! ∈ compactUpTo d d.size
  | 0, h => List.mem_map.2 ⟨0, List.mem_filter.2 ⟨List.mem_range.2 h, keeps_lt_one d 0 (by omega)⟩, rfl⟩
  | j + 1, h => by
    cases hk : keeps d (j + 1) with
    | true => exact List.mem_map.2 ⟨j + 1, List.mem_filter.2 ⟨List.mem_range.2 h, hk⟩, rfl⟩
    | false =>
      have h1 : d[j + 1]! = d[j]! := by
        unfold keeps at hk
        have := of_decide_eq_false hk
        refine Decidable.of_not_not fun hn => this (.inr hn)
      rw [h1]
      exact keeps_all j (by omega)
theorem comp_mem {d : Array U16} {x : U16} : x ∈ compactUpTo d d.size ↔ x ∈ d.toList := by
  constructor
  · intro h
    obtain ⟨j, hj, rfl⟩ := List.mem_map.1 h
    have := List.mem_range.1 (List.mem_filter.1 hj).1
    rw [getElem!_pos d j this]
    exact Array.mem_toList_iff.2 (Array.getElem_mem _)
  · intro h
    obtain ⟨j, hj, rfl⟩ := Array.getElem_of_mem (Array.mem_toList_iff.1 h)
    have := keeps_all j hj
    rwa [getElem!_pos d j hj] at this
theorem comp_head {d : Array U16} (h : 0 < d.size) : (compactUpTo d d.size)[0]? = some d[0]! := by
  unfold compactUpTo
  obtain ⟨m, hm⟩ : ∃ m, d.size = m + 1 := ⟨d.size - 1, by omega⟩
  rw [hm, List.range_succ_eq_map, List.filter_cons, if_pos (keeps_lt_one d 0 (by omega))]
  rfl
/-- The sets that a list is sorted to. -/
structure Srt (l l2 : List Nat) : Prop where
  mem : ∀ s, s ∈ l2 ↔ s ∈ l
  hd : ∀ s, l2[0]? = some s → s = bst l
  le : l2.length ≤ l.length
theorem Srt.nil_iff {l l2 : List Nat} (h : Srt l l2) : l2 = [] ↔ l = [] := by
  rw [List.eq_nil_iff_forall_not_mem, List.eq_nil_iff_forall_not_mem]
  exact ⟨fun h1 s hs => h1 s ((h.mem s).2 hs), fun h1 s hs => h1 s ((h.mem s).1 hs)⟩
theorem srt_of {l : List Nat} {d d' : Array U16} (hl : d.toList.map Fin.val = l) (hp : d'.toList.Perm d.toList) (hs : SortedIn (ltOf cfU) 0 d'.size d') : Srt l ((compactUpTo d' d'.size).map Fin.val) := by
  have hm : ∀ s, s ∈ (compactUpTo d' d'.size).map Fin.val ↔ s ∈ l := fun s => by
    rw [← hl, List.mem_map, List.mem_map]
    exact ⟨fun ⟨x, hx, e⟩ => ⟨x, hp.mem_iff.1 (comp_mem.1 hx), e⟩, fun ⟨x, hx, e⟩ => ⟨x, comp_mem.2 (hp.mem_iff.2 hx), e⟩⟩
  refine ⟨hm, fun s h0 => ?_, ?_⟩
  rotate_left
  · have h8 : (compactUpTo d' d'.size).length ≤ d'.size := by
      unfold compactUpTo
      rw [List.length_map]
      have h9 := List.length_filter_le (keeps d') (List.range d'.size)
      rw [List.length_range] at h9
      exact h9
    rw [List.length_map, ← hl, List.length_map, ← hp.length_eq, Array.length_toList]
    exact h8
  have hpos : 0 < d'.size := by
    refine Nat.pos_of_ne_zero fun h => ?_
    have hc := len_of h0
    rw [List.length_map] at hc
    unfold compactUpTo at hc
    rw [h] at hc
    simp at hc
  rw [List.getElem?_map, comp_head hpos] at h0
  cases h0
  refine (bst_uniq ((hm _).1 (List.mem_map.2 ⟨d'[0]!, comp_mem.2 (by rw [getElem!_pos d' 0 hpos]; exact Array.mem_toList_iff.2 (Array.getElem_mem _)), rfl⟩)) fun x hx => ?_).symm
  obtain ⟨y, hy, rfl⟩ := List.mem_map.1 ((hm x).2 hx)
  obtain ⟨j, hj, rfl⟩ := Array.getElem_of_mem (Array.mem_toList_iff.1 (comp_mem.1 hy))
  rcases Nat.eq_zero_or_pos j with rfl | hj0
  · left; rw [getElem!_pos d' 0 hpos]
  · have h1 := hs 0 j (Nat.le_refl _) hj0 hj
    rw [ltU, getElem!_pos d' j hj] at h1
    have h2 := of_decide_eq_false h1
    rcases Bet.tri (d'[0]!).val (d'[j]).val with h3 | h3 | h3
    · exact .inr h3
    · exact .inl h3
    · exact absurd h3 h2
end Go.Proofs.YtccpgpnekoncoaaGreat

namespace Go.ChaM
open Go Go.Sy Go.Proofs.YtccpgpnekoncoaaGreat
def sumF (F : LkD → Int) (l : List LkD) : Int := l.foldl (fun n x => n + F x) 0
theorem foldl_add (F : LkD → Int) : ∀ (l : List LkD) (n : Int), l.foldl (fun n x => n + F x) n = n + sumF F l
  | [], n => by simp [sumF]
  | x :: l, n => by
    have h1 := foldl_add F l (n + F x)
    have h2 := foldl_add F l (0 + F x)
    unfold sumF
    rw [List.foldl_cons, List.foldl_cons, h1, h2]
    omega
theorem sumF_take {F : LkD → Int} {l : List LkD} {i : Nat} {x : LkD} (h : l[i]? = some x) : sumF F (l.take (i + 1)) = sumF F (l.take i) + F x := by
  rw [List.take_add_one, h]
  unfold sumF
  rw [List.foldl_append]; rfl
theorem sumF_bd {F : LkD → Int} {b : Int} : ∀ {l : List LkD}, (∀ x ∈ l, -b ≤ F x ∧ F x ≤ b) → -(b * l.length) ≤ sumF F l ∧ sumF F l ≤ b * l.length
  | [], _ => by simp [sumF]
  | x :: l, h => by
    have h1 := h x (.head _)
    have h2 := sumF_bd (l := l) fun y hy => h y (.tail _ hy)
    have e : sumF F (x :: l) = F x + sumF F l := by
      have := foldl_add F l (0 + F x)
      unfold sumF at this ⊢
      rw [List.foldl_cons, this]; omega
    rw [e, List.length_cons]
    have e2 : b * ((l.length + 1 : Nat) : Int) = b * l.length + b := by rw [Int.natCast_add, Int.mul_add]; omega
    omega
theorem sumF_H (c : ChD) (a : Bool) : ∀ l, sumF (lkH c a) l = sumH c a l
  | [] => rfl
  | x :: l => by
    have := foldl_add (lkH c a) l (0 + lkH c a x)
    unfold sumF
    rw [List.foldl_cons, this, sumF_H c a l, sumH]; omega
theorem sumF_L (c : ChD) (a : Bool) : ∀ l, sumF (lkL c a) l = sumL c a l
  | [] => rfl
  | x :: l => by
    have := foldl_add (lkL c a) l (0 + lkL c a x)
    unfold sumF
    rw [List.foldl_cons, this, sumF_L c a l, sumL]; omega
theorem setW_snoc (w : List LkD) (x : LkD) : setW (w ++ [x]) = setW w ||| 2 ^ x.i := by
  induction w with
  | nil =>
    show 2 ^ x.i ||| 0 = 0 ||| 2 ^ x.i
    rw [Nat.or_zero, Nat.zero_or]
  | cons y w ih => rw [List.cons_append, setW, ih, setW, Nat.or_assoc]
theorem setW_take {w : List LkD} {i : Nat} {x : LkD} (h : w[i]? = some x) : setW (w.take (i + 1)) = setW (w.take i) ||| 2 ^ x.i := by
  rw [List.take_add_one, h]
  exact setW_snoc _ _
theorem setW_lt {w : List LkD} {n : Nat} (h : ∀ l ∈ w, l.i < n) : setW w < 2 ^ n := by
  induction w with
  | nil => exact Nat.two_pow_pos n
  | cons y w ih =>
    rw [setW]
    exact Nat.or_lt_two_pow (Nat.pow_lt_pow_right (by omega) (h y (.head _))) (ih fun l hl => h l (.tail _ hl))
/-- What one circle gives, by the first axes. -/
def wrA (c : ChD) (w : List LkD) (i : Nat) : List Nat := (if 0 < i ∧ badW c false w = true then [setW w] else []) ++ (if 1 < i ∧ badW c true w = true then [setW w] else [])
theorem wrA_zero (c : ChD) (w : List LkD) : wrA c w 0 = [] := rfl
def axB (i : Nat) : Bool := decide (i = 1)
theorem wrA_put {c : ChD} {w : List LkD} {i : Nat} (hi : i < 2) (h : badW c (axB i) w = true) : wrA c w (i + 1) = wrA c w i ++ [setW w] := by
  unfold wrA
  rcases (show i = 0 ∨ i = 1 by omega) with rfl | rfl
  · have h : badW c false w = true := h
    simp [h]
  · have h : badW c true w = true := h
    simp [h]
theorem wrA_no {c : ChD} {w : List LkD} {i : Nat} (hi : i < 2) (h : badW c (axB i) w = false) : wrA c w (i + 1) = wrA c w i := by
  unfold wrA
  rcases (show i = 0 ∨ i = 1 by omega) with rfl | rfl
  · have h : badW c false w = false := h
    simp [h]
  · have h : badW c true w = false := h
    simp [h]
def wrT (c : ChD) (k : Nat) : List Nat := ((cirL c).take k).flatMap fun w => wrA c w 2
theorem wrT_succ {c : ChD} {k : Nat} {w : List LkD} (h : (cirL c)[k]? = some w) : wrT c (k + 1) = wrT c k ++ wrA c w 2 := by
  unfold wrT
  rw [List.take_add_one, h, List.flatMap_append]
  simp
theorem wrT_all (c : ChD) : wrT c (cirL c).length = wrL c := by
  unfold wrT wrL
  rw [List.take_length]
  have : (fun w => wrA c w 2) = fun w => (if badW c false w then [setW w] else []) ++ (if badW c true w then [setW w] else []) := by
    funext w; unfold wrA; simp
  rw [this]
theorem wrA_len (c : ChD) (w : List LkD) (i : Nat) : (wrA c w i).length ≤ 2 := by
  unfold wrA
  rw [List.length_append]
  have h1 : (if 0 < i ∧ badW c false w = true then [setW w] else []).length ≤ 1 := by split <;> simp
  have h2 : (if 1 < i ∧ badW c true w = true then [setW w] else []).length ≤ 1 := by split <;> simp
  omega
theorem wrT_len (c : ChD) : ∀ k, (wrT c k).length ≤ 2 * (cirL c).length := fun k => by
  have h : ∀ (L : List (List LkD)), (L.flatMap fun w => wrA c w 2).length ≤ 2 * L.length := fun L => by
    induction L with
    | nil => simp
    | cons x L ih =>
      rw [List.flatMap_cons, List.length_append, List.length_cons]
      have := wrA_len c x 2
      omega
  have h1 := h ((cirL c).take k)
  have h2 := List.length_take_le k (cirL c)
  unfold wrT
  rw [List.length_take] at h1
  omega
/-- There are not too many circles. -/
theorem fm_len {α β : Type} {f : α → List β} {m : Nat} : ∀ {l : List α}, (∀ x ∈ l, (f x).length ≤ m) → (l.flatMap f).length ≤ l.length * m
  | [], _ => by simp
  | x :: l, h => by
    rw [List.flatMap_cons, List.length_append, List.length_cons, Nat.add_mul]
    have h1 := h x (.head _)
    have h2 := fm_len (l := l) fun y hy => h y (.tail _ hy)
    omega
theorem cirN_len {c : ChD} (hO : ChOk c) {b : Nat} : ∀ (f at_ ps : Nat) (way : List LkD), (cirN c b f at_ ps way).length ≤ 10 ^ f
  | 0, _, _, _ => Nat.zero_le _
  | f + 1, at_, ps, way => by
    rw [cirN_eq, Nat.pow_succ, Nat.mul_comm]
    have h1 := fm_len (f := stepC c b f ps way) (m := 10 ^ f) (l := lks c at_) fun l _ => by
      unfold stepC
      have hp : 1 ≤ 10 ^ f := Nat.one_le_pow _ _ (by omega)
      split
      · exact Nat.zero_le _
      · split
        · exact hp
        · split
          · exact Nat.zero_le _
          · exact cirN_len hO f _ _ _
    have h2 := lks_len c at_
    have h3 := hO.l
    exact Nat.le_trans h1 (Nat.mul_le_mul_right _ (by omega))
theorem cirL_len {c : ChD} (hO : ChOk c) : (cirL c).length ≤ 800000000 := by
  have h1 := fm_len (f := fun b => cirN c b c.n.toNat b (2 ^ b) []) (m := 10 ^ 8) (l := List.range c.n.toNat) fun b _ => Nat.le_trans (cirN_len hO _ _ _ _) (Nat.pow_le_pow_right (by omega) (by have := hO.n2; omega))
  rw [List.length_range] at h1
  have h2 := hO.n2
  have h3 : c.n.toNat * 10 ^ 8 ≤ 8 * 10 ^ 8 := Nat.mul_le_mul_right _ (by omega)
  exact Nat.le_trans h1 h3
def usv (l : List Nat) : List Value := l.map fun x => .int .u64 ((x : Nat) : Int)
theorem usv_app (l m : List Nat) : usv (l ++ m) = usv l ++ usv m := List.map_append
theorem wrT_lt {c : ChD} (hO : ChOk c) {k x : Nat} (h : x ∈ wrT c k) : x < 65536 := by
  have h1 : x ∈ wrT c (cirL c).length := by
    unfold wrT at h ⊢
    rw [List.take_length]
    obtain ⟨w, hw, hx⟩ := List.mem_flatMap.1 h
    exact List.mem_flatMap.2 ⟨w, List.mem_of_mem_take hw, hx⟩
  rw [wrT_all] at h1
  have h2 := (wr_lt h1).1
  have h3 : 2 ^ c.si.length ≤ 2 ^ 10 := Nat.pow_le_pow_right (by omega) hO.l
  omega
theorem cir_len {c : ChD} {w : List LkD} (h : w ∈ cirL c) : w.length ≤ c.n.toNat := by
  unfold cirL at h
  obtain ⟨b, _, h2⟩ := List.mem_flatMap.1 h
  obtain ⟨tl, h3, h4, _⟩ := cirN_mem.1 h2
  rw [h4, List.nil_append]; exact h3
end Go.ChaM

namespace Go.Proofs.YtccpgpnekoncoaaGreat
open Go Go.Sy Go.ChaM
theorem p71 (Bv : Nat) (c : ChD) (sa : Option Addr) (cp : Nat) (l : LkD) (s : SiD) (ax : Bool) (B1 B5 : Nat) (u : World) (hV : VAt u Bv c sa cp) (hO : ChOk c) (hs : c.si[l.i]? = some s) (h1 : u.heap[B1]? = some (.cells #[ptr Bv 0] 112 (0, 0))) (h5 : u.heap[B5]? = some (.cells (axC ax) 116 (0, 0))) : Calls Tryz.prog 129 #[lkV l, ptr B1 0, ptr B5 0] u (Ret fun v w' => v = .int .i64 (lkL c ax l) ∧ Ext [] u w') := by
  refine calls_of Tryz.func129 rfl rfl (fun a hf => ?_)
  have hh := Hp.init u []
  refine sy_sq ?_
  refine o_box hf hh ?_; clear hf hh a; intro B3 a w hf hh
  refine o_v hf hh (yv_assign rfl) ?_; clear hf a; intro a hf
  refine o_end ?_
  refine sy_sq ?_
  refine o_v hf hh (y_ld Tryz.sc_112 rfl) ?_; clear hf a; intro a hf
  refine o_v hf hh (y_lds Tryz.ag_173 rfl) ?_; clear hf a; intro a hf
  refine o_v hf hh (y_lds Tryz.ag_116 rfl) ?_; clear hf a; intro a hf
  refine o_call hf Tryz.en_130 rfl rfl rfl (p68 Bv c sa cp l s ax _ (hV.ext hh.ext) hO hs) ?_; clear hf a; intro v a w hR hf
  obtain ⟨rfl, hx⟩ := hR; replace hh := hh.more hx; clear hx
  refine o_v hf hh (yv_fieldS Tryz.fs_49_0 rfl rfl) ?_; clear hf a; intro a hf
  refine o_v hf hh (yv_assign rfl) ?_; clear hf a; intro a hf
  refine o_end ?_
  refine sy_ret ?_
  refine ret_r hf rfl rfl ?_
  exact ⟨rfl, hh.ext⟩
theorem p72 (Bv : Nat) (c : ChD) (sa : Option Addr) (cp : Nat) (l : LkD) (s : SiD) (ax : Bool) (B1 B5 : Nat) (u : World) (hV : VAt u Bv c sa cp) (hO : ChOk c) (hs : c.si[l.i]? = some s) (h1 : u.heap[B1]? = some (.cells #[ptr Bv 0] 112 (0, 0))) (h5 : u.heap[B5]? = some (.cells (axC ax) 116 (0, 0))) : Calls Tryz.prog 131 #[lkV l, ptr B1 0, ptr B5 0] u (Ret fun v w' => v = .int .i64 (lkH c ax l) ∧ Ext [] u w') := by
  refine calls_of Tryz.func131 rfl rfl (fun a hf => ?_)
  have hh := Hp.init u []
  refine sy_sq ?_
  refine o_box hf hh ?_; clear hf hh a; intro B3 a w hf hh
  refine o_v hf hh (yv_assign rfl) ?_; clear hf a; intro a hf
  refine o_end ?_
  refine sy_sq ?_
  refine o_v hf hh (y_ld Tryz.sc_112 rfl) ?_; clear hf a; intro a hf
  refine o_v hf hh (y_lds Tryz.ag_173 rfl) ?_; clear hf a; intro a hf
  refine o_v hf hh (y_lds Tryz.ag_116 rfl) ?_; clear hf a; intro a hf
  refine o_call hf Tryz.en_130 rfl rfl rfl (p68 Bv c sa cp l s ax _ (hV.ext hh.ext) hO hs) ?_; clear hf a; intro v a w hR hf
  obtain ⟨rfl, hx⟩ := hR; replace hh := hh.more hx; clear hx
  refine o_v hf hh (yv_fieldS Tryz.fs_49_1 rfl rfl) ?_; clear hf a; intro a hf
  refine o_v hf hh (yv_assign rfl) ?_; clear hf a; intro a hf
  refine o_end ?_
  refine sy_ret ?_
  refine ret_r hf rfl rfl ?_
  exact ⟨rfl, hh.ext⟩
theorem p70 (F : LkD → Int) (l : List LkD) (sb : Option Addr) (cb : Nat) (f : Nat) (fcs : Array Value) (u : World) (hW : TAt 3 lkC u sb l) (hl : l.length ≤ 100) (hE : Enters Tryz.prog f) (hF : ∀ x ∈ l, -1073741824 ≤ F x ∧ F x ≤ 1073741824) (hcall : ∀ (x : LkD), x ∈ l → ∀ (w1 : World), Ext [] u w1 → Calls Tryz.prog f (#[] ++ [lkV x].toArray ++ fcs) w1 (Ret fun v w'' => v = .int .i64 (F x) ∧ Ext [] w1 w'')) : Calls Tryz.prog 128 #[.func (.func f) #[] fcs, .slice sb l.length cb] u (Ret fun v w' => v = .int .i64 (sumF F l) ∧ Ext [] u w') := by
  refine calls_of Tryz.func128 rfl rfl (fun a hf => ?_)
  have hh := Hp.init u []
  refine sy_sq ?_
  refine o_v hf hh (yv_assign rfl) ?_; clear hf a; intro a hf
  refine o_end ?_
  refine sy_seq ?_
  refine sy_sq ?_
  refine o_v hf hh (yv_move rfl) ?_; clear hf a; intro a hf
  refine o_v hf hh (yv_len Tryz.se_171 rfl) ?_; clear hf a; intro a hf
  refine o_v hf hh (yv_move rfl) ?_; clear hf a; intro a hf
  refine o_end ?_
  refine sy_block ?_
  refine sy_loopF (σ := Nat) [4, 6, 9, 10, 11, 12, 13, 14, 15, 16, 17, 18] (fun i => [(9, .int .i64 (i : Nat)), (4, .int .i64 (sumF F (l.take i)))]) (fun i => i ≤ l.length) (fun i => l.length - i) (0) hf hh ?_ ?_ ?_
  · repeat' (first | exact True.intro | refine And.intro rfl ?_)
  · exact Nat.zero_le _
  ·rintro i a w hi hf hh
   refine sy_sq ?_
   refine o_v hf hh (yv_bin rfl rfl rfl) ?_; clear hf a; intro a hf
   refine o_end ?_
   refine sy_seq ?_
   refine sy_cond hf rfl (fun hg2 => ?_) (fun hg2 => ?_)
   ·have hG2 := hg2; try simp only [gS] at hG2
    refine sy_skip ?_
    refine then_n ?_
    refine sy_seq ?_
    refine sy_block ?_
    refine sy_seq ?_
    obtain ⟨m, hm⟩ := ex_of (l := l) (i := i) (by omega)
    obtain ⟨blk, off, cc, T, fr, e, hb, hc⟩ := hW i m hm; subst e
    have hFm := hF m (List.mem_of_getElem? hm)
    have hb1 := sumF_bd (F := F) (b := 1073741824) (l := l.take i) (fun x hx => hF x (List.mem_of_mem_take hx))
    have hb2 : (1073741824 : Int) * ((l.take i).length : Int) ≤ 1073741824 * 100 := Int.mul_le_mul_of_nonneg_left (by rw [List.length_take]; omega) (by omega)
    refine sy_ops ?_
    refine o_v hf hh (y_ix Tryz.se_171 rfl rfl) ?_; clear hf a; intro a hf
    refine o_v hf hh (y_lds Tryz.ag_173 rfl) ?_; clear hf a; intro a hf
    refine o_alloc hf hh Tryz.ze_173 ?_; clear hf hh a; intro B6 a w hf hh
    refine o_store hf hh Tryz.sz_173 fun w hh => ?_
    refine o_end ?_
    refine sy_ops ?_
    refine o_v hf hh (yv_move rfl) ?_; clear hf a; intro a hf
    refine o_v hf hh (yv_move rfl) ?_; clear hf a; intro a hf
    refine o_v hf hh (y_lds Tryz.ag_173 rfl) ?_; clear hf a; intro a hf
    refine o_call hf hE rfl rfl rfl (hcall m (List.mem_of_getElem? hm) _ hh.ext) ?_; clear hf a; intro v a w hR hf
    obtain ⟨rfl, hx⟩ := hR; replace hh := hh.more hx; clear hx
    refine o_v hf hh (y_add rfl rfl) ?_; clear hf a; intro a hf
    refine o_v hf hh (yv_assign rfl) ?_; clear hf a; intro a hf
    refine ops_end ?_
    refine blk_n ?_
    refine then_n ?_
    refine sy_ops ?_
    refine o_v hf hh (y_add rfl rfl) ?_; clear hf a; intro a hf
    refine o_v hf hh (yv_move rfl) ?_; clear hf a; intro a hf
    refine ops_end ?_
    refine then_n ?_
    exact ⟨i + 1, ⟨by omega, hf.head ⟨rfl, congrArg some (intv (sumF_take hm).symm), True.intro⟩ (Keep.cons rfl (Keep.cons rfl (Keep.cons rfl (Keep.cons rfl (Keep.cons rfl (Keep.cons rfl (Keep.cons rfl (Keep.cons rfl (Keep.cons rfl (Keep.cons rfl (Keep.cons rfl (Keep.cons rfl (Keep.app rfl (Keep.rm rfl Keep.base)))))))))))))), hh.less (.cons _ (List.Sublist.refl _))⟩, by omega⟩
   ·have hG2 := hg2; try simp only [gS] at hG2
    refine sy_exit ?_
    refine then_e ?_
    refine then_e ?_
    refine blk_e ?_
    refine then_n ?_
    refine sy_sq ?_
    refine o_v hf hh (yv_move rfl) ?_; clear hf a; intro a hf
    refine o_v hf hh (yv_assign rfl) ?_; clear hf a; intro a hf
    refine o_end ?_
    refine sy_ret ?_
    refine ret_r hf rfl rfl ?_
    obtain rfl : i = l.length := by omega
    exact ⟨by rw [List.take_length]; rfl, hh.ext⟩
theorem axs_at (i : Nat) (hi : i < 2) : (Value.agg ((#[.func (.func 94) #[] #[], .func (.func 95) #[] #[]] : Array Value).extract (((i : Nat) : Int).toNat * 1) (((i : Nat) : Int).toNat * 1 + 1))) = axV (axB i) := by
  rcases (show i = 0 ∨ i = 1 by omega) with rfl | rfl <;> rfl
theorem bad_iff {c : ChD} {a : Bool} {w : List LkD} : badW c a w = (decide (0 < sumF (lkL c a) w) || decide (sumF (lkH c a) w < 0)) := by rw [sumF_L, sumF_H]; rfl
end Go.Proofs.YtccpgpnekoncoaaGreat

namespace Go.Proofs.YtccpgpnekoncoaaGreat
open Go Go.Sy Go.ChaM Go.Proofs Go.Sort Go.Lib
theorem p74e (sa : Option Addr) (n ca : Nat) (w : World) (hn : n < 2) : Calls Tryz.prog 134 #[.slice sa n ca] w (Ret fun v w' => v = .slice sa n ca ∧ Ext [] w w') := by
  refine calls_of Tryz.func134 rfl rfl (fun a hf => ?_)
  have hh := Hp.init w []
  refine sy_sq ?_
  refine o_v hf hh (yv_assign rfl) ?_; clear hf a; intro a hf
  refine o_end ?_
  refine sy_seq ?_
  refine sy_sq ?_
  refine o_v hf hh (yv_move rfl) ?_; clear hf a; intro a hf
  refine o_v hf hh (yv_len Tryz.se_174 rfl) ?_; clear hf a; intro a hf
  have hn2 : decide (((n : Nat) : Int) < 2) = true := decide_eq_true (by omega)
  refine o_v hf hh (yv_bin rfl rfl rfl) ?_; clear hf a; intro a hf
  refine o_end ?_
  refine c_t hf ?_
  refine sy_sq ?_
  refine o_v hf hh (yv_move rfl) ?_; clear hf a; intro a hf
  refine o_v hf hh (yv_assign rfl) ?_; clear hf a; intro a hf
  refine o_end ?_
  refine sy_ret ?_
  refine then_r ?_
  refine ret_r hf rfl rfl ?_
  exact ⟨rfl, hh.ext⟩
def toU (l : List Nat) : Array U16 := (l.map (Fin.ofNat 65536)).toArray
theorem toU_size (l : List Nat) : (toU l).size = l.length := by simp [toU]
theorem toU_val {l : List Nat} (h : ∀ x ∈ l, x < 65536) : (toU l).toList.map Fin.val = l := by
  unfold toU
  rw [List.map_map]
  have : l.map (Fin.val ∘ Fin.ofNat 65536) = l.map id := List.map_congr_left fun x hx => Nat.mod_eq_of_lt (h x hx)
  rw [this, List.map_id]
theorem toU_enc {l : List Nat} (h : ∀ x ∈ l, x < 65536) : (toU l).toList.map encU = usv l := by
  conv => rhs; rw [← toU_val h]
  unfold usv
  rw [List.map_map]; rfl
theorem p73c (l : List Nat) (hl : ∀ x ∈ l, x < 65536) {v : Value} {m : Nat} {X : List (Nat × Obj)} {w : World} (hO : OwnSl 123 1 v m (usv l) X) (hm : m = l.length) (hX : ∀ q ∈ X, w.heap[q.1]? = some q.2) (hlen : l.length < 4611686018427387904) : Calls Tryz.prog 132 #[v, .func (.func 133) #[] #[]] w (Ret fun _ w' => ∃ d' X', OwnSl 123 1 v m (d'.toList.map encU) X' ∧ d'.size = l.length ∧ d'.toList.Perm (toU l).toList ∧ SortedIn (ltOf cfU) 0 d'.size d' ∧ Hp w (X.map Prod.fst) X' w') := by
  rcases hO.2 with ⟨rfl, rfl, rfl⟩ | ⟨B, cap, cur, rfl, rfl, h3, h4, h5, h6⟩
  · refine (p73n none 0 w).mono fun e w' he => ?_
    cases e with
    | returned v =>
      have hl0 : l = [] := List.eq_nil_of_length_eq_zero hm.symm
      subst hl0
      exact ⟨#[], [], OwnSl.nil _ _, rfl, List.Perm.refl _, fun i j _ hij hj => by simp at hj, (Hp.init w []).more he⟩
    | panicked c => exact he.elim
    | outgrown => exact he.elim
  · subst hm
    have hat := hX _ (.head _)
    have hro : RowU w B cur (toU l) := ⟨hat, by rw [toU_size, toU_enc hl]; exact h6, by rw [toU_size, h5]; omega⟩
    have h := p73 (toU l) B cap cur w hro (by rw [toU_size]; exact hlen)
    rw [toU_size] at h
    refine h.mono fun e w' he => ?_
    cases e with
    | returned v =>
      obtain ⟨d', cur', hp, hs, hsz, hr, hh⟩ := he
      have hd : d'.size = l.length := by rw [← toU_size l, ← Array.length_toList, ← Array.length_toList, hp.length_eq]
      refine ⟨d', [(B, .cells cur' 123 (0, 0))], ⟨by rw [List.length_map, Array.length_toList, hd, Nat.mul_one], .inr ⟨B, cap, cur', rfl, rfl, h3, h4, by rw [hsz, h5], ?_⟩⟩, hd, hp, hs, hh⟩
      have := hr.take
      rw [hd] at this
      exact this
    | panicked c => exact he.elim
    | outgrown => exact he.elim
theorem p74c (l : List Nat) (hl : ∀ x ∈ l, x < 65536) {d' : Array U16} {v : Value} {m : Nat} {X : List (Nat × Obj)} {w : World} (hO : OwnSl 123 1 v m (d'.toList.map encU) X) (hm : d'.size = m) (hp : d'.toList.Perm (toU l).toList) (hs : SortedIn (ltOf cfU) 0 d'.size d') (hX : ∀ q ∈ X, w.heap[q.1]? = some q.2) (hlen : l.length < 4611686018427387904) (hml : m = l.length) : Calls Tryz.prog 134 #[v] w (Ret fun r w' => ∃ l2 sb cb X2, r = .slice sb l2.length cb ∧ (∀ w2 : World, (∀ q ∈ X2, w2.heap[q.1]? = some q.2) → UAt w2 sb l2) ∧ Srt l l2 ∧ Hp w (X.map Prod.fst) X2 w') := by
  rcases hO.2 with ⟨rfl, rfl, rfl⟩ | ⟨B, cap, cur, rfl, rfl, h3, h4, h5, h6⟩
  · refine (p74e none 0 0 w (by omega)).mono fun e w' he => ?_
    cases e with
    | returned v =>
      have hl0 : l = [] := List.eq_nil_of_length_eq_zero hml.symm
      subst hl0
      exact ⟨[], none, 0, [], he.1, fun _ _ i x h => by simp at h, ⟨fun s => Iff.rfl, fun s h => by simp at h, Nat.le_refl _⟩, (Hp.init w []).more he.2⟩
    | panicked c => exact he.elim
    | outgrown => exact he.elim
  · subst hm
    have hat := hX _ (.head _)
    have hro : RowU w B cur d' := ⟨hat, h6, by omega⟩
    refine (p74 d' B cap cur w hro h3 (by omega)).mono fun e w' he => ?_
    cases e with
    | returned r =>
      obtain ⟨rfl, cur', hx, hu⟩ := he
      exact ⟨_, _, _, _, by rw [List.length_map], fun w2 h2 => hu w2 (h2 _ (.head _)), srt_of (toU_val hl) hp hs, hx⟩
    | panicked c => exact he.elim
    | outgrown => exact he.elim
end Go.Proofs.YtccpgpnekoncoaaGreat

namespace Go.Proofs.YtccpgpnekoncoaaGreat
open Go Go.Sy Go.ChaM
set_option maxRecDepth 100000 in
set_option maxHeartbeats 4000000 in
theorem p53 (Bv : Nat) (c : ChD) (sa : Option Addr) (cp : Nat) (u : World) (hV : VAt u Bv c sa cp) (hO : ChOk c) : Calls Tryz.prog 93 #[ptr Bv 0] u (Ret fun v w' => ∃ l2 sb cb X9, v = .slice sb l2.length cb ∧ (∀ w2 : World, (∀ q ∈ X9, w2.heap[q.1]? = some q.2) → UAt w2 sb l2) ∧ Srt (wrL c) l2 ∧ Hp u [] X9 w') := by
  refine calls_ofM Tryz.func93 rfl rfl (fun a hf => ?_)
  have hh := Hp.init u []
  have hn2 := hO.n2; have hl10 := hO.l; have hcl := cirL_len hO
  refine sy_sq ?_
  refine o_box hf hh ?_; clear hf hh a; intro B1 a w hf hh
  refine o_alloc hf hh Tryz.ze_174 ?_; clear hf hh a; intro B2 a w hf hh
  refine o_end ?_
  refine sy_seq ?_
  refine sy_sq ?_
  refine o_v hf hh (y_ld Tryz.sc_112 rfl) ?_; clear hf a; intro a hf
  refine o_call hf Tryz.en_127 rfl rfl rfl (p69 Bv _) ?_; clear hf a; intro v a w hR hf
  obtain ⟨Bi, rfl, hx⟩ := hR; replace hh := hh.join hx; clear hx
  have hq : Hp u [] [(Bi, .cells #[ptr Bv 0] 112), (B2, .cells #[.slice none 0 0] 174), (B1, .cells #[ptr Bv 0] 112)] w := hh
  replace hh := hq.less (.cons _ (.refl _))
  refine o_end ?_
  refine sy_block ?_
  refine sy_rangeRH (I := fun k H => ∃ v X, OwnSl 123 1 v (wrT c k).length (usv (wrT c k)) X ∧ H = [(B2, .cells #[v] 174), (B1, .cells #[ptr Bv 0] 112)] ++ X) (X := fun _ _ _ => False) hf hh Tryz.en_148 rfl (it84 hV hO Bi) (fun x hx => by cases hx) rfl WayAt.size ?_ ?_ ?_ ?_ ?_ ?_
  · exact ⟨.slice none 0 0, [], OwnSl.nil _ _, rfl⟩
  · intro N1 w1 e1 g1
    have h1 := (Hp.held (X := [(B2, .cells #[.slice none 0 0] 174), (B1, .cells #[ptr Bv 0] 112)]) (is := [1, 2]) hq rfl [0])
    refine ⟨hh.ext.trans e1, fun x hx => ?_, (h1.sub fun q hq => by simpa using hq).step (e1.mono (by simp)) g1⟩
    rcases g1 x hx with h2 | h2
    · exact hh.fresh x h2
    · exact Nat.le_trans hh.ext.size h2
  ·rintro k wy x fn D l H w a tm hx hat ⟨v, X, hOv, rfl⟩ hfr hv hh hf
   obtain ⟨sb, cb, rfl, hoff⟩ := hat
   obtain ⟨w9, rfl⟩ : ∃ z, z = w := ⟨_, rfl⟩
   have hfr2 : ∀ y ∈ (l :: D :: ([(B2, Obj.cells #[v] 174), (B1, Obj.cells #[ptr Bv 0] 112)] ++ X).map Prod.fst), u.heap.size ≤ y := fun y hy => (hfr y hy).resolve_left (by simp)
   have hWt : ∀ {w'}, Ext (l :: D :: ([(B2, Obj.cells #[v] 174), (B1, Obj.cells #[ptr Bv 0] 112)] ++ X).map Prod.fst) w9 w' → TAt 3 lkC w' sb wy := fun e => (hoff.step e (.refl _ _)).at
   have hVw : ∀ {w'}, Ext (l :: D :: ([(B2, Obj.cells #[v] 174), (B1, Obj.cells #[ptr Bv 0] 112)] ++ X).map Prod.fst) w9 w' → VAt w' Bv c sa cp := fun e => hV.ext (Ext.over hv.ext e hfr2)
   have hwm := List.mem_of_getElem? hx
   have hwl := cir_len hwm
   obtain ⟨hwne, hix⟩ := cir_of_mem hwm
   have hsx : ∀ x ∈ wy, ∃ s, c.si[x.i]? = some s := fun x hx => ex_of (hix x hx)
   have hsucc := wrT_succ hx
   refine sy_ops ?_
   refine o_v hf hh (yv_assign rfl) ?_; clear hf a; intro a hf
   refine ops_end ?_
   refine then_n (Go.Sy.begun (i := 0) hh rfl fun w hh => ?_)
   refine sy_block ?_
   refine sy_seq ?_
   obtain ⟨ol, hol, hh⟩ := Hp.name (A := []) hh
   replace hh : Hp w9 (l :: D :: ([(B2, Obj.cells #[v] 174), (B1, Obj.cells #[ptr Bv 0] 112)] ++ X).map Prod.fst) ([(l, ol), (D, .deferred (some [])), (B2, .cells #[v] 174), (B1, .cells #[ptr Bv 0] 112)] ++ X) w := hh
   refine sy_ops ?_
   refine o_call hf Tryz.en_63 rfl rfl rfl (p44 _) ?_; clear hf a; intro v a w hR hf
   obtain ⟨rfl, hx⟩ := hR; replace hh := hh.more hx; clear hx
   refine o_v hf hh (yv_move rfl) ?_; clear hf a; intro a hf
   refine o_end ?_
   refine sy_block ?_
   refine sy_loopH (σ := Nat × Value × List (Nat × Obj)) [5, 6, 7, 8, 10, 15, 16, 17, 18, 19, 20, 21, 22, 23, 24, 25, 26, 27, 28, 29, 30, 31, 32, 33, 34, 35, 36, 37, 38, 39, 40, 41, 42, 43, 44, 45, 46] (fun q => [(15, .int .i64 (q.1 : Nat))]) (fun q => fun w' => q.1 ≤ 2 ∧ OwnSl 123 1 q.2.1 (wrT c k ++ wrA c wy q.1).length (usv (wrT c k ++ wrA c wy q.1)) q.2.2 ∧ Hp w9 (l :: D :: ([(B2, Obj.cells #[v] 174), (B1, Obj.cells #[ptr Bv 0] 112)] ++ X).map Prod.fst) ([(l, ol), (D, .deferred (some [])), (B2, .cells #[q.2.1] 174), (B1, .cells #[ptr Bv 0] 112)] ++ q.2.2) w') (fun q => 2 - q.1) ((0, v, X)) hf ?_ ?_ ?_
   · repeat' (first | exact True.intro | refine And.intro rfl ?_)
   · exact ⟨Nat.zero_le _, by rw [wrA_zero, List.append_nil]; exact hOv, hh⟩
   ·rintro q a w ⟨hi, hO2, hh⟩ hf
    obtain ⟨i, v2, X2⟩ := q; simp only at hi hO2 hh hf ⊢
    refine sy_sq ?_
    refine o_v hf hh (yv_bin rfl rfl rfl) ?_; clear hf a; intro a hf
    refine o_end ?_
    refine sy_seq ?_
    refine sy_cond hf rfl (fun hg5 => ?_) (fun hg5 => ?_)
    ·have hG5 := hg5; try simp only [gS] at hG5
     refine sy_skip ?_
     refine then_n ?_
     refine sy_seq ?_
     refine sy_block ?_
     refine sy_seq ?_
     have hi2 : i < 2 := by omega
     have hlbs : ∀ x ∈ wy, (-1073741824 ≤ lkH c (axB i) x ∧ lkH c (axB i) x ≤ 1073741824) ∧ -1073741824 ≤ lkL c (axB i) x ∧ lkL c (axB i) x ≤ 1073741824 := fun x hx => by obtain ⟨s, hs⟩ := hsx x hx; exact lkH_bd hO (axB i) hs
     refine sy_ops ?_
     refine o_v hf hh (yv_cast (yv_idxA Tryz.ae_117 Tryz.ag_116 rfl rfl) (axs_at i hi2)) ?_; clear hf a; intro a hf
     refine o_alloc hf hh Tryz.ze_116 ?_; clear hf hh a; intro B5 a w hf hh
     refine o_store hf hh Tryz.sz_116 fun w hh => ?_
     refine o_end ?_
     refine sy_seq ?_
     replace hh : Hp w9 (l :: D :: ([(B2, Obj.cells #[v] 174), (B1, Obj.cells #[ptr Bv 0] 112)] ++ X).map Prod.fst) ([(B5, .cells (axC (axB i)) 116), (l, ol), (D, .deferred (some [])), (B2, .cells #[v2] 174), (B1, .cells #[ptr Bv 0] 112)] ++ X2) w := hh
     refine sy_ops ?_
     refine o_v hf hh (yv_makeFunc rfl rfl) ?_; clear hf a; intro a hf
     refine o_v hf hh (yv_move rfl) ?_; clear hf a; intro a hf
     refine o_call hf Tryz.en_128 rfl rfl rfl (p70 (lkL c (axB i)) wy sb cb 129 #[ptr B1 0, ptr B5 0] _ (hWt hh.ext) (by omega) Tryz.en_129 (fun x hx => (hlbs x hx).2) (fun x hx w1 e => by obtain ⟨s, hs⟩ := hsx x hx; exact p71 Bv c sa cp x s (axB i) B1 B5 w1 ((hVw hh.ext).ext e) hO hs (e.get (hh.at (i := 4) rfl)) (e.get (hh.at (i := 0) rfl)))) ?_; clear hf a; intro v a w hR hf
     obtain ⟨rfl, hx⟩ := hR; replace hh := hh.more hx; clear hx
     refine o_v hf hh (yv_assign rfl) ?_; clear hf a; intro a hf
     refine o_end ?_
     refine sy_sq ?_
     refine o_v hf hh (yv_makeFunc rfl rfl) ?_; clear hf a; intro a hf
     refine o_v hf hh (yv_move rfl) ?_; clear hf a; intro a hf
     refine o_call hf Tryz.en_128 rfl rfl rfl (p70 (lkH c (axB i)) wy sb cb 131 #[ptr B1 0, ptr B5 0] _ (hWt hh.ext) (by omega) Tryz.en_131 (fun x hx => (hlbs x hx).1) (fun x hx w1 e => by obtain ⟨s, hs⟩ := hsx x hx; exact p72 Bv c sa cp x s (axB i) B1 B5 w1 ((hVw hh.ext).ext e) hO hs (e.get (hh.at (i := 4) rfl)) (e.get (hh.at (i := 0) rfl)))) ?_; clear hf a; intro v a w hR hf
     obtain ⟨rfl, hx⟩ := hR; replace hh := hh.more hx; clear hx
     refine o_v hf hh (yv_assign rfl) ?_; clear hf a; intro a hf
     refine o_end ?_
     refine sy_seq ?_
     have hbf : badW c (axB i) wy = (decide (0 < sumF (lkL c (axB i)) wy) || decide (sumF (lkH c (axB i)) wy < 0)) := bad_iff
     refine sy_ops ?_
     refine o_v hf hh (yv_move rfl) ?_; clear hf a; intro a hf
     refine o_v hf hh (yv_bin rfl rfl rfl) ?_; clear hf a; intro a hf
     refine o_v hf hh (yv_move rfl) ?_; clear hf a; intro a hf
     refine guard_split hf (t := 26) rfl (fun hg10 => ?_) (fun hg10 => ?_)
     ·have hG10 := hg10; try simp only [gS] at hG10
      refine o_off hf ?_; clear hf a; intro a hf
      refine o_off hf ?_; clear hf a; intro a hf
      refine o_v hf hh (y_pt rfl rfl) ?_; clear hf a; intro a hf
      refine o_end ?_
      refine c_t hf ?_
      refine sy_seq ?_
      have hb1 : badW c (axB i) wy = true := by rw [hbf]; simp_all
      have hsl := setW_lt hix
      refine sy_ops ?_
      refine o_v hf hh (yv_assign rfl) ?_; clear hf a; intro a hf
      refine o_end ?_
      refine sy_seq ?_
      refine sy_sq ?_
      refine o_v hf hh (yv_move rfl) ?_; clear hf a; intro a hf
      refine o_v hf hh (yv_len Tryz.se_171 rfl) ?_; clear hf a; intro a hf
      refine o_v hf hh (yv_move rfl) ?_; clear hf a; intro a hf
      refine o_end ?_
      refine sy_block ?_
      refine sy_loopH (σ := Nat) [8, 10, 32, 33, 34, 35, 36, 37, 38, 39, 40, 41] (fun j => [(8, .int .u64 (setW (wy.take j) : Nat)), (32, .int .i64 (j : Nat))]) (fun j => fun w' => j ≤ wy.length ∧ Hp w9 (l :: D :: ([(B2, Obj.cells #[v] 174), (B1, Obj.cells #[ptr Bv 0] 112)] ++ X).map Prod.fst) ([(B5, .cells (axC (axB i)) 116), (l, ol), (D, .deferred (some [])), (B2, .cells #[v2] 174), (B1, .cells #[ptr Bv 0] 112)] ++ X2) w') (fun j => wy.length - j) (0) hf ?_ ?_ ?_
      · repeat' (first | exact True.intro | refine And.intro rfl ?_)
      · exact ⟨Nat.zero_le _, hh⟩
      ·rintro j a w ⟨hj, hh⟩ hf
       refine sy_sq ?_
       refine o_v hf hh (yv_bin rfl rfl rfl) ?_; clear hf a; intro a hf
       refine o_end ?_
       refine sy_seq ?_
       refine sy_cond hf rfl (fun hg12 => ?_) (fun hg12 => ?_)
       ·have hG12 := hg12; try simp only [gS] at hG12
        refine sy_skip ?_
        refine then_n ?_
        refine sy_seq ?_
        refine sy_block ?_
        refine sy_seq ?_
        obtain ⟨x, hx⟩ := ex_of (l := wy) (i := j) (by omega)
        obtain ⟨blk, off, cc, T, fr, e, hw2n, hw2, hc⟩ := hoff j x hx
        have hstk := setW_take hx
        have hxi := hix x (List.mem_of_getElem? hx)
        have hs1 := setW_lt (n := c.si.length) (w := wy.take j) (fun l hl => hix l (List.mem_of_mem_take hl))
        have hp10 : 2 ^ c.si.length ≤ 2 ^ 10 := Nat.pow_le_pow_right (by omega) hl10
        have hpx : 2 ^ x.i ≤ 2 ^ 10 := Nat.pow_le_pow_right (by omega) (by omega)
        refine sy_ops ?_
        refine o_v hf hh (y_ix Tryz.se_171 (congrArg (fun q => some (Value.slice q wy.length cb)) e) rfl) ?_; clear hf a; intro a hf
        refine o_v hf hh (y_lds Tryz.ag_173 rfl) ?_; clear hf a; intro a hf
        refine o_alloc hf hh Tryz.ze_173 ?_; clear hf hh a; intro B10 a w hf hh
        refine o_store hf hh Tryz.sz_173 fun w hh => ?_
        refine o_end ?_
        refine sy_ops ?_
        refine o_v hf hh (yv_move rfl) ?_; clear hf a; intro a hf
        refine o_v hf hh (yv_fieldAddr Tryz.fo_173_0 rfl) ?_; clear hf a; intro a hf
        refine o_v hf hh (y_ld Tryz.sc_3 rfl) ?_; clear hf a; intro a hf
        refine ops_v hf hh (yv_cast (yv_shl1 (.inr rfl) rfl rfl (by omega) (by omega)) (intv (b := ((2 ^ x.i : Nat) : Int)) (by rw [Int.toNat_natCast]))) (.inl rfl) rfl rfl rfl ?_; clear hf a; intro a hf
        refine o_v hf hh (yv_orU rfl rfl (by omega) (by omega)) ?_; clear hf a; intro a hf
        refine o_v hf hh (yv_assign rfl) ?_; clear hf a; intro a hf
        refine ops_end ?_
        refine blk_n ?_
        refine then_n ?_
        refine sy_ops ?_
        refine o_v hf hh (y_add rfl rfl) ?_; clear hf a; intro a hf
        refine o_v hf hh (yv_move rfl) ?_; clear hf a; intro a hf
        refine ops_end ?_
        refine then_n ?_
        exact ⟨j + 1, ⟨⟨by omega, hh.less (.cons _ (.refl _))⟩, hf.head ⟨congrArg (fun z => some (Value.int IntKind.u64 ((z : Nat) : Int))) hstk.symm, rfl, True.intro⟩ (Keep.cons rfl (Keep.cons rfl (Keep.cons rfl (Keep.cons rfl (Keep.cons rfl (Keep.cons rfl (Keep.cons rfl (Keep.cons rfl (Keep.cons rfl (Keep.cons rfl (Keep.cons rfl (Keep.cons rfl (Keep.app rfl (Keep.rm rfl Keep.base))))))))))))))⟩, by omega⟩
       ·have hG12 := hg12; try simp only [gS] at hG12
        refine sy_exit ?_
        refine then_e ?_
        refine then_e ?_
        refine blk_e ?_
        refine then_n ?_
        obtain rfl : j = wy.length := by omega
        rw [List.take_length] at hf
        have hlT := wrT_len c k
        have hlA := wrA_len c wy i
        have hlW : (wrT c k ++ wrA c wy i).length = (wrT c k).length + (wrA c wy i).length := List.length_append
        refine sy_ops ?_
        refine o_v hf hh (y_ld Tryz.sc_174 rfl) ?_; clear hf a; intro a hf
        refine o_v hf hh (yv_move rfl) ?_; clear hf a; intro a hf
        refine ops_buildSl hf hh Tryz.bl_174_1 rfl rfl (.inl rfl) rfl ?_; clear hf hh; clear a; intro B44 a w hf hh
        refine ops_append (e := 123) (size := 1) (xs := usv (wrT c k ++ wrA c wy i)) (X := X2) (Z := [(B5, Obj.cells (axC (axB i)) 116), (l, ol), (D, Obj.deferred (some [])), (B2, Obj.cells #[v2] 174), (B1, Obj.cells #[ptr Bv 0] 112)]) (m := (wrT c k ++ wrA c wy i).length) (q := 1) hf (hh.perm (.cons _ (List.perm_append_comm (l₁ := [(B5, Obj.cells (axC (axB i)) 116), (l, ol), (D, Obj.deferred (some [])), (B2, Obj.cells #[v2] 174), (B1, Obj.cells #[ptr Bv 0] 112)]) (l₂ := X2)))) Tryz.eb_174 rfl rfl hO2 rfl rfl rfl (by simp only [maxLen]; omega) (by omega) (.inl rfl) rfl ?_; clear hf hh a; intro v3 X3 a w hO3 hf hh
        replace hh : Hp w9 (l :: D :: ([(B2, Obj.cells #[v] 174), (B1, Obj.cells #[ptr Bv 0] 112)] ++ X).map Prod.fst) ([(B5, Obj.cells (axC (axB i)) 116), (l, ol), (D, Obj.deferred (some [])), (B2, Obj.cells #[v2] 174), (B1, Obj.cells #[ptr Bv 0] 112)] ++ X3) w := hh.perm List.perm_append_comm
        obtain ⟨oa3, cp3, rfl⟩ := own_val hO3
        refine o_store hf hh Tryz.sz_174 fun w hh => ?_
        refine ops_end ?_
        refine blk_n ?_
        refine then_n ?_
        refine sy_ops ?_
        refine o_v hf hh (y_add rfl rfl) ?_; clear hf a; intro a hf
        refine o_v hf hh (yv_move rfl) ?_; clear hf a; intro a hf
        refine ops_end ?_
        refine then_n ?_
        first
          | (refine ⟨(i + 1, .slice oa3 ((wrT c k ++ wrA c wy i).length + 1) cp3, X3), ⟨⟨by simp only; omega, ?_, hh.less (.cons _ (.refl _))⟩, (hf.head (by repeat' (first | exact True.intro | refine And.intro rfl ?_)) (Keep.cons rfl (Keep.cons rfl (Keep.cons rfl (Keep.cons rfl (Keep.cons rfl (Keep.cons rfl (Keep.cons rfl (Keep.app rfl (Keep.rm rfl (Keep.cons rfl (Keep.cons rfl (Keep.cons rfl (Keep.cons rfl (Keep.cons rfl (Keep.cons rfl (Keep.cons rfl (Keep.cons rfl (Keep.cons rfl (Keep.cons rfl (Keep.cons rfl (Keep.cons rfl (Keep.cons rfl (Keep.cons rfl (Keep.cons rfl (Keep.cons rfl (Keep.cons rfl (Keep.cons rfl (Keep.cons rfl (Keep.cons rfl (Keep.cons rfl (Keep.app rfl (Keep.rm rfl Keep.base)))))))))))))))))))))))))))))))))⟩, by simp only; omega⟩
             simp only
             rw [wrA_put hi2 hb1, ← List.append_assoc, usv_app, show (wrT c k ++ wrA c wy i ++ [setW wy]).length = (wrT c k ++ wrA c wy i).length + 1 from List.length_append]
             exact hO3)
          | (have hb0 : badW c (axB i) wy = false := by
               rw [hbf]
               simp_all
             exact ⟨(i + 1, v2, X2), ⟨⟨by simp only; omega, by simp only; rw [wrA_no hi2 hb0]; exact hO2, hh.less (.cons _ (.refl _))⟩, (hf.head (by repeat' (first | exact True.intro | refine And.intro rfl ?_)) (Keep.cons rfl (Keep.cons rfl (Keep.cons rfl (Keep.cons rfl (Keep.cons rfl (Keep.cons rfl (Keep.cons rfl (Keep.app rfl (Keep.rm rfl (Keep.cons rfl (Keep.cons rfl (Keep.cons rfl (Keep.cons rfl (Keep.cons rfl (Keep.cons rfl (Keep.cons rfl (Keep.cons rfl (Keep.cons rfl (Keep.cons rfl (Keep.cons rfl (Keep.cons rfl (Keep.cons rfl (Keep.cons rfl (Keep.cons rfl (Keep.cons rfl (Keep.cons rfl (Keep.cons rfl (Keep.cons rfl (Keep.cons rfl (Keep.cons rfl (Keep.app rfl (Keep.rm rfl Keep.base)))))))))))))))))))))))))))))))))⟩, by simp only; omega⟩)
          | omega
     ·have hG10 := hg10; try simp only [gS] at hG10
      refine o_v hf hh (yv_move rfl) ?_; clear hf a; intro a hf
      refine o_v hf hh (yv_bin rfl rfl rfl) ?_; clear hf a; intro a hf
      refine o_v hf hh (y_pf rfl rfl) ?_; clear hf a; intro a hf
      refine o_end ?_
      refine sy_cond hf rfl (fun hg18 => ?_) (fun hg18 => ?_)
      ·have hG18 := hg18; try simp only [gS] at hG18
       refine sy_seq ?_
       have hb1 : badW c (axB i) wy = true := by rw [hbf]; simp_all
       have hsl := setW_lt hix
       refine sy_ops ?_
       refine o_v hf hh (yv_assign rfl) ?_; clear hf a; intro a hf
       refine o_end ?_
       refine sy_seq ?_
       refine sy_sq ?_
       refine o_v hf hh (yv_move rfl) ?_; clear hf a; intro a hf
       refine o_v hf hh (yv_len Tryz.se_171 rfl) ?_; clear hf a; intro a hf
       refine o_v hf hh (yv_move rfl) ?_; clear hf a; intro a hf
       refine o_end ?_
       refine sy_block ?_
       refine sy_loopH (σ := Nat) [8, 10, 32, 33, 34, 35, 36, 37, 38, 39, 40, 41] (fun j => [(8, .int .u64 (setW (wy.take j) : Nat)), (32, .int .i64 (j : Nat))]) (fun j => fun w' => j ≤ wy.length ∧ Hp w9 (l :: D :: ([(B2, Obj.cells #[v] 174), (B1, Obj.cells #[ptr Bv 0] 112)] ++ X).map Prod.fst) ([(B5, .cells (axC (axB i)) 116), (l, ol), (D, .deferred (some [])), (B2, .cells #[v2] 174), (B1, .cells #[ptr Bv 0] 112)] ++ X2) w') (fun j => wy.length - j) (0) hf ?_ ?_ ?_
       · repeat' (first | exact True.intro | refine And.intro rfl ?_)
       · exact ⟨Nat.zero_le _, hh⟩
       ·rintro j a w ⟨hj, hh⟩ hf
        refine sy_sq ?_
        refine o_v hf hh (yv_bin rfl rfl rfl) ?_; clear hf a; intro a hf
        refine o_end ?_
        refine sy_seq ?_
        refine sy_cond hf rfl (fun hg20 => ?_) (fun hg20 => ?_)
        ·have hG20 := hg20; try simp only [gS] at hG20
         refine sy_skip ?_
         refine then_n ?_
         refine sy_seq ?_
         refine sy_block ?_
         refine sy_seq ?_
         obtain ⟨x, hx⟩ := ex_of (l := wy) (i := j) (by omega)
         obtain ⟨blk, off, cc, T, fr, e, hw2n, hw2, hc⟩ := hoff j x hx
         have hstk := setW_take hx
         have hxi := hix x (List.mem_of_getElem? hx)
         have hs1 := setW_lt (n := c.si.length) (w := wy.take j) (fun l hl => hix l (List.mem_of_mem_take hl))
         have hp10 : 2 ^ c.si.length ≤ 2 ^ 10 := Nat.pow_le_pow_right (by omega) hl10
         have hpx : 2 ^ x.i ≤ 2 ^ 10 := Nat.pow_le_pow_right (by omega) (by omega)
         refine sy_ops ?_
         refine o_v hf hh (y_ix Tryz.se_171 (congrArg (fun q => some (Value.slice q wy.length cb)) e) rfl) ?_; clear hf a; intro a hf
         refine o_v hf hh (y_lds Tryz.ag_173 rfl) ?_; clear hf a; intro a hf
         refine o_alloc hf hh Tryz.ze_173 ?_; clear hf hh a; intro B10 a w hf hh
         refine o_store hf hh Tryz.sz_173 fun w hh => ?_
         refine o_end ?_
         refine sy_ops ?_
         refine o_v hf hh (yv_move rfl) ?_; clear hf a; intro a hf
         refine o_v hf hh (yv_fieldAddr Tryz.fo_173_0 rfl) ?_; clear hf a; intro a hf
         refine o_v hf hh (y_ld Tryz.sc_3 rfl) ?_; clear hf a; intro a hf
         refine ops_v hf hh (yv_cast (yv_shl1 (.inr rfl) rfl rfl (by omega) (by omega)) (intv (b := ((2 ^ x.i : Nat) : Int)) (by rw [Int.toNat_natCast]))) (.inl rfl) rfl rfl rfl ?_; clear hf a; intro a hf
         refine o_v hf hh (yv_orU rfl rfl (by omega) (by omega)) ?_; clear hf a; intro a hf
         refine o_v hf hh (yv_assign rfl) ?_; clear hf a; intro a hf
         refine ops_end ?_
         refine blk_n ?_
         refine then_n ?_
         refine sy_ops ?_
         refine o_v hf hh (y_add rfl rfl) ?_; clear hf a; intro a hf
         refine o_v hf hh (yv_move rfl) ?_; clear hf a; intro a hf
         refine ops_end ?_
         refine then_n ?_
         exact ⟨j + 1, ⟨⟨by omega, hh.less (.cons _ (.refl _))⟩, hf.head ⟨congrArg (fun z => some (Value.int IntKind.u64 ((z : Nat) : Int))) hstk.symm, rfl, True.intro⟩ (Keep.cons rfl (Keep.cons rfl (Keep.cons rfl (Keep.cons rfl (Keep.cons rfl (Keep.cons rfl (Keep.cons rfl (Keep.cons rfl (Keep.cons rfl (Keep.cons rfl (Keep.cons rfl (Keep.cons rfl (Keep.app rfl (Keep.rm rfl Keep.base))))))))))))))⟩, by omega⟩
        ·have hG20 := hg20; try simp only [gS] at hG20
         refine sy_exit ?_
         refine then_e ?_
         refine then_e ?_
         refine blk_e ?_
         refine then_n ?_
         obtain rfl : j = wy.length := by omega
         rw [List.take_length] at hf
         have hlT := wrT_len c k
         have hlA := wrA_len c wy i
         have hlW : (wrT c k ++ wrA c wy i).length = (wrT c k).length + (wrA c wy i).length := List.length_append
         refine sy_ops ?_
         refine o_v hf hh (y_ld Tryz.sc_174 rfl) ?_; clear hf a; intro a hf
         refine o_v hf hh (yv_move rfl) ?_; clear hf a; intro a hf
         refine ops_buildSl hf hh Tryz.bl_174_1 rfl rfl (.inl rfl) rfl ?_; clear hf hh; clear a; intro B44 a w hf hh
         refine ops_append (e := 123) (size := 1) (xs := usv (wrT c k ++ wrA c wy i)) (X := X2) (Z := [(B5, Obj.cells (axC (axB i)) 116), (l, ol), (D, Obj.deferred (some [])), (B2, Obj.cells #[v2] 174), (B1, Obj.cells #[ptr Bv 0] 112)]) (m := (wrT c k ++ wrA c wy i).length) (q := 1) hf (hh.perm (.cons _ (List.perm_append_comm (l₁ := [(B5, Obj.cells (axC (axB i)) 116), (l, ol), (D, Obj.deferred (some [])), (B2, Obj.cells #[v2] 174), (B1, Obj.cells #[ptr Bv 0] 112)]) (l₂ := X2)))) Tryz.eb_174 rfl rfl hO2 rfl rfl rfl (by simp only [maxLen]; omega) (by omega) (.inl rfl) rfl ?_; clear hf hh a; intro v3 X3 a w hO3 hf hh
         replace hh : Hp w9 (l :: D :: ([(B2, Obj.cells #[v] 174), (B1, Obj.cells #[ptr Bv 0] 112)] ++ X).map Prod.fst) ([(B5, Obj.cells (axC (axB i)) 116), (l, ol), (D, Obj.deferred (some [])), (B2, Obj.cells #[v2] 174), (B1, Obj.cells #[ptr Bv 0] 112)] ++ X3) w := hh.perm List.perm_append_comm
         obtain ⟨oa3, cp3, rfl⟩ := own_val hO3
         refine o_store hf hh Tryz.sz_174 fun w hh => ?_
         refine ops_end ?_
         refine blk_n ?_
         refine then_n ?_
         refine sy_ops ?_
         refine o_v hf hh (y_add rfl rfl) ?_; clear hf a; intro a hf
         refine o_v hf hh (yv_move rfl) ?_; clear hf a; intro a hf
         refine ops_end ?_
         refine then_n ?_
         first
           | (refine ⟨(i + 1, .slice oa3 ((wrT c k ++ wrA c wy i).length + 1) cp3, X3), ⟨⟨by simp only; omega, ?_, hh.less (.cons _ (.refl _))⟩, (hf.head (by repeat' (first | exact True.intro | refine And.intro rfl ?_)) (Keep.cons rfl (Keep.cons rfl (Keep.cons rfl (Keep.cons rfl (Keep.cons rfl (Keep.cons rfl (Keep.cons rfl (Keep.app rfl (Keep.rm rfl (Keep.cons rfl (Keep.cons rfl (Keep.cons rfl (Keep.cons rfl (Keep.cons rfl (Keep.cons rfl (Keep.cons rfl (Keep.cons rfl (Keep.cons rfl (Keep.cons rfl (Keep.cons rfl (Keep.cons rfl (Keep.cons rfl (Keep.cons rfl (Keep.cons rfl (Keep.cons rfl (Keep.cons rfl (Keep.cons rfl (Keep.cons rfl (Keep.cons rfl (Keep.cons rfl (Keep.app rfl (Keep.rm rfl Keep.base)))))))))))))))))))))))))))))))))⟩, by simp only; omega⟩
              simp only
              rw [wrA_put hi2 hb1, ← List.append_assoc, usv_app, show (wrT c k ++ wrA c wy i ++ [setW wy]).length = (wrT c k ++ wrA c wy i).length + 1 from List.length_append]
              exact hO3)
           | (have hb0 : badW c (axB i) wy = false := by
                rw [hbf]
                simp_all
              exact ⟨(i + 1, v2, X2), ⟨⟨by simp only; omega, by simp only; rw [wrA_no hi2 hb0]; exact hO2, hh.less (.cons _ (.refl _))⟩, (hf.head (by repeat' (first | exact True.intro | refine And.intro rfl ?_)) (Keep.cons rfl (Keep.cons rfl (Keep.cons rfl (Keep.cons rfl (Keep.cons rfl (Keep.cons rfl (Keep.cons rfl (Keep.app rfl (Keep.rm rfl (Keep.cons rfl (Keep.cons rfl (Keep.cons rfl (Keep.cons rfl (Keep.cons rfl (Keep.cons rfl (Keep.cons rfl (Keep.cons rfl (Keep.cons rfl (Keep.cons rfl (Keep.cons rfl (Keep.cons rfl (Keep.cons rfl (Keep.cons rfl (Keep.cons rfl (Keep.cons rfl (Keep.cons rfl (Keep.cons rfl (Keep.cons rfl (Keep.cons rfl (Keep.cons rfl (Keep.app rfl (Keep.rm rfl Keep.base)))))))))))))))))))))))))))))))))⟩, by simp only; omega⟩)
           | omega
      ·have hG18 := hg18; try simp only [gS] at hG18
       refine sy_skip ?_
       refine blk_n ?_
       refine then_n ?_
       refine sy_ops ?_
       refine o_v hf hh (y_add rfl rfl) ?_; clear hf a; intro a hf
       refine o_v hf hh (yv_move rfl) ?_; clear hf a; intro a hf
       refine ops_end ?_
       refine then_n ?_
       first
         | (refine ⟨(i + 1, .slice oa3 ((wrT c k ++ wrA c wy i).length + 1) cp3, X3), ⟨⟨by simp only; omega, ?_, hh.less (.cons _ (.refl _))⟩, (hf.head (by repeat' (first | exact True.intro | refine And.intro rfl ?_)) (Keep.cons rfl (Keep.cons rfl (Keep.cons rfl (Keep.cons rfl (Keep.cons rfl (Keep.cons rfl (Keep.cons rfl (Keep.cons rfl (Keep.cons rfl (Keep.cons rfl (Keep.cons rfl (Keep.cons rfl (Keep.cons rfl (Keep.cons rfl (Keep.cons rfl (Keep.cons rfl (Keep.cons rfl (Keep.cons rfl (Keep.cons rfl (Keep.app rfl (Keep.rm rfl Keep.base))))))))))))))))))))))⟩, by simp only; omega⟩
            simp only
            rw [wrA_put hi2 hb1, ← List.append_assoc, usv_app, show (wrT c k ++ wrA c wy i ++ [setW wy]).length = (wrT c k ++ wrA c wy i).length + 1 from List.length_append]
            exact hO3)
         | (have hb0 : badW c (axB i) wy = false := by
              rw [hbf]
              simp_all
            exact ⟨(i + 1, v2, X2), ⟨⟨by simp only; omega, by simp only; rw [wrA_no hi2 hb0]; exact hO2, hh.less (.cons _ (.refl _))⟩, (hf.head (by repeat' (first | exact True.intro | refine And.intro rfl ?_)) (Keep.cons rfl (Keep.cons rfl (Keep.cons rfl (Keep.cons rfl (Keep.cons rfl (Keep.cons rfl (Keep.cons rfl (Keep.cons rfl (Keep.cons rfl (Keep.cons rfl (Keep.cons rfl (Keep.cons rfl (Keep.cons rfl (Keep.cons rfl (Keep.cons rfl (Keep.cons rfl (Keep.cons rfl (Keep.cons rfl (Keep.cons rfl (Keep.app rfl (Keep.rm rfl Keep.base))))))))))))))))))))))⟩, by simp only; omega⟩)
         | omega
    ·have hG5 := hg5; try simp only [gS] at hG5
     refine sy_exit ?_
     refine then_e ?_
     refine then_e ?_
     refine blk_e ?_
     refine blk_n ?_
     obtain rfl : i = 2 := by omega
     rw [hol] at hh
     exact ⟨_, ⟨v2, X2, by rw [hsucc]; exact hO2, rfl⟩, hh⟩
  ·rintro D H N2 a w ⟨v, X, hOv, rfl⟩ hOw hf hh
   refine blk_n ?_
   refine then_n ?_
   refine sy_sq ?_
   refine o_v hf hh (y_ld Tryz.sc_174 rfl) ?_; clear hf a; intro a hf
   have hlT := wrT_len c (cirL c).length
   refine o_call hf Tryz.en_132 rfl rfl rfl (p73c (wrT c (cirL c).length) (fun x hx => wrT_lt hO hx) hOv rfl (fun q hq => hh.get q (.tail _ (.tail _ (.tail _ hq)))) (by omega)) ?_; clear hf a; intro r a w hR hf
   obtain ⟨d', X', hO', hsz', hp', hs', hx⟩ := hR
   replace hh : Hp u [] ((D, .deferred (some [])) :: (B2, .cells #[v] 174) :: (B1, .cells #[ptr Bv 0] 112) :: X') w := (hh.swap' (X := X) (Z := [(D, Obj.deferred (some [])), (B2, Obj.cells #[v] 174), (B1, Obj.cells #[ptr Bv 0] 112)]) (List.perm_append_comm (l₁ := [_, _, _])) hx).perm (List.perm_append_comm (l₂ := [_, _, _])); clear hx
   refine o_end ?_
   refine sy_sq ?_
   refine o_v hf hh (y_ld Tryz.sc_174 rfl) ?_; clear hf a; intro a hf
   refine o_call hf Tryz.en_134 rfl rfl rfl (p74c (wrT c (cirL c).length) (fun x hx => wrT_lt hO hx) hO' hsz' hp' hs' (fun q hq => hh.get q (.tail _ (.tail _ (.tail _ hq)))) (by omega) rfl) ?_; clear hf a; intro r a w hR hf
   obtain ⟨l2, sb, cb, X9, rfl, hU, hSr, hx⟩ := hR
   replace hh : Hp u [] ((D, .deferred (some [])) :: (B2, .cells #[v] 174) :: (B1, .cells #[ptr Bv 0] 112) :: X9) w := (hh.swap' (X := X') (Z := [(D, Obj.deferred (some [])), (B2, Obj.cells #[v] 174), (B1, Obj.cells #[ptr Bv 0] 112)]) (List.perm_append_comm (l₁ := [_, _, _])) hx).perm (List.perm_append_comm (l₂ := [_, _, _])); clear hx
   refine o_store hf hh Tryz.sz_174 fun w hh => ?_
   refine o_end ?_
   refine sy_ret ?_
   rw [wrT_all] at hSr
   exact ret_m (Ds := [D]) hf hh fun w' hh => ⟨[_], ⟨⟨B2, 0, _, _, _, rfl, hh.at (i := 0) rfl, .inl ⟨Tryz.sc_174, rfl⟩⟩, True.intro⟩, l2, sb, cb, X9, rfl, hU, hSr, hh.less (.cons _ (.cons _ (.refl _)))⟩
  ·rintro k c D H N2 a w hX hOw hf hh
   exact hX.elim
  · rintro N v v' b ⟨h1, h2, h3⟩ hb e; exact ⟨Ext.over h1 e (fun x hx => by rw [List.mem_singleton.1 hx]; exact h2 b hb), h2, h3.step (e.mono (by simpa using hb)) (.refl _ _)⟩
end Go.Proofs.YtccpgpnekoncoaaGreat

