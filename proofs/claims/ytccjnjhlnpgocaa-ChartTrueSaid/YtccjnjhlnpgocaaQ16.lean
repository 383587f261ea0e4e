/- Lemmas, in order: ChartTrue. What a law is handed, opened: charts, sights, numbers.. -/
import Derived.Test.YtccjnjhlnpgocaaQ15
import Derived.Test.YtccjnjhlnpgocaaRows
import Derived.Test.YtccjnjhlnpgocaaChecked
import Derived.JoinedOf
import Derived.LaidLaws
import Derived.RowKit
import Derived.RowKitTokens
import Derived.LaidHandle
import Derived.Stop.Joined
import Derived.Lay
import Derived.SizedLaws
import Derived.SevenTiedAt
namespace Go.Proofs.Ytccjnjhlnpgocaa
open Go Go.Sy Go.ChaM
set_option maxRecDepth 100000 in
set_option maxHeartbeats 8000000 in
theorem p5 (z : Int) (l : List Int) (sy : Option Addr) (cy : Nat) (u : World) (hz : 0 ≤ z ∧ z ≤ 255) (hY : FlatAt u .u16 sy 1 (l.map fun z => [z])) (hml : l.length ≤ 9223372036854775807) (hl : ∀ z ∈ l, 0 ≤ z ∧ z ≤ 65535) : Calls Try.prog 5 #[.int .u8 z, .slice sy l.length cy] u (Ret fun v w' => v = .bool true ∧ Ext [] u w') := by
  refine calls_of Try.func5 rfl rfl (fun a hf => ?_)
  have hh := Hp.init u []
  obtain ⟨z9, rfl⟩ : ∃ k : Nat, z = k := ⟨z.toNat, by omega⟩
  refine sy_sq ?_
  refine o_v hf hh (yv_assign rfl) ?_; clear hf a; intro a hf
  refine o_end ?_
  refine sy_seq ?_
  refine sy_sq ?_
  refine o_v hf hh (yv_move rfl) ?_; clear hf a; intro a hf
  refine o_v hf hh (yv_len Try.se_42 rfl) ?_; clear hf a; intro a hf
  refine o_v hf hh (yv_bin rfl rfl rfl) ?_; clear hf a; intro a hf
  refine o_end ?_
  refine sy_cond hf rfl (fun hg2 => ?_) (fun hg2 => ?_)
  ·have hG2 := hg2; try simp only [gS] at hG2
   refine sy_sq ?_
   refine o_call hf Try.en_14 rfl rfl rfl (p14 _) ?_; clear hf a; intro v a w hR hf
   obtain ⟨rfl, hx⟩ := hR; replace hh := hh.more hx; clear hx
   refine o_v hf hh (yv_assign rfl) ?_; clear hf a; intro a hf
   refine o_end ?_
   refine sy_ret ?_
   refine then_r ?_
   refine ret_r hf rfl rfl ?_
   first
     | exact ⟨rfl, (by first | exact hh.ext | exact e3.trans hh.ext)⟩
     | (exfalso
        (repeat (rename Fr _ _ _ _ => z9; clear z9))
        (repeat (rename Hp _ _ _ _ => z9; clear z9))
        (try clear hcn); (try clear hat); (try clear hbe)
        first
          | (rcases hKd with ⟨h1, h2⟩ | ⟨h1, h2⟩ <;> first | (omega; done) | (simp_all; done))
          | (rcases hb2 with h1 | h1 <;> first | (omega; done) | (simp_all; done))
          | (rcases hK with ⟨h1, h2, h3⟩ | ⟨h1, h2, h3⟩ | ⟨h1, h2, h3⟩ <;> first | (omega; done) | (simp_all; done))
          | (omega; done)
          | (simp_all; done)
          | (simp_all <;> omega))
     | omega
  ·have hG2 := hg2; try simp only [gS] at hG2
   refine sy_skip ?_
   refine then_n ?_
   refine sy_sq ?_
   refine o_v hf hh (yv_move rfl) ?_; clear hf a; intro a hf
   refine o_call hf Try.en_28 rfl rfl rfl (p28 sy l.length cy _) ?_; clear hf a; intro v a w hR hf
   obtain ⟨Bat, Bby, rfl, hx⟩ := hR; replace hh := hh.join hx; clear hx
   refine o_v hf hh (yv_assign rfl) ?_; clear hf a; intro a hf
   refine o_end ?_
   refine sy_seq ?_
   replace hh : Hp u [] [(Bat, .cells #[.int .i64 ((0 : Nat) : Int)] 3), (Bby, .cells #[.slice sy l.length cy] 42)] w := hh
   have hnd := hh.nodup
   have hmn := hh.mine (Bat, _) (.head _)
   simp only [List.not_mem_nil, or_false] at hmn
   have hne : Bby ∉ [Bat] := fun h => by
     rw [List.mem_singleton] at h
     subst h
     simp at hnd
   have hByU : ByAt u [Bat] sy l.length := ByAt.of hY hl (fun x hx => by rw [List.mem_singleton] at hx; subst hx; exact hmn)
   have hpos : 1 ≤ l.length := by omega
   have hDr : ∀ {H : List (Nat × Obj)} {w2 : World}, Hp u [] H w2 → (Bby, Obj.cells #[.slice sy l.length cy] 42) ∈ H → DrwAt w2 Bat Bby sy l.length cy := fun h hm => ⟨h.get _ hm, hne, hByU.ext (h.ext.mono (by simp)), hpos, hml⟩
   obtain ⟨nn, hnn⟩ : ∃ nn : Nat, nn = 1 + z9 % 8 := ⟨_, rfl⟩
   refine sy_ops ?_
   refine o_v hf hh (yv_move rfl) ?_; clear hf a; intro a hf
   first | refine o_v hf hh (yv_convx (.inl rfl) (by kernel_rfl) Try.un_3 rfl (by omega) (by simp only [IntKind.top]; omega)) ?_; clear hf a; intro a hf | refine o_v hf hh (yv_conv (by kernel_rfl) Try.un_3 rfl) ?_; clear hf a; intro a hf
   refine ops_v hf hh (yv_cast (yv_rem rfl rfl (by omega) (by omega)) (intv (b := ((z9 % 8 : Nat) : Int)) (by omega))) (.inl rfl) rfl rfl rfl ?_; clear hf a; intro a hf
   refine ops_v hf hh (yv_cast (yv_add rfl rfl (by omega) (by omega)) (intv (b := ((nn : Nat) : Int)) (by omega))) (.inl rfl) rfl rfl rfl ?_; clear hf a; intro a hf
   refine o_v hf hh (yv_buildS Try.bs_24 rfl rfl) ?_; clear hf a; intro a hf
   refine o_alloc hf hh Try.ze_24 ?_; clear hf hh a; intro B6 a w hf hh
   refine o_store hf hh Try.sz_24 fun w hh => ?_
   refine o_end ?_
   refine sy_sq ?_
   refine o_v hf hh (yv_fieldAddr Try.fo_24_0 rfl) ?_; clear hf a; intro a hf
   refine o_v hf hh (y_ld Try.sc_3 rfl) ?_; clear hf a; intro a hf
   refine ops_make hf hh Try.eb_33 rfl rfl (by omega) (by omega) (.inl rfl) rfl ?_; clear hf hh a; intro B39 a w hf hh
   refine o_v hf hh (yv_assign rfl) ?_; clear hf a; intro a hf
   refine o_end ?_
   refine sy_seq ?_
   refine sy_seq ?_
   obtain ⟨cur0, hc0⟩ : ∃ c, c = madeCells (Value.agg #[.int .i64 0, .int .i64 0]).cells (nn * 2) := ⟨_, rfl⟩
   replace hh : Hp u [] [(B39, .cells cur0 39), (B6, .cells #[.int .i64 (nn : Nat), .slice none 0 0] 24), (Bat, .cells #[.int .i64 ((0 : Nat) : Int)] 3), (Bby, .cells #[.slice sy l.length cy] 42)] w := by rw [hc0]; exact hh
   have hP0 : PtAt cur0 nn (fun _ => (0, 0)) := by rw [hc0]; exact made_pt nn
   refine sy_ops ?_
   refine o_v hf hh (yv_move rfl) ?_; clear hf a; intro a hf
   refine o_v hf hh (yv_len Try.se_33 rfl) ?_; clear hf a; intro a hf
   refine o_v hf hh (yv_move rfl) ?_; clear hf a; intro a hf
   refine o_end ?_
   refine sy_block ?_
   refine sy_loopH (σ := Nat × Nat × (Nat → Int × Int) × Array Value) [8, 42, 43, 44, 45, 46, 47, 48, 49, 50, 51, 52, 53, 54, 55, 56, 57] (fun q => [(42, .int .i64 (q.1 : Nat))]) (fun q => fun w' => q.1 ≤ nn ∧ q.2.1 ≤ 2 * q.1 ∧ PtAt q.2.2.2 nn q.2.2.1 ∧ (∀ k, (-1000 ≤ (q.2.2.1 k).1 ∧ (q.2.2.1 k).1 ≤ 1000) ∧ -1000 ≤ (q.2.2.1 k).2 ∧ (q.2.2.1 k).2 ≤ 1000) ∧ q.2.2.1 0 = (0, 0) ∧ Hp u [] [(B39, .cells q.2.2.2 39), (B6, .cells #[.int .i64 (nn : Nat), .slice none 0 0] 24), (Bat, .cells #[.int .i64 ((q.2.1 : Nat) : Int)] 3), (Bby, .cells #[.slice sy l.length cy] 42)] w') (fun q => nn - q.1) ((0, 0, (fun _ => (0, 0)), cur0)) hf ?_ ?_ ?_
   · repeat' (first | exact True.intro | refine And.intro rfl ?_)
   · exact ⟨Nat.zero_le _, Nat.le_refl _, hP0, fun k => by simp only; omega, rfl, hh⟩
   ·rintro q a w ⟨hi, hat, hPt, hbd, hz0, hh⟩ hf
    obtain ⟨i, at1, P, cur⟩ := q; simp only at hi hat hPt hbd hz0 hh hf ⊢
    refine sy_sq ?_
    refine o_v hf hh (yv_bin rfl rfl rfl) ?_; clear hf a; intro a hf
    refine o_end ?_
    refine sy_seq ?_
    refine sy_cond hf rfl (fun hg9 => ?_) (fun hg9 => ?_)
    ·have hG9 := hg9; try simp only [gS] at hG9
     refine sy_skip ?_
     refine then_n ?_
     refine sy_seq ?_
     refine sy_block ?_
     refine sy_sq ?_
     refine o_v hf hh (yv_move rfl) ?_; clear hf a; intro a hf
     refine o_v hf hh (yv_assign rfl) ?_; clear hf a; intro a hf
     refine o_end ?_
     refine sy_sq ?_
     refine o_v hf hh (yv_move rfl) ?_; clear hf a; intro a hf
     refine o_v hf hh (yv_bin rfl rfl rfl) ?_; clear hf a; intro a hf
     refine o_end ?_
     refine sy_cond hf rfl (fun hg11 => ?_) (fun hg11 => ?_)
     ·have hG11 := hg11; try simp only [gS] at hG11
      refine sy_ops ?_
      refine o_v hf hh (yv_move rfl) ?_; clear hf a; intro a hf
      refine o_v hf hh (yv_move rfl) ?_; clear hf a; intro a hf
      refine o_v hf hh (yv_move rfl) ?_; clear hf a; intro a hf
      refine o_call hf Try.en_57 rfl rfl rfl (p57 Bat Bby sy l.length cy (at1) _ (hDr hh (by simp)) (hh.at (i := 2) rfl) (by omega) 2000 (by omega)) ?_; clear hf a; intro v a w hR hf
      obtain ⟨r1, rfl, hr1, hx⟩ := hR; replace hh : Hp u [] ([(B39, .cells cur 39), (B6, .cells #[.int .i64 (nn : Nat), .slice none 0 0] 24), (Bat, .cells #[.int .i64 ((at1 + 1 : Nat) : Int)] 3), (Bby, .cells #[.slice sy l.length cy] 42)]) w := hh.turn (i := 2) rfl hx.ext (hx.at (i := 0) rfl); clear hx
      refine o_v hf hh (y_sub rfl rfl) ?_; clear hf a; intro a hf
      refine o_v hf hh (yv_move rfl) ?_; clear hf a; intro a hf
      refine o_call hf Try.en_57 rfl rfl rfl (p57 Bat Bby sy l.length cy (at1 + 1) _ (hDr hh (by simp)) (hh.at (i := 2) rfl) (by omega) 2000 (by omega)) ?_; clear hf a; intro v a w hR hf
      obtain ⟨r2, rfl, hr2, hx⟩ := hR; replace hh : Hp u [] ([(B39, .cells cur 39), (B6, .cells #[.int .i64 (nn : Nat), .slice none 0 0] 24), (Bat, .cells #[.int .i64 ((at1 + 2 : Nat) : Int)] 3), (Bby, .cells #[.slice sy l.length cy] 42)]) w := hh.turn (i := 2) rfl hx.ext (hx.at (i := 0) rfl); clear hx
      refine o_v hf hh (y_sub rfl rfl) ?_; clear hf a; intro a hf
      refine o_v hf hh (yv_buildS Try.bs_39 rfl rfl) ?_; clear hf a; intro a hf
      refine o_v hf hh (y_ix Try.se_33 rfl rfl) ?_; clear hf a; intro a hf
      refine o_store (i := 0) hf hh Try.sz_39 (hx := rfl) (hi := atI (i := 0) rfl) (hy := rfl) (hl := Nat.ble_eq_true_of_le (by rw [Int.toNat_natCast, hPt.1]; show 0 + i * 2 + 2 ≤ nn * 2; omega)) fun w hh => ?_
      refine ops_end ?_
      refine blk_n ?_
      refine then_n ?_
      refine sy_ops ?_
      refine o_v hf hh (y_add rfl rfl) ?_; clear hf a; intro a hf
      refine o_v hf hh (yv_move rfl) ?_; clear hf a; intro a hf
      refine ops_end ?_
      refine then_n ?_
      first
        | exact ⟨(i + 1, at1, P, cur), ⟨⟨by simp only; omega, by simp only; omega, hPt, hbd, hz0, hh⟩, (hf.head (by repeat' (first | exact True.intro | refine And.intro rfl ?_)) (Keep.cons rfl (Keep.cons rfl (Keep.cons rfl (Keep.cons rfl (Keep.cons rfl (Keep.cons rfl (Keep.cons rfl (Keep.cons rfl (Keep.cons rfl (Keep.cons rfl (Keep.cons rfl (Keep.cons rfl (Keep.cons rfl (Keep.cons rfl (Keep.cons rfl (Keep.cons rfl (Keep.cons rfl (Keep.app rfl (Keep.rm rfl Keep.base))))))))))))))))))))⟩, by simp only; omega⟩
        | (refine ⟨(i + 1, at1 + 2, (fun k => if k = i then ((r1 : Int) - 1000, (r2 : Int) - 1000) else P k), spl cur (0 + ((i : Nat) : Int).toNat * 2) [.int .i64 ((r1 : Int) - 1000), .int .i64 ((r2 : Int) - 1000)]), ⟨⟨by simp only; omega, by simp only; omega, hPt.set (i := i) (by omega) ((r1 : Int) - 1000, (r2 : Int) - 1000), fun k => ?_, ?_, hh⟩, (hf.head (by repeat' (first | exact True.intro | refine And.intro rfl ?_)) (Keep.cons rfl (Keep.cons rfl (Keep.cons rfl (Keep.cons rfl (Keep.cons rfl (Keep.cons rfl (Keep.cons rfl (Keep.cons rfl (Keep.cons rfl (Keep.cons rfl (Keep.cons rfl (Keep.cons rfl (Keep.cons rfl (Keep.cons rfl (Keep.cons rfl (Keep.cons rfl (Keep.cons rfl (Keep.app rfl (Keep.rm rfl Keep.base))))))))))))))))))))⟩, by simp only; omega⟩
           · simp only
             split
             · simp only; omega
             · exact hbd k
           · simp only
             rw [if_neg (by omega)]; exact hz0)
     ·have hG11 := hg11; try simp only [gS] at hG11
      refine sy_skip ?_
      refine blk_n ?_
      refine then_n ?_
      refine sy_ops ?_
      refine o_v hf hh (y_add rfl rfl) ?_; clear hf a; intro a hf
      refine o_v hf hh (yv_move rfl) ?_; clear hf a; intro a hf
      refine ops_end ?_
      refine then_n ?_
      first
        | exact ⟨(i + 1, at1, P, cur), ⟨⟨by simp only; omega, by simp only; omega, hPt, hbd, hz0, hh⟩, (hf.head (by repeat' (first | exact True.intro | refine And.intro rfl ?_)) (Keep.cons rfl (Keep.cons rfl (Keep.cons rfl (Keep.cons rfl (Keep.cons rfl (Keep.cons rfl (Keep.cons rfl (Keep.app rfl (Keep.rm rfl Keep.base))))))))))⟩, by simp only; omega⟩
        | (refine ⟨(i + 1, at1 + 2, (fun k => if k = i then ((r1 : Int) - 1000, (r2 : Int) - 1000) else P k), spl cur (0 + ((i : Nat) : Int).toNat * 2) [.int .i64 ((r1 : Int) - 1000), .int .i64 ((r2 : Int) - 1000)]), ⟨⟨by simp only; omega, by simp only; omega, hPt.set (i := i) (by omega) ((r1 : Int) - 1000, (r2 : Int) - 1000), fun k => ?_, ?_, hh⟩, (hf.head (by repeat' (first | exact True.intro | refine And.intro rfl ?_)) (Keep.cons rfl (Keep.cons rfl (Keep.cons rfl (Keep.cons rfl (Keep.cons rfl (Keep.cons rfl (Keep.cons rfl (Keep.app rfl (Keep.rm rfl Keep.base))))))))))⟩, by simp only; omega⟩
           · simp only
             split
             · simp only; omega
             · exact hbd k
           · simp only
             rw [if_neg (by omega)]; exact hz0)
    ·have hG9 := hg9; try simp only [gS] at hG9
     refine sy_exit ?_
     refine then_e ?_
     refine then_e ?_
     refine blk_e ?_
     refine then_n ?_
     refine sy_seq ?_
     refine sy_sq ?_
     refine o_v hf hh (yv_move rfl) ?_; clear hf a; intro a hf
     refine o_call hf Try.en_57 rfl rfl rfl (p57 Bat Bby sy l.length cy (at1) _ (hDr hh (by simp)) (hh.at (i := 2) rfl) (by omega) 11 (by omega)) ?_; clear hf a; intro v a w hR hf
     obtain ⟨m0, rfl, hm0, hx⟩ := hR; replace hh : Hp u [] ([(B39, .cells cur 39), (B6, .cells #[.int .i64 (nn : Nat), .slice none 0 0] 24), (Bat, .cells #[.int .i64 ((at1 + 1 : Nat) : Int)] 3), (Bby, .cells #[.slice sy l.length cy] 42)]) w := hh.turn (i := 2) rfl hx.ext (hx.at (i := 0) rfl); clear hx
     refine o_v hf hh (yv_move rfl) ?_; clear hf a; intro a hf
     refine o_end ?_
     refine sy_block ?_
     refine sy_loopH (σ := Nat × Nat × List SiD × Option Addr × Nat × List (Nat × Obj)) [9, 10, 11, 12, 60, 61, 62, 63, 64, 65, 66, 67, 68, 69, 70, 71, 72, 73, 74, 75, 76, 77, 78, 79, 80, 81, 82, 83, 84, 85, 86, 87, 88, 89, 90, 91, 92, 93, 94, 95, 96, 97, 98, 99, 100, 101, 102, 103, 104, 105, 106, 107, 108, 109, 110, 111, 112, 113, 114, 115, 116, 117, 118, 119] (fun q => [(60, .int .i64 (q.1 : Nat))]) (fun q => fun w' => q.1 ≤ m0 ∧ q.2.1 ≤ 17 + 6 * q.1 ∧ q.2.2.1.length ≤ q.1 ∧ OwnSl 46 6 (.slice q.2.2.2.1 q.2.2.1.length q.2.2.2.2.1) q.2.2.1.length (q.2.2.1.flatMap siC) q.2.2.2.2.2 ∧ (∀ s ∈ q.2.2.1, SiOk (nn : Nat) s ∧ TruS P s) ∧ Hp u [] ([(B39, .cells cur 39), (B6, .cells #[.int .i64 (nn : Nat), .slice q.2.2.2.1 q.2.2.1.length q.2.2.2.2.1] 24), (Bat, .cells #[.int .i64 ((q.2.1 : Nat) : Int)] 3), (Bby, .cells #[.slice sy l.length cy] 42)] ++ q.2.2.2.2.2) w') (fun q => m0 - q.1) ((0, at1 + 1, [], none, 0, [])) hf ?_ ?_ ?_
     · repeat' (first | exact True.intro | refine And.intro rfl ?_)
     · exact ⟨Nat.zero_le _, by simp only; omega, Nat.le_refl _, OwnSl.nil _ _, (fun s hs => by cases hs), hh⟩
     ·rintro q a w ⟨hj, hat2, hLl, hOw, hLs, hh⟩ hf
      obtain ⟨j, at2, L, oa, cx, X⟩ := q; simp only at hj hat2 hLl hOw hLs hh hf ⊢
      refine sy_sq ?_
      refine o_v hf hh (yv_bin rfl rfl rfl) ?_; clear hf a; intro a hf
      refine o_end ?_
      refine sy_seq ?_
      refine sy_cond hf rfl (fun hg16 => ?_) (fun hg16 => ?_)
      ·have hG16 := hg16; try simp only [gS] at hG16
       refine sy_skip ?_
       refine then_n ?_
       refine sy_seq ?_
       refine sy_block ?_
       refine sy_seq ?_
       refine sy_treeC (.p 0 (.p 1 (.q 0 2 (.p 4 (.p 5 (.q 0 6 (.e1 3 (.e1 7 (.p 8 (.p 9 (.fin))))))))))) [[7]] [(AtE u [] [(B6, .cells #[.int .i64 (nn : Nat), .slice oa L.length cx] 24)], [7])] Try.follows (by kernel_rfl) rfl hh (fun w hh => ?_)
       refine mc_p rfl   hf (yv_move rfl) (.inl rfl) rfl rfl ?_; clear hf a; intro a hf
       refine mc_p rfl   hf (yv_fieldAddr Try.fo_24_0 rfl) (.inl rfl) rfl rfl ?_; clear hf a; intro a hf
       refine mc_q rfl rfl (AtE.of hh (by intro p hp; rw [List.mem_singleton.1 hp]; simp)) hf (y_ld Try.sc_3 rfl) (.inl rfl) rfl rfl ?_; clear hf a; intro a hf
       refine mc_p rfl   hf (yv_move rfl) (.inl rfl) rfl rfl ?_; clear hf a; intro a hf
       refine mc_p rfl   hf (yv_fieldAddr Try.fo_24_0 rfl) (.inl rfl) rfl rfl ?_; clear hf a; intro a hf
       refine mc_q rfl rfl (AtE.of hh (by intro p hp; rw [List.mem_singleton.1 hp]; simp)) hf (y_ld Try.sc_3 rfl) (.inl rfl) rfl rfl ?_; clear hf a; intro a hf
       refine mc_e rfl fun Q1 => ?_
       refine o_call hf Try.en_57 rfl rfl rfl (p57 Bat Bby sy l.length cy (at2) _ (hDr hh (by simp)) (hh.at (i := 2) rfl) (by omega) (nn : Nat) (by omega)) ?_; clear hf a; intro v a w hR hf
       obtain ⟨ra, rfl, hra, hx⟩ := hR; replace hh : Hp u [] ([(B39, .cells cur 39), (B6, .cells #[.int .i64 (nn : Nat), .slice oa L.length cx] 24), (Bat, .cells #[.int .i64 ((at2 + 1 : Nat) : Int)] 3), (Bby, .cells #[.slice sy l.length cy] 42)] ++ X) w := hh.turn (i := 2) rfl hx.ext (hx.at (i := 0) rfl); clear hx
       refine ops_end ?_
       refine then_n ⟨⟨fun _ _ => (AtE.of hh (by intro p hp; rw [List.mem_singleton.1 hp]; simp)), trivial⟩, ?_⟩
       refine mc_e rfl fun Q1 => ?_
       refine o_call hf Try.en_57 rfl rfl rfl (p57 Bat Bby sy l.length cy (at2 + 1) _ (hDr hh (by simp)) (hh.at (i := 2) rfl) (by omega) (nn : Nat) (by omega)) ?_; clear hf a; intro v a w hR hf
       obtain ⟨rb, rfl, hrb, hx⟩ := hR; replace hh : Hp u [] ([(B39, .cells cur 39), (B6, .cells #[.int .i64 (nn : Nat), .slice oa L.length cx] 24), (Bat, .cells #[.int .i64 ((at2 + 2 : Nat) : Int)] 3), (Bby, .cells #[.slice sy l.length cy] 42)] ++ X) w := hh.turn (i := 2) rfl hx.ext (hx.at (i := 0) rfl); clear hx
       refine ops_end ?_
       refine then_n ⟨⟨fun h => Bool.noConfusion (show true = false from h), trivial⟩, ?_⟩
       refine mc_p rfl   hf (yv_assign rfl) (.inl rfl) rfl rfl ?_; clear hf a; intro a hf
       refine mc_p rfl   hf (yv_assign rfl) (.inl rfl) rfl rfl ?_; clear hf a; intro a hf
       refine mc_end ?_
       refine then_n ?_
       refine sy_seq ?_
       refine sy_sq ?_
       refine o_v hf hh (yv_move rfl) ?_; clear hf a; intro a hf
       refine o_v hf hh (yv_move rfl) ?_; clear hf a; intro a hf
       refine o_v hf hh (yv_bin rfl rfl rfl) ?_; clear hf a; intro a hf
       refine o_end ?_
       refine sy_cond hf rfl (fun hg20 => ?_) (fun hg20 => ?_)
       ·have hG20 := hg20; try simp only [gS] at hG20
        refine sy_exit ?_
        refine then_e ?_
        refine blk_e ?_
        refine then_n ?_
        refine sy_ops ?_
        refine o_v hf hh (y_add rfl rfl) ?_; clear hf a; intro a hf
        refine o_v hf hh (yv_move rfl) ?_; clear hf a; intro a hf
        refine ops_end ?_
        refine then_n ?_
        first
          | (refine ⟨(j + 1, at2 + 6, L ++ [(⟨(ra : Nat), (rb : Nat), (P rb).1 - (P ra).1 - s1, (P rb).1 - (P ra).1 + s2, (P rb).2 - (P ra).2 - s3, (P rb).2 - (P ra).2 + s4⟩ : SiD)], oa2, cx2, X2), ⟨⟨by simp only; omega, by simp only; omega, by simp only [List.length_append, List.length_cons, List.length_nil]; omega, hO2, fun s hs => ?_, hh⟩, (hf.head (by repeat' (first | exact True.intro | refine And.intro rfl ?_)) (Keep.cons rfl (Keep.cons rfl (Keep.cons rfl (Keep.cons rfl (Keep.cons rfl (Keep.cons rfl (Keep.cons rfl (Keep.cons rfl (Keep.cons rfl (Keep.cons rfl (Keep.cons rfl (Keep.cons rfl (Keep.cons rfl (Keep.cons rfl (Keep.cons rfl (Keep.cons rfl (Keep.app rfl (Keep.rm rfl Keep.base)))))))))))))))))))⟩, by simp only; omega⟩
             rcases List.mem_append.1 hs with h | h
             · exact hLs s h
             · rw [List.mem_singleton.1 h]
               refine ⟨si_ok ⟨by omega, by omega⟩ ⟨by omega, by omega⟩ (by omega) (by omega) (by omega) (by omega) (by omega) (by omega) (by omega), ⟨?_, ?_⟩⟩
               · simp only [Int.toNat_natCast]; omega
               · simp only [Int.toNat_natCast]; omega)
          | exact ⟨(j + 1, at2 + 2, L, oa, cx, X), ⟨⟨by simp only; omega, by simp only; omega, by simp only; omega, hOw, hLs, hh⟩, (hf.head (by repeat' (first | exact True.intro | refine And.intro rfl ?_)) (Keep.cons rfl (Keep.cons rfl (Keep.cons rfl (Keep.cons rfl (Keep.cons rfl (Keep.cons rfl (Keep.cons rfl (Keep.cons rfl (Keep.cons rfl (Keep.cons rfl (Keep.cons rfl (Keep.cons rfl (Keep.cons rfl (Keep.cons rfl (Keep.cons rfl (Keep.cons rfl (Keep.app rfl (Keep.rm rfl Keep.base)))))))))))))))))))⟩, by simp only; omega⟩
       ·have hG20 := hg20; try simp only [gS] at hG20
        refine sy_skip ?_
        refine then_n ?_
        refine sy_seq ?_
        have hba := hbd ra; have hbb := hbd rb
        obtain ⟨ga1, ga2⟩ := hPt.2 ra (by omega)
        obtain ⟨gb1, gb2⟩ := hPt.2 rb (by omega)
        refine sy_quiet (C := Hp _ _ _) Try.follows (by kernel_rfl) (hh.drawn _) ?_
        refine oq_v hf (yv_move rfl) ?_; clear hf a; intro a hf
        refine oq_v hf (yv_move rfl) ?_; clear hf a; intro a hf
        refine oq_v hf (y_ix Try.se_33 rfl rfl) ?_; clear hf a; intro a hf
        refine oq_v hf (yv_fieldAddr Try.fo_39_0 rfl) ?_; clear hf a; intro a hf
        refine oq_v hf (y_ld Try.sc_3 rfl) ?_; clear hf a; intro a hf
        refine oq_v hf (yv_move rfl) ?_; clear hf a; intro a hf
        refine oq_v hf (yv_move rfl) ?_; clear hf a; intro a hf
        refine oq_v hf (y_ix Try.se_33 rfl rfl) ?_; clear hf a; intro a hf
        refine oq_v hf (yv_fieldAddr Try.fo_39_0 rfl) ?_; clear hf a; intro a hf
        refine oq_v hf (y_ld Try.sc_3 rfl) ?_; clear hf a; intro a hf
        refine oq_v hf (y_sub rfl rfl) ?_; clear hf a; intro a hf
        refine oq_v hf (yv_move rfl) ?_; clear hf a; intro a hf
        refine oq_v hf (yv_move rfl) ?_; clear hf a; intro a hf
        refine oq_v hf (y_ix Try.se_33 rfl rfl) ?_; clear hf a; intro a hf
        refine oq_v hf (yv_fieldAddr Try.fo_39_1 rfl) ?_; clear hf a; intro a hf
        refine oq_v hf (y_ld Try.sc_3 rfl) ?_; clear hf a; intro a hf
        refine oq_v hf (yv_move rfl) ?_; clear hf a; intro a hf
        refine oq_v hf (yv_move rfl) ?_; clear hf a; intro a hf
        refine oq_v hf (y_ix Try.se_33 rfl rfl) ?_; clear hf a; intro a hf
        refine oq_v hf (yv_fieldAddr Try.fo_39_1 rfl) ?_; clear hf a; intro a hf
        refine oq_v hf (y_ld Try.sc_3 rfl) ?_; clear hf a; intro a hf
        refine oq_v hf (y_sub rfl rfl) ?_; clear hf a; intro a hf
        refine oq_v hf (yv_assign rfl) ?_; clear hf a; intro a hf
        refine oq_v hf (yv_assign rfl) ?_; clear hf a; intro a hf
        refine q_end fun w hh => ?_
        refine then_n ?_
        refine sy_treeC (.p 0 (.q 0 1 (.p 2 (.p 3 (.p 4 (.p 5 (.p 8 (.p 9 (.p 12 (.p 13 (.p 16 (.p 17 (.e1 6 (.p 7 (.e1 10 (.p 11 (.e1 14 (.p 15 (.e1 18 (.p 19 (.e1 20 (.e1 21 (.e1 22 (.p 23 (.e1 24 (.fin)))))))))))))))))))))))))) [[24]] [(AtE u [] [(B6, .cells #[.int .i64 (nn : Nat), .slice oa L.length cx] 24)], [24])] Try.follows (by kernel_rfl) rfl hh (fun w hh => ?_)
        refine mc_p rfl   hf (yv_fieldAddr Try.fo_24_1 rfl) (.inl rfl) rfl rfl ?_; clear hf a; intro a hf
        refine mc_q rfl rfl (AtE.of hh (by intro p hp; rw [List.mem_singleton.1 hp]; simp)) hf (y_ld Try.sc_22 rfl) (.inl rfl) rfl rfl ?_; clear hf a; intro a hf
        refine mc_p rfl   hf (yv_move rfl) (.inl rfl) rfl rfl ?_; clear hf a; intro a hf
        refine mc_p rfl   hf (yv_move rfl) (.inl rfl) rfl rfl ?_; clear hf a; intro a hf
        refine mc_p rfl   hf (yv_move rfl) (.inl rfl) rfl rfl ?_; clear hf a; intro a hf
        refine mc_p rfl   hf (yv_move rfl) (.inl rfl) rfl rfl ?_; clear hf a; intro a hf
        refine mc_p rfl   hf (yv_move rfl) (.inl rfl) rfl rfl ?_; clear hf a; intro a hf
        refine mc_p rfl   hf (yv_move rfl) (.inl rfl) rfl rfl ?_; clear hf a; intro a hf
        refine mc_p rfl   hf (yv_move rfl) (.inl rfl) rfl rfl ?_; clear hf a; intro a hf
        refine mc_p rfl   hf (yv_move rfl) (.inl rfl) rfl rfl ?_; clear hf a; intro a hf
        refine mc_p rfl   hf (yv_move rfl) (.inl rfl) rfl rfl ?_; clear hf a; intro a hf
        refine mc_p rfl   hf (yv_move rfl) (.inl rfl) rfl rfl ?_; clear hf a; intro a hf
        refine mc_e rfl fun Q1 => ?_
        refine o_call hf Try.en_57 rfl rfl rfl (p57 Bat Bby sy l.length cy (at2 + 2) _ (hDr hh (by simp)) (hh.at (i := 2) rfl) (by omega) 30 (by omega)) ?_; clear hf a; intro v a w hR hf
        obtain ⟨s1, rfl, hs1, hx⟩ := hR; replace hh : Hp u [] ([(B39, .cells cur 39), (B6, .cells #[.int .i64 (nn : Nat), .slice oa L.length cx] 24), (Bat, .cells #[.int .i64 ((at2 + 3 : Nat) : Int)] 3), (Bby, .cells #[.slice sy l.length cy] 42)] ++ X) w := hh.turn (i := 2) rfl hx.ext (hx.at (i := 0) rfl); clear hx
        refine ops_end ?_
        refine then_n ⟨⟨fun _ _ => (AtE.of hh (by intro p hp; rw [List.mem_singleton.1 hp]; simp)), trivial⟩, ?_⟩
        refine mc_p rfl   hf (y_sub rfl rfl) (.inl rfl) rfl rfl ?_; clear hf a; intro a hf
        refine mc_e rfl fun Q1 => ?_
        refine o_call hf Try.en_57 rfl rfl rfl (p57 Bat Bby sy l.length cy (at2 + 3) _ (hDr hh (by simp)) (hh.at (i := 2) rfl) (by omega) 30 (by omega)) ?_; clear hf a; intro v a w hR hf
        obtain ⟨s2, rfl, hs2, hx⟩ := hR; replace hh : Hp u [] ([(B39, .cells cur 39), (B6, .cells #[.int .i64 (nn : Nat), .slice oa L.length cx] 24), (Bat, .cells #[.int .i64 ((at2 + 4 : Nat) : Int)] 3), (Bby, .cells #[.slice sy l.length cy] 42)] ++ X) w := hh.turn (i := 2) rfl hx.ext (hx.at (i := 0) rfl); clear hx
        refine ops_end ?_
        refine then_n ⟨⟨fun _ _ => (AtE.of hh (by intro p hp; rw [List.mem_singleton.1 hp]; simp)), trivial⟩, ?_⟩
        refine mc_p rfl   hf (y_add rfl rfl) (.inl rfl) rfl rfl ?_; clear hf a; intro a hf
        refine mc_e rfl fun Q1 => ?_
        refine o_call hf Try.en_57 rfl rfl rfl (p57 Bat Bby sy l.length cy (at2 + 4) _ (hDr hh (by simp)) (hh.at (i := 2) rfl) (by omega) 30 (by omega)) ?_; clear hf a; intro v a w hR hf
        obtain ⟨s3, rfl, hs3, hx⟩ := hR; replace hh : Hp u [] ([(B39, .cells cur 39), (B6, .cells #[.int .i64 (nn : Nat), .slice oa L.length cx] 24), (Bat, .cells #[.int .i64 ((at2 + 5 : Nat) : Int)] 3), (Bby, .cells #[.slice sy l.length cy] 42)] ++ X) w := hh.turn (i := 2) rfl hx.ext (hx.at (i := 0) rfl); clear hx
        refine ops_end ?_
        refine then_n ⟨⟨fun _ _ => (AtE.of hh (by intro p hp; rw [List.mem_singleton.1 hp]; simp)), trivial⟩, ?_⟩
        refine mc_p rfl   hf (y_sub rfl rfl) (.inl rfl) rfl rfl ?_; clear hf a; intro a hf
        refine mc_e rfl fun Q1 => ?_
        refine o_call hf Try.en_57 rfl rfl rfl (p57 Bat Bby sy l.length cy (at2 + 5) _ (hDr hh (by simp)) (hh.at (i := 2) rfl) (by omega) 30 (by omega)) ?_; clear hf a; intro v a w hR hf
        obtain ⟨s4, rfl, hs4, hx⟩ := hR; replace hh : Hp u [] ([(B39, .cells cur 39), (B6, .cells #[.int .i64 (nn : Nat), .slice oa L.length cx] 24), (Bat, .cells #[.int .i64 ((at2 + 6 : Nat) : Int)] 3), (Bby, .cells #[.slice sy l.length cy] 42)] ++ X) w := hh.turn (i := 2) rfl hx.ext (hx.at (i := 0) rfl); clear hx
        refine ops_end ?_
        refine then_n ⟨⟨fun _ _ => (AtE.of hh (by intro p hp; rw [List.mem_singleton.1 hp]; simp)), trivial⟩, ?_⟩
        refine mc_p rfl   hf (y_add rfl rfl) (.inl rfl) rfl rfl ?_; clear hf a; intro a hf
        refine mc_e rfl fun Q1 => ?_
        refine o_call hf Try.en_29 rfl rfl rfl (p29 _ _ _ _ _ _ _) ?_; clear hf a; intro v a w hR hf
        obtain ⟨rfl, hx⟩ := hR; replace hh := hh.more hx; clear hx
        refine ops_end ?_
        refine then_n ⟨⟨fun _ _ => (AtE.of hh (by intro p hp; rw [List.mem_singleton.1 hp]; simp)), trivial⟩, ?_⟩
        refine mc_e rfl fun Q1 => ?_
        refine ops_buildSl hf hh Try.bl_22_1 rfl rfl (.inl rfl) rfl ?_; clear hf hh; clear a; intro B116 a w hf hh
        refine ops_end ?_
        refine then_n ⟨⟨fun _ _ => (AtE.of hh (by intro p hp; rw [List.mem_singleton.1 hp]; simp)), trivial⟩, ?_⟩
        refine mc_e rfl fun Q1 => ?_
        refine ops_append (e := 46) (size := 6) (xs := L.flatMap siC) (X := X) (Z := [(B39, Obj.cells cur 39), (B6, Obj.cells #[.int .i64 (nn : Nat), .slice oa L.length cx] 24), (Bat, Obj.cells #[.int .i64 ((at2 + 6 : Nat) : Int)] 3), (Bby, Obj.cells #[.slice sy l.length cy] 42)]) (m := L.length) (q := 1) hf (hh.perm (.cons _ List.perm_append_comm)) Try.eb_22 rfl rfl hOw rfl rfl rfl (by simp only [maxLen]; omega) (by omega) (.inl rfl) rfl ?_; clear hf hh a; intro v117 X2 a w hO2 hf hh
        replace hO2 : OwnSl 46 6 v117 (L ++ [(⟨(ra : Nat), (rb : Nat), (P rb).1 - (P ra).1 - s1, (P rb).1 - (P ra).1 + s2, (P rb).2 - (P ra).2 - s3, (P rb).2 - (P ra).2 + s4⟩ : SiD)]).length ((L ++ [(⟨(ra : Nat), (rb : Nat), (P rb).1 - (P ra).1 - s1, (P rb).1 - (P ra).1 + s2, (P rb).2 - (P ra).2 - s3, (P rb).2 - (P ra).2 + s4⟩ : SiD)]).flatMap siC) X2 := by rw [List.length_append, List.flatMap_append]; exact hO2
        obtain ⟨oa2, cx2, rfl⟩ := own_val hO2
        replace hh : Hp u [] ([(B39, .cells cur 39), (B6, .cells #[.int .i64 (nn : Nat), .slice oa L.length cx] 24), (Bat, .cells #[.int .i64 ((at2 + 6 : Nat) : Int)] 3), (Bby, .cells #[.slice sy l.length cy] 42)] ++ X2) w := hh.perm List.perm_append_comm
        refine ops_end ?_
        refine then_n ⟨⟨fun _ _ => (AtE.of hh (by intro p hp; rw [List.mem_singleton.1 hp]; simp)), trivial⟩, ?_⟩
        refine mc_p rfl   hf (yv_fieldAddr Try.fo_24_1 rfl) (.inl rfl) rfl rfl ?_; clear hf a; intro a hf
        refine mc_e rfl fun Q1 => ?_
        refine o_store hf hh Try.sz_22 fun w hh => ?_
        refine ops_end ?_
        refine then_n ⟨⟨fun h => Bool.noConfusion (show true = false from h), trivial⟩, ?_⟩
        refine mc_end ?_
        refine blk_n ?_
        refine then_n ?_
        refine sy_ops ?_
        refine o_v hf hh (y_add rfl rfl) ?_; clear hf a; intro a hf
        refine o_v hf hh (yv_move rfl) ?_; clear hf a; intro a hf
        refine ops_end ?_
        refine then_n ?_
        first
          | (refine ⟨(j + 1, at2 + 6, L ++ [(⟨(ra : Nat), (rb : Nat), (P rb).1 - (P ra).1 - s1, (P rb).1 - (P ra).1 + s2, (P rb).2 - (P ra).2 - s3, (P rb).2 - (P ra).2 + s4⟩ : SiD)], oa2, cx2, X2), ⟨⟨by simp only; omega, by simp only; omega, by simp only [List.length_append, List.length_cons, List.length_nil]; omega, hO2, fun s hs => ?_, hh⟩, (hf.head (by repeat' (first | exact True.intro | refine And.intro rfl ?_)) (Keep.cons rfl (Keep.cons rfl (Keep.cons rfl (Keep.cons rfl (Keep.cons rfl (Keep.cons rfl (Keep.cons rfl (Keep.cons rfl (Keep.cons rfl (Keep.cons rfl (Keep.cons rfl (Keep.cons rfl (Keep.cons rfl (Keep.cons rfl (Keep.cons rfl (Keep.cons rfl (Keep.cons rfl (Keep.cons rfl (Keep.cons rfl (Keep.cons rfl (Keep.cons rfl (Keep.cons rfl (Keep.cons rfl (Keep.cons rfl (Keep.cons rfl (Keep.cons rfl (Keep.cons rfl (Keep.cons rfl (Keep.cons rfl (Keep.cons rfl (Keep.cons rfl (Keep.cons rfl (Keep.cons rfl (Keep.cons rfl (Keep.cons rfl (Keep.cons rfl (Keep.cons rfl (Keep.cons rfl (Keep.cons rfl (Keep.cons rfl (Keep.cons rfl (Keep.cons rfl (Keep.cons rfl (Keep.cons rfl (Keep.cons rfl (Keep.cons rfl (Keep.cons rfl (Keep.cons rfl (Keep.cons rfl (Keep.cons rfl (Keep.cons rfl (Keep.cons rfl (Keep.cons rfl (Keep.cons rfl (Keep.cons rfl (Keep.cons rfl (Keep.cons rfl (Keep.cons rfl (Keep.cons rfl (Keep.cons rfl (Keep.cons rfl (Keep.cons rfl (Keep.cons rfl (Keep.cons rfl (Keep.app rfl (Keep.rm rfl Keep.base)))))))))))))))))))))))))))))))))))))))))))))))))))))))))))))))))))⟩, by simp only; omega⟩
             rcases List.mem_append.1 hs with h | h
             · exact hLs s h
             · rw [List.mem_singleton.1 h]
               refine ⟨si_ok ⟨by omega, by omega⟩ ⟨by omega, by omega⟩ (by omega) (by omega) (by omega) (by omega) (by omega) (by omega) (by omega), ⟨?_, ?_⟩⟩
               · simp only [Int.toNat_natCast]; omega
               · simp only [Int.toNat_natCast]; omega)
          | exact ⟨(j + 1, at2 + 2, L, oa, cx, X), ⟨⟨by simp only; omega, by simp only; omega, by simp only; omega, hOw, hLs, hh⟩, (hf.head (by repeat' (first | exact True.intro | refine And.intro rfl ?_)) (Keep.cons rfl (Keep.cons rfl (Keep.cons rfl (Keep.cons rfl (Keep.cons rfl (Keep.cons rfl (Keep.cons rfl (Keep.cons rfl (Keep.cons rfl (Keep.cons rfl (Keep.cons rfl (Keep.cons rfl (Keep.cons rfl (Keep.cons rfl (Keep.cons rfl (Keep.cons rfl (Keep.cons rfl (Keep.cons rfl (Keep.cons rfl (Keep.cons rfl (Keep.cons rfl (Keep.cons rfl (Keep.cons rfl (Keep.cons rfl (Keep.cons rfl (Keep.cons rfl (Keep.cons rfl (Keep.cons rfl (Keep.cons rfl (Keep.cons rfl (Keep.cons rfl (Keep.cons rfl (Keep.cons rfl (Keep.cons rfl (Keep.cons rfl (Keep.cons rfl (Keep.cons rfl (Keep.cons rfl (Keep.cons rfl (Keep.cons rfl (Keep.cons rfl (Keep.cons rfl (Keep.cons rfl (Keep.cons rfl (Keep.cons rfl (Keep.cons rfl (Keep.cons rfl (Keep.cons rfl (Keep.cons rfl (Keep.cons rfl (Keep.cons rfl (Keep.cons rfl (Keep.cons rfl (Keep.cons rfl (Keep.cons rfl (Keep.cons rfl (Keep.cons rfl (Keep.cons rfl (Keep.cons rfl (Keep.cons rfl (Keep.cons rfl (Keep.cons rfl (Keep.cons rfl (Keep.cons rfl (Keep.app rfl (Keep.rm rfl Keep.base)))))))))))))))))))))))))))))))))))))))))))))))))))))))))))))))))))⟩, by simp only; omega⟩
      ·have hG16 := hg16; try simp only [gS] at hG16
       refine sy_exit ?_
       refine then_e ?_
       refine then_e ?_
       refine blk_e ?_
       refine then_n ?_
       refine sy_seq ?_
       obtain ⟨c, hcn, hcs⟩ : ∃ c : ChD, c.n = ((nn : Nat) : Int) ∧ c.si = L := ⟨⟨_, L⟩, rfl, rfl⟩
       subst hcs
       have hO : ChOk c := ⟨by omega, by omega, by omega, fun s hs => by rw [hcn]; exact (hLs s hs).1⟩
       have hT : ∀ s ∈ c.si, TruS P s := fun s hs => (hLs s hs).2
       have hA : ∀ w2 : World, (∀ q ∈ X, w2.heap[q.1]? = some q.2) → ChAt w2 c oa := fun w2 h => ok_at hO (own_tat siC_len hOw rfl h)
       rw [← hcn] at hh
       have hwr := tru_wr hO hT
       have hcb := chB_iff.2 hO
       have k1 : whyE c = 0 := by rw [why_e hcb, if_pos hwr]
       have k2 : whyV c = 0 := by rw [why_v hcb, hwr]; rfl
       have k3 : drpE c = 0 := (drp_good hcb).1
       have k4 : drpV c = 0 := by rw [(drp_good hcb).2]; exact drp_zero hwr
       refine sy_ops ?_
       refine o_v hf hh (y_lds Try.ag_24 rfl) ?_; clear hf a; intro a hf
       refine o_call hf Try.en_24 rfl rfl rfl (p24 c oa cx _ (hA _ (fun q hq => hh.get q (by simp [hq])))) ?_; clear hf a; intro v a w hR hf
       obtain ⟨rfl, hx⟩ := hR; replace hh := hh.more hx; clear hx
       refine o_v hf hh (yv_move rfl) ?_; clear hf a; intro a hf
       refine o_v hf hh (yv_extract rfl rfl) ?_; clear hf a; intro a hf
       refine o_v hf hh (yv_extract rfl rfl) ?_; clear hf a; intro a hf
       refine o_v hf hh (yv_assign rfl) ?_; clear hf a; intro a hf
       refine o_v hf hh (yv_assign rfl) ?_; clear hf a; intro a hf
       refine o_end ?_
       refine sy_sq ?_
       refine o_v hf hh (y_lds Try.ag_24 rfl) ?_; clear hf a; intro a hf
       refine o_call hf Try.en_26 rfl rfl rfl (p26 c oa cx _ (hA _ (fun q hq => hh.get q (by simp [hq])))) ?_; clear hf a; intro v a w hR hf
       obtain ⟨rfl, hx⟩ := hR; replace hh := hh.more hx; clear hx
       refine o_v hf hh (yv_move rfl) ?_; clear hf a; intro a hf
       refine o_v hf hh (yv_extract rfl rfl) ?_; clear hf a; intro a hf
       refine o_v hf hh (yv_extract rfl rfl) ?_; clear hf a; intro a hf
       refine o_v hf hh (yv_assign rfl) ?_; clear hf a; intro a hf
       refine o_v hf hh (yv_assign rfl) ?_; clear hf a; intro a hf
       refine o_end ?_
       refine sy_seq ?_
       refine sy_sq ?_
       refine o_v hf hh (yv_move rfl) ?_; clear hf a; intro a hf
       refine o_v hf hh (yv_bin rfl rfl rfl) ?_; clear hf a; intro a hf
       refine o_v hf hh (yv_move rfl) ?_; clear hf a; intro a hf
       refine guard_split hf (t := 132) rfl (fun hg34 => ?_) (fun hg34 => ?_)
       ·have hG34 := hg34; try simp only [gS] at hG34
        refine o_off hf ?_; clear hf a; intro a hf
        refine o_off hf ?_; clear hf a; intro a hf
        refine o_v hf hh (y_pt rfl rfl) ?_; clear hf a; intro a hf
        refine o_v hf hh (yv_move rfl) ?_; clear hf a; intro a hf
        refine o_off hf ?_; clear hf a; intro a hf
        refine o_off hf ?_; clear hf a; intro a hf
        refine o_v hf hh (y_pt rfl rfl) ?_; clear hf a; intro a hf
        refine o_v hf hh (yv_move rfl) ?_; clear hf a; intro a hf
        refine o_off hf ?_; clear hf a; intro a hf
        refine o_off hf ?_; clear hf a; intro a hf
        refine o_v hf hh (y_pt rfl rfl) ?_; clear hf a; intro a hf
        refine o_end ?_
        refine c_t hf ?_
        refine sy_sq ?_
        refine o_v hf hh (yv_assign rfl) ?_; clear hf a; intro a hf
        refine o_end ?_
        refine sy_ret ?_
        refine then_r ?_
        refine ret_r hf rfl rfl ?_
        first
          | exact ⟨rfl, (by first | exact hh.ext | exact e3.trans hh.ext)⟩
          | (exfalso
             (repeat (rename Fr _ _ _ _ => z9; clear z9))
             (repeat (rename Hp _ _ _ _ => z9; clear z9))
             (try clear hcn); (try clear hat); (try clear hbe)
             first
               | (rcases hKd with ⟨h1, h2⟩ | ⟨h1, h2⟩ <;> first | (omega; done) | (simp_all; done))
               | (rcases hb2 with h1 | h1 <;> first | (omega; done) | (simp_all; done))
               | (rcases hK with ⟨h1, h2, h3⟩ | ⟨h1, h2, h3⟩ | ⟨h1, h2, h3⟩ <;> first | (omega; done) | (simp_all; done))
               | (omega; done)
               | (simp_all; done)
               | (simp_all <;> omega))
          | omega
       ·have hG34 := hg34; try simp only [gS] at hG34
        refine o_v hf hh (yv_move rfl) ?_; clear hf a; intro a hf
        refine o_v hf hh (yv_bin rfl rfl rfl) ?_; clear hf a; intro a hf
        refine o_v hf hh (y_pf rfl rfl) ?_; clear hf a; intro a hf
        refine o_v hf hh (yv_move rfl) ?_; clear hf a; intro a hf
        refine guard_split hf (t := 136) rfl (fun hg36 => ?_) (fun hg36 => ?_)
        ·have hG36 := hg36; try simp only [gS] at hG36
         refine o_off hf ?_; clear hf a; intro a hf
         refine o_off hf ?_; clear hf a; intro a hf
         refine o_v hf hh (y_pt rfl rfl) ?_; clear hf a; intro a hf
         refine o_v hf hh (yv_move rfl) ?_; clear hf a; intro a hf
         refine o_off hf ?_; clear hf a; intro a hf
         refine o_off hf ?_; clear hf a; intro a hf
         refine o_v hf hh (y_pt rfl rfl) ?_; clear hf a; intro a hf
         refine o_end ?_
         refine c_t hf ?_
         refine sy_sq ?_
         refine o_v hf hh (yv_assign rfl) ?_; clear hf a; intro a hf
         refine o_end ?_
         refine sy_ret ?_
         refine then_r ?_
         refine ret_r hf rfl rfl ?_
         first
           | exact ⟨rfl, (by first | exact hh.ext | exact e3.trans hh.ext)⟩
           | (exfalso
              (repeat (rename Fr _ _ _ _ => z9; clear z9))
              (repeat (rename Hp _ _ _ _ => z9; clear z9))
              (try clear hcn); (try clear hat); (try clear hbe)
              first
                | (rcases hKd with ⟨h1, h2⟩ | ⟨h1, h2⟩ <;> first | (omega; done) | (simp_all; done))
                | (rcases hb2 with h1 | h1 <;> first | (omega; done) | (simp_all; done))
                | (rcases hK with ⟨h1, h2, h3⟩ | ⟨h1, h2, h3⟩ | ⟨h1, h2, h3⟩ <;> first | (omega; done) | (simp_all; done))
                | (omega; done)
                | (simp_all; done)
                | (simp_all <;> omega))
           | omega
        ·have hG36 := hg36; try simp only [gS] at hG36
         refine o_v hf hh (yv_move rfl) ?_; clear hf a; intro a hf
         refine o_v hf hh (yv_bin rfl rfl rfl) ?_; clear hf a; intro a hf
         refine o_v hf hh (y_pf rfl rfl) ?_; clear hf a; intro a hf
         refine o_v hf hh (yv_move rfl) ?_; clear hf a; intro a hf
         refine guard_split hf (t := 140) rfl (fun hg38 => ?_) (fun hg38 => ?_)
         ·have hG38 := hg38; try simp only [gS] at hG38
          refine o_off hf ?_; clear hf a; intro a hf
          refine o_off hf ?_; clear hf a; intro a hf
          refine o_v hf hh (y_pt rfl rfl) ?_; clear hf a; intro a hf
          refine o_end ?_
          refine c_t hf ?_
          refine sy_sq ?_
          refine o_v hf hh (yv_assign rfl) ?_; clear hf a; intro a hf
          refine o_end ?_
          refine sy_ret ?_
          refine then_r ?_
          refine ret_r hf rfl rfl ?_
          first
            | exact ⟨rfl, (by first | exact hh.ext | exact e3.trans hh.ext)⟩
            | (exfalso
               (repeat (rename Fr _ _ _ _ => z9; clear z9))
               (repeat (rename Hp _ _ _ _ => z9; clear z9))
               (try clear hcn); (try clear hat); (try clear hbe)
               first
                 | (rcases hKd with ⟨h1, h2⟩ | ⟨h1, h2⟩ <;> first | (omega; done) | (simp_all; done))
                 | (rcases hb2 with h1 | h1 <;> first | (omega; done) | (simp_all; done))
                 | (rcases hK with ⟨h1, h2, h3⟩ | ⟨h1, h2, h3⟩ | ⟨h1, h2, h3⟩ <;> first | (omega; done) | (simp_all; done))
                 | (omega; done)
                 | (simp_all; done)
                 | (simp_all <;> omega))
            | omega
         ·have hG38 := hg38; try simp only [gS] at hG38
          refine o_v hf hh (yv_move rfl) ?_; clear hf a; intro a hf
          refine o_v hf hh (yv_bin rfl rfl rfl) ?_; clear hf a; intro a hf
          refine o_v hf hh (y_pf rfl rfl) ?_; clear hf a; intro a hf
          refine o_end ?_
          refine sy_cond hf rfl (fun hg40 => ?_) (fun hg40 => ?_)
          ·have hG40 := hg40; try simp only [gS] at hG40
           refine sy_sq ?_
           refine o_v hf hh (yv_assign rfl) ?_; clear hf a; intro a hf
           refine o_end ?_
           refine sy_ret ?_
           refine then_r ?_
           refine ret_r hf rfl rfl ?_
           first
             | exact ⟨rfl, (by first | exact hh.ext | exact e3.trans hh.ext)⟩
             | (exfalso
                (repeat (rename Fr _ _ _ _ => z9; clear z9))
                (repeat (rename Hp _ _ _ _ => z9; clear z9))
                (try clear hcn); (try clear hat); (try clear hbe)
                first
                  | (rcases hKd with ⟨h1, h2⟩ | ⟨h1, h2⟩ <;> first | (omega; done) | (simp_all; done))
                  | (rcases hb2 with h1 | h1 <;> first | (omega; done) | (simp_all; done))
                  | (rcases hK with ⟨h1, h2, h3⟩ | ⟨h1, h2, h3⟩ | ⟨h1, h2, h3⟩ <;> first | (omega; done) | (simp_all; done))
                  | (omega; done)
                  | (simp_all; done)
                  | (simp_all <;> omega))
             | omega
          ·have hG40 := hg40; try simp only [gS] at hG40
           refine sy_skip ?_
           refine then_n ?_
           refine sy_sq ?_
           refine o_v hf hh (y_lds Try.ag_24 rfl) ?_; clear hf a; intro a hf
           refine o_call hf Try.en_19 rfl rfl rfl (p19 c oa cx _ (hA _ (fun q hq => hh.get q (by simp [hq])))) ?_; clear hf a; intro v a w hR hf
           obtain ⟨so, co, rfl, hT9, hx⟩ := hR; replace hh := hh.more hx; clear hx
           refine o_v hf hh (yv_move rfl) ?_; clear hf a; intro a hf
           refine o_v hf hh (yv_extract rfl rfl) ?_; clear hf a; intro a hf
           refine o_v hf hh (yv_extract rfl rfl) ?_; clear hf a; intro a hf
           refine o_v hf hh (yv_assign rfl) ?_; clear hf a; intro a hf
           refine o_v hf hh (yv_assign rfl) ?_; clear hf a; intro a hf
           refine o_end ?_
           refine sy_seq ?_
           refine sy_seq ?_
           have qt := hh.at (i := 0) rfl; have q6 := hh.at (i := 1) rfl
           have e3 := hh.ext
           have hA3 := hA w (fun q hq => hh.get q (by simp [hq]))
           have hKd : (drwE c = 0 ∧ (drwL c).length = nn) ∨ (drwE c = 12 ∧ (drwL c).length = 0) := by
             by_cases h : drwE c = 0
             · have := (drw_good h).2.2.2.2.2.1; exact .inl ⟨h, by omega⟩
             · obtain ⟨h1, h2 | h2 | h2⟩ := drw_bad h
               · rw [hcb] at h2; cases h2.2.1
               · omega
               · exact .inr ⟨h2.2.1, h1⟩
           have hKe : decide (drwE c = 0) = decide (((drwL c).length : Int) = c.n) := decide_eq_decide.2 (by omega)
           obtain ⟨u3, rfl⟩ : ∃ z, z = w := ⟨_, rfl⟩
           replace hh := Hp.init u3 []
           clear hDr
           refine sy_ops ?_
           refine o_v hf hh (yv_move rfl) ?_; clear hf a; intro a hf
           refine o_v hf hh (yv_bin rfl rfl rfl) ?_; clear hf a; intro a hf
           refine o_v hf hh (yv_move rfl) ?_; clear hf a; intro a hf
           refine o_v hf hh (yv_len Try.se_33 rfl) ?_; clear hf a; intro a hf
           refine o_v hf hh (yv_fieldAddr Try.fo_24_0 rfl) ?_; clear hf a; intro a hf
           refine o_v hf hh (y_ld Try.sc_3 rfl) ?_; clear hf a; intro a hf
           refine o_v hf hh (yv_bin rfl rfl rfl) ?_; clear hf a; intro a hf
           refine o_v hf hh (yv_neb Try.ub_4 rfl rfl) ?_; clear hf a; intro a hf
           refine o_v hf hh (yv_move rfl) ?_; clear hf a; intro a hf
           refine guard_split hf (t := 157) rfl (fun hg47 => ?_) (fun hg47 => ?_)
           ·have hG47 := hg47; try simp only [gS] at hG47
            refine o_off hf ?_; clear hf a; intro a hf
            refine o_off hf ?_; clear hf a; intro a hf
            refine o_off hf ?_; clear hf a; intro a hf
            refine o_off hf ?_; clear hf a; intro a hf
            refine o_off hf ?_; clear hf a; intro a hf
            refine o_off hf ?_; clear hf a; intro a hf
            refine o_v hf hh (y_pt rfl rfl) ?_; clear hf a; intro a hf
            refine o_end ?_
            refine c_t hf ?_
            refine sy_sq ?_
            refine o_v hf hh (yv_assign rfl) ?_; clear hf a; intro a hf
            refine o_end ?_
            refine sy_ret ?_
            refine then_r ?_
            refine ret_r hf rfl rfl ?_
            first
              | exact ⟨rfl, (by first | exact hh.ext | exact e3.trans hh.ext)⟩
              | (exfalso
                 (repeat (rename Fr _ _ _ _ => z9; clear z9))
                 (repeat (rename Hp _ _ _ _ => z9; clear z9))
                 (try clear hcn); (try clear hat); (try clear hbe)
                 first
                   | (rcases hKd with ⟨h1, h2⟩ | ⟨h1, h2⟩ <;> first | (omega; done) | (simp_all; done))
                   | (rcases hb2 with h1 | h1 <;> first | (omega; done) | (simp_all; done))
                   | (rcases hK with ⟨h1, h2, h3⟩ | ⟨h1, h2, h3⟩ | ⟨h1, h2, h3⟩ <;> first | (omega; done) | (simp_all; done))
                   | (omega; done)
                   | (simp_all; done)
                   | (simp_all <;> omega))
              | omega
           ·have hG47 := hg47; try simp only [gS] at hG47
            refine o_v hf hh (yv_move rfl) ?_; clear hf a; intro a hf
            refine o_v hf hh (yv_bin rfl rfl rfl) ?_; clear hf a; intro a hf
            refine o_v hf hh (yv_move rfl) ?_; clear hf a; intro a hf
            refine guard_split hf (t := 160) rfl (fun hg49 => ?_) (fun hg49 => ?_)
            ·have hG49 := hg49; try simp only [gS] at hG49
             refine o_v hf hh (yv_move rfl) ?_; clear hf a; intro a hf
             refine o_v hf hh (yv_bin rfl rfl rfl) ?_; clear hf a; intro a hf
             refine o_v hf hh (y_pt rfl rfl) ?_; clear hf a; intro a hf
             refine o_v hf hh (y_pf rfl rfl) ?_; clear hf a; intro a hf
             refine o_end ?_
             refine sy_cond hf rfl (fun hg51 => ?_) (fun hg51 => ?_)
             ·have hG51 := hg51; try simp only [gS] at hG51
              refine sy_sq ?_
              refine o_v hf hh (yv_assign rfl) ?_; clear hf a; intro a hf
              refine o_end ?_
              refine sy_ret ?_
              refine then_r ?_
              refine ret_r hf rfl rfl ?_
              first
                | exact ⟨rfl, (by first | exact hh.ext | exact e3.trans hh.ext)⟩
                | (exfalso
                   (repeat (rename Fr _ _ _ _ => z9; clear z9))
                   (repeat (rename Hp _ _ _ _ => z9; clear z9))
                   (try clear hcn); (try clear hat); (try clear hbe)
                   first
                     | (rcases hKd with ⟨h1, h2⟩ | ⟨h1, h2⟩ <;> first | (omega; done) | (simp_all; done))
                     | (rcases hb2 with h1 | h1 <;> first | (omega; done) | (simp_all; done))
                     | (rcases hK with ⟨h1, h2, h3⟩ | ⟨h1, h2, h3⟩ | ⟨h1, h2, h3⟩ <;> first | (omega; done) | (simp_all; done))
                     | (omega; done)
                     | (simp_all; done)
                     | (simp_all <;> omega))
                | omega
             ·have hG51 := hg51; try simp only [gS] at hG51
              refine sy_skip ?_
              refine then_n ?_
              refine sy_seq ?_
              refine sy_sq ?_
              refine o_v hf hh (yv_move rfl) ?_; clear hf a; intro a hf
              refine o_v hf hh (yv_len Try.se_33 rfl) ?_; clear hf a; intro a hf
              refine o_v hf hh (yv_move rfl) ?_; clear hf a; intro a hf
              refine o_end ?_
              refine sy_block ?_
              refine sy_loopF (σ := Nat) [4, 19, 20, 21, 22, 23, 24, 25, 167, 168, 169, 170, 171, 172, 173, 174, 175, 176, 177, 178, 179, 180, 181, 182, 183, 184, 185, 186, 187, 188, 189, 190, 191, 192, 193, 194, 195, 196, 197, 198, 199, 200, 201, 202, 203, 204, 205, 206, 207, 208, 209, 210, 211, 212, 213, 214, 215, 216, 217, 218, 219, 220, 221, 222, 223, 224, 225, 226, 227, 228, 229, 230, 231, 232, 233, 234, 235, 236, 237, 238, 239, 240] (fun x => [(167, .int .i64 (x : Nat))]) (fun x => x ≤ nn) (fun x => nn - x) (0) hf hh ?_ ?_ ?_
              · repeat' (first | exact True.intro | refine And.intro rfl ?_)
              · exact Nat.zero_le _
              ·rintro x a w hx hf hh
               refine sy_sq ?_
               refine o_v hf hh (yv_bin rfl rfl rfl) ?_; clear hf a; intro a hf
               refine o_end ?_
               refine sy_seq ?_
               refine sy_cond hf rfl (fun hg53 => ?_) (fun hg53 => ?_)
               ·have hG53 := hg53; try simp only [gS] at hG53
                refine sy_skip ?_
                refine then_n ?_
                refine sy_seq ?_
                refine sy_block ?_
                refine sy_seq ?_
                have gx := hPt.cells (i := x) (by omega)
                have hbx := hbd x
                refine sy_ops ?_
                refine o_v hf hh (yv_move rfl) ?_; clear hf a; intro a hf
                refine o_v hf hh (y_ix Try.se_33 rfl rfl) ?_; clear hf a; intro a hf
                refine o_v hf hh (y_lds Try.ag_39 rfl) ?_; clear hf a; intro a hf
                refine o_alloc hf hh Try.ze_39 ?_; clear hf hh a; intro B20 a w hf hh
                refine o_v hf hh (yv_assign rfl) ?_; clear hf a; intro a hf
                refine o_store hf hh Try.sz_39 fun w hh => ?_
                refine o_end ?_
                refine sy_seq ?_
                refine sy_sq ?_
                refine o_v hf hh (yv_move rfl) ?_; clear hf a; intro a hf
                refine o_v hf hh (yv_len Try.se_33 rfl) ?_; clear hf a; intro a hf
                refine o_v hf hh (yv_move rfl) ?_; clear hf a; intro a hf
                refine o_end ?_
                refine sy_block ?_
                refine sy_loopF (σ := Nat) [4, 21, 22, 23, 24, 25, 174, 175, 176, 177, 178, 179, 180, 181, 182, 183, 184, 185, 186, 187, 188, 189, 190, 191, 192, 193, 194, 195, 196, 197, 198, 199, 200, 201, 202, 203, 204, 205, 206, 207, 208, 209, 210, 211, 212, 213, 214, 215, 216, 217] (fun y => [(174, .int .i64 (y : Nat))]) (fun y => y ≤ nn) (fun y => nn - y) (0) hf hh ?_ ?_ ?_
                · repeat' (first | exact True.intro | refine And.intro rfl ?_)
                · exact Nat.zero_le _
                ·rintro y a w hy hf hh
                 refine sy_sq ?_
                 refine o_v hf hh (yv_bin rfl rfl rfl) ?_; clear hf a; intro a hf
                 refine o_end ?_
                 refine sy_seq ?_
                 refine sy_cond hf rfl (fun hg55 => ?_) (fun hg55 => ?_)
                 ·have hG55 := hg55; try simp only [gS] at hG55
                  refine sy_skip ?_
                  refine then_n ?_
                  refine sy_seq ?_
                  refine sy_block ?_
                  refine sy_seq ?_
                  have gy := hPt.cells (i := y) (by omega)
                  have hby := hbd y
                  refine sy_ops ?_
                  refine o_v hf hh (yv_move rfl) ?_; clear hf a; intro a hf
                  refine o_v hf hh (y_ix Try.se_33 rfl rfl) ?_; clear hf a; intro a hf
                  refine o_v hf hh (y_lds Try.ag_39 rfl) ?_; clear hf a; intro a hf
                  refine o_alloc hf hh Try.ze_39 ?_; clear hf hh a; intro B22 a w hf hh
                  refine o_v hf hh (yv_assign rfl) ?_; clear hf a; intro a hf
                  refine o_store hf hh Try.sz_39 fun w hh => ?_
                  refine o_end ?_
                  refine sy_sq ?_
                  refine o_v hf hh (y_lds Try.ag_24 rfl) ?_; clear hf a; intro a hf
                  refine o_v hf hh (yv_move rfl) ?_; clear hf a; intro a hf
                  refine o_v hf hh (yv_move rfl) ?_; clear hf a; intro a hf
                  refine o_call hf Try.en_17 rfl rfl rfl (p17 c oa cx (x : Nat) (y : Nat) _ (hA3.ext hh.ext)) ?_; clear hf a; intro v a w hR hf
                  obtain ⟨rfl, hx⟩ := hR; replace hh := hh.more hx; clear hx
                  refine o_v hf hh (yv_move rfl) ?_; clear hf a; intro a hf
                  refine o_v hf hh (yv_extract rfl rfl) ?_; clear hf a; intro a hf
                  refine o_v hf hh (yv_extract rfl rfl) ?_; clear hf a; intro a hf
                  refine o_v hf hh (yv_extract rfl rfl) ?_; clear hf a; intro a hf
                  refine o_alloc hf hh Try.ze_28 ?_; clear hf hh a; intro B23 a w hf hh
                  refine o_alloc hf hh Try.ze_28 ?_; clear hf hh a; intro B24 a w hf hh
                  refine o_store hf hh Try.sz_28 fun w hh => ?_
                  refine o_store hf hh Try.sz_28 fun w hh => ?_
                  refine o_v hf hh (yv_assign rfl) ?_; clear hf a; intro a hf
                  refine o_end ?_
                  refine sy_seq ?_
                  have hb2 := bet_two hO hwr (x := (x : Int)) (y := (y : Int)) (by unfold stB inC; simp only [Bool.and_eq_true, decide_eq_true_eq]; omega) (by unfold stB inC; simp only [Bool.and_eq_true, decide_eq_true_eq]; omega)
                  have hI1 := fun h => (tru_bet (x := x) (y := y) hT h).1
                  have hI2 := fun h => (tru_bet (x := x) (y := y) hT h).2
                  refine sy_ops ?_
                  refine o_v hf hh (yv_move rfl) ?_; clear hf a; intro a hf
                  refine o_v hf hh (yv_bin rfl rfl rfl) ?_; clear hf a; intro a hf
                  refine o_v hf hh (yv_move rfl) ?_; clear hf a; intro a hf
                  refine guard_split hf (t := 189) rfl (fun hg61 => ?_) (fun hg61 => ?_)
                  ·have hG61 := hg61; try simp only [gS] at hG61
                   refine o_v hf hh (yv_move rfl) ?_; clear hf a; intro a hf
                   refine o_v hf hh (yv_bin rfl rfl rfl) ?_; clear hf a; intro a hf
                   refine o_v hf hh (y_pt rfl rfl) ?_; clear hf a; intro a hf
                   refine o_v hf hh (yv_move rfl) ?_; clear hf a; intro a hf
                   refine guard_split hf (t := 193) rfl (fun hg63 => ?_) (fun hg63 => ?_)
                   ·have hG63 := hg63; try simp only [gS] at hG63
                    refine o_off hf ?_; clear hf a; intro a hf
                    refine o_off hf ?_; clear hf a; intro a hf
                    refine o_off hf ?_; clear hf a; intro a hf
                    refine o_off hf ?_; clear hf a; intro a hf
                    refine o_off hf ?_; clear hf a; intro a hf
                    refine o_off hf ?_; clear hf a; intro a hf
                    refine o_off hf ?_; clear hf a; intro a hf
                    refine o_off hf ?_; clear hf a; intro a hf
                    refine o_off hf ?_; clear hf a; intro a hf
                    refine o_off hf ?_; clear hf a; intro a hf
                    refine o_off hf ?_; clear hf a; intro a hf
                    refine o_off hf ?_; clear hf a; intro a hf
                    refine o_off hf ?_; clear hf a; intro a hf
                    refine o_off hf ?_; clear hf a; intro a hf
                    refine o_off hf ?_; clear hf a; intro a hf
                    refine o_off hf ?_; clear hf a; intro a hf
                    refine o_off hf ?_; clear hf a; intro a hf
                    refine o_off hf ?_; clear hf a; intro a hf
                    refine o_off hf ?_; clear hf a; intro a hf
                    refine o_off hf ?_; clear hf a; intro a hf
                    refine o_off hf ?_; clear hf a; intro a hf
                    refine o_off hf ?_; clear hf a; intro a hf
                    refine o_v hf hh (y_pt rfl rfl) ?_; clear hf a; intro a hf
                    refine o_end ?_
                    refine c_t hf ?_
                    refine sy_sq ?_
                    refine o_v hf hh (yv_assign rfl) ?_; clear hf a; intro a hf
                    refine o_end ?_
                    refine sy_ret ?_
                    refine blk_r ?_
                    refine then_r ?_
                    refine then_r ?_
                    refine blk_r ?_
                    refine then_r ?_
                    refine blk_r ?_
                    refine then_r ?_
                    refine then_r ?_
                    refine blk_r ?_
                    refine then_r ?_
                    refine ret_r hf rfl rfl ?_
                    first
                      | exact ⟨rfl, (by first | exact hh.ext | exact e3.trans hh.ext)⟩
                      | (exfalso
                         (repeat (rename Fr _ _ _ _ => z9; clear z9))
                         (repeat (rename Hp _ _ _ _ => z9; clear z9))
                         (try clear hcn); (try clear hat); (try clear hbe)
                         first
                           | (rcases hKd with ⟨h1, h2⟩ | ⟨h1, h2⟩ <;> first | (omega; done) | (simp_all; done))
                           | (rcases hb2 with h1 | h1 <;> first | (omega; done) | (simp_all; done))
                           | (rcases hK with ⟨h1, h2, h3⟩ | ⟨h1, h2, h3⟩ | ⟨h1, h2, h3⟩ <;> first | (omega; done) | (simp_all; done))
                           | (omega; done)
                           | (simp_all; done)
                           | (simp_all <;> omega))
                      | omega
                   ·have hG63 := hg63; try simp only [gS] at hG63
                    refine o_v hf hh (yv_move rfl) ?_; clear hf a; intro a hf
                    refine o_v hf hh (yv_bin rfl rfl rfl) ?_; clear hf a; intro a hf
                    refine o_v hf hh (yv_move rfl) ?_; clear hf a; intro a hf
                    refine guard_split hf (t := 196) rfl (fun hg65 => ?_) (fun hg65 => ?_)
                    ·have hG65 := hg65; try simp only [gS] at hG65
                     refine o_v hf hh (y_lds Try.ag_28 rfl) ?_; clear hf a; intro a hf
                     refine o_v hf hh (yv_fieldAddr Try.fo_39_0 rfl) ?_; clear hf a; intro a hf
                     refine o_v hf hh (y_ld Try.sc_3 rfl) ?_; clear hf a; intro a hf
                     refine o_v hf hh (yv_fieldAddr Try.fo_39_0 rfl) ?_; clear hf a; intro a hf
                     refine o_v hf hh (y_ld Try.sc_3 rfl) ?_; clear hf a; intro a hf
                     refine o_v hf hh (y_sub rfl rfl) ?_; clear hf a; intro a hf
                     refine o_call hf Try.en_30 rfl rfl rfl (p30 _ _ _ _) ?_; clear hf a; intro v a w hR hf
                     obtain ⟨rfl, hx⟩ := hR; replace hh := hh.more hx; clear hx
                     refine o_v hf hh (yv_not rfl) ?_; clear hf a; intro a hf
                     refine o_v hf hh (yv_move rfl) ?_; clear hf a; intro a hf
                     refine guard_split hf (t := 205) rfl (fun hg67 => ?_) (fun hg67 => ?_)
                     ·have hG67 := hg67; try simp only [gS] at hG67
                      refine o_off hf ?_; clear hf a; intro a hf
                      refine o_off hf ?_; clear hf a; intro a hf
                      refine o_off hf ?_; clear hf a; intro a hf
                      refine o_off hf ?_; clear hf a; intro a hf
                      refine o_off hf ?_; clear hf a; intro a hf
                      refine o_off hf ?_; clear hf a; intro a hf
                      refine o_off hf ?_; clear hf a; intro a hf
                      refine o_off hf ?_; clear hf a; intro a hf
                      refine o_v hf hh (y_pt rfl rfl) ?_; clear hf a; intro a hf
                      refine o_v hf hh (y_pt rfl rfl) ?_; clear hf a; intro a hf
                      refine o_v hf hh (y_pf rfl rfl) ?_; clear hf a; intro a hf
                      refine o_end ?_
                      refine c_t hf ?_
                      refine sy_sq ?_
                      refine o_v hf hh (yv_assign rfl) ?_; clear hf a; intro a hf
                      refine o_end ?_
                      refine sy_ret ?_
                      refine blk_r ?_
                      refine then_r ?_
                      refine then_r ?_
                      refine blk_r ?_
                      refine then_r ?_
                      refine blk_r ?_
                      refine then_r ?_
                      refine then_r ?_
                      refine blk_r ?_
                      refine then_r ?_
                      refine ret_r hf rfl rfl ?_
                      first
                        | exact ⟨rfl, (by first | exact hh.ext | exact e3.trans hh.ext)⟩
                        | (exfalso
                           (repeat (rename Fr _ _ _ _ => z9; clear z9))
                           (repeat (rename Hp _ _ _ _ => z9; clear z9))
                           (try clear hcn); (try clear hat); (try clear hbe)
                           first
                             | (rcases hKd with ⟨h1, h2⟩ | ⟨h1, h2⟩ <;> first | (omega; done) | (simp_all; done))
                             | (rcases hb2 with h1 | h1 <;> first | (omega; done) | (simp_all; done))
                             | (rcases hK with ⟨h1, h2, h3⟩ | ⟨h1, h2, h3⟩ | ⟨h1, h2, h3⟩ <;> first | (omega; done) | (simp_all; done))
                             | (omega; done)
                             | (simp_all; done)
                             | (simp_all <;> omega))
                        | omega
                     ·have hG67 := hg67; try simp only [gS] at hG67
                      refine o_v hf hh (y_lds Try.ag_28 rfl) ?_; clear hf a; intro a hf
                      refine o_v hf hh (yv_fieldAddr Try.fo_39_1 rfl) ?_; clear hf a; intro a hf
                      refine o_v hf hh (y_ld Try.sc_3 rfl) ?_; clear hf a; intro a hf
                      refine o_v hf hh (yv_fieldAddr Try.fo_39_1 rfl) ?_; clear hf a; intro a hf
                      refine o_v hf hh (y_ld Try.sc_3 rfl) ?_; clear hf a; intro a hf
                      refine o_v hf hh (y_sub rfl rfl) ?_; clear hf a; intro a hf
                      refine o_call hf Try.en_30 rfl rfl rfl (p30 _ _ _ _) ?_; clear hf a; intro v a w hR hf
                      obtain ⟨rfl, hx⟩ := hR; replace hh := hh.more hx; clear hx
                      refine o_v hf hh (yv_not rfl) ?_; clear hf a; intro a hf
                      refine o_v hf hh (y_pf rfl rfl) ?_; clear hf a; intro a hf
                      refine o_v hf hh (y_pt rfl rfl) ?_; clear hf a; intro a hf
                      refine o_v hf hh (y_pf rfl rfl) ?_; clear hf a; intro a hf
                      refine o_end ?_
                      refine sy_cond hf rfl (fun hg69 => ?_) (fun hg69 => ?_)
                      ·have hG69 := hg69; try simp only [gS] at hG69
                       refine sy_sq ?_
                       refine o_v hf hh (yv_assign rfl) ?_; clear hf a; intro a hf
                       refine o_end ?_
                       refine sy_ret ?_
                       refine blk_r ?_
                       refine then_r ?_
                       refine then_r ?_
                       refine blk_r ?_
                       refine then_r ?_
                       refine blk_r ?_
                       refine then_r ?_
                       refine then_r ?_
                       refine blk_r ?_
                       refine then_r ?_
                       refine ret_r hf rfl rfl ?_
                       first
                         | exact ⟨rfl, (by first | exact hh.ext | exact e3.trans hh.ext)⟩
                         | (exfalso
                            (repeat (rename Fr _ _ _ _ => z9; clear z9))
                            (repeat (rename Hp _ _ _ _ => z9; clear z9))
                            (try clear hcn); (try clear hat); (try clear hbe)
                            first
                              | (rcases hKd with ⟨h1, h2⟩ | ⟨h1, h2⟩ <;> first | (omega; done) | (simp_all; done))
                              | (rcases hb2 with h1 | h1 <;> first | (omega; done) | (simp_all; done))
                              | (rcases hK with ⟨h1, h2, h3⟩ | ⟨h1, h2, h3⟩ | ⟨h1, h2, h3⟩ <;> first | (omega; done) | (simp_all; done))
                              | (omega; done)
                              | (simp_all; done)
                              | (simp_all <;> omega))
                         | omega
                      ·have hG69 := hg69; try simp only [gS] at hG69
                       refine sy_skip ?_
                       refine blk_n ?_
                       refine then_n ?_
                       refine sy_ops ?_
                       refine o_v hf hh (y_add rfl rfl) ?_; clear hf a; intro a hf
                       refine o_v hf hh (yv_move rfl) ?_; clear hf a; intro a hf
                       refine ops_end ?_
                       refine then_n ?_
                       exact ⟨y + 1, ⟨by omega, (hf.head (by repeat' (first | exact True.intro | refine And.intro rfl ?_)) (Keep.cons rfl (Keep.cons rfl (Keep.cons rfl (Keep.cons rfl (Keep.cons rfl (Keep.cons rfl (Keep.cons rfl (Keep.cons rfl (Keep.cons rfl (Keep.cons rfl (Keep.cons rfl (Keep.cons rfl (Keep.cons rfl (Keep.cons rfl (Keep.cons rfl (Keep.cons rfl (Keep.cons rfl (Keep.cons rfl (Keep.cons rfl (Keep.cons rfl (Keep.cons rfl (Keep.cons rfl (Keep.cons rfl (Keep.cons rfl (Keep.cons rfl (Keep.cons rfl (Keep.cons rfl (Keep.cons rfl (Keep.cons rfl (Keep.cons rfl (Keep.cons rfl (Keep.cons rfl (Keep.cons rfl (Keep.cons rfl (Keep.cons rfl (Keep.cons rfl (Keep.cons rfl (Keep.cons rfl (Keep.cons rfl (Keep.cons rfl (Keep.cons rfl (Keep.cons rfl (Keep.cons rfl (Keep.cons rfl (Keep.cons rfl (Keep.cons rfl (Keep.cons rfl (Keep.cons rfl (Keep.cons rfl (Keep.app rfl (Keep.rm rfl Keep.base)))))))))))))))))))))))))))))))))))))))))))))))))))), hh.less (.cons _ (.cons _ (.cons _ (.refl _))))⟩, by omega⟩
                    ·have hG65 := hg65; try simp only [gS] at hG65
                     refine o_off hf ?_; clear hf a; intro a hf
                     refine o_off hf ?_; clear hf a; intro a hf
                     refine o_off hf ?_; clear hf a; intro a hf
                     refine o_off hf ?_; clear hf a; intro a hf
                     refine o_off hf ?_; clear hf a; intro a hf
                     refine o_off hf ?_; clear hf a; intro a hf
                     refine o_off hf ?_; clear hf a; intro a hf
                     refine o_off hf ?_; clear hf a; intro a hf
                     refine o_off hf ?_; clear hf a; intro a hf
                     refine o_off hf ?_; clear hf a; intro a hf
                     refine o_off hf ?_; clear hf a; intro a hf
                     refine o_off hf ?_; clear hf a; intro a hf
                     refine o_off hf ?_; clear hf a; intro a hf
                     refine o_off hf ?_; clear hf a; intro a hf
                     refine o_off hf ?_; clear hf a; intro a hf
                     refine o_off hf ?_; clear hf a; intro a hf
                     refine o_off hf ?_; clear hf a; intro a hf
                     refine o_off hf ?_; clear hf a; intro a hf
                     refine o_v hf hh (y_pf rfl rfl) ?_; clear hf a; intro a hf
                     refine o_v hf hh (y_pf rfl rfl) ?_; clear hf a; intro a hf
                     refine o_end ?_
                     refine c_f hf ?_
                     refine sy_skip ?_
                     refine blk_n ?_
                     refine then_n ?_
                     refine sy_ops ?_
                     refine o_v hf hh (y_add rfl rfl) ?_; clear hf a; intro a hf
                     refine o_v hf hh (yv_move rfl) ?_; clear hf a; intro a hf
                     refine ops_end ?_
                     refine then_n ?_
                     exact ⟨y + 1, ⟨by omega, (hf.head (by repeat' (first | exact True.intro | refine And.intro rfl ?_)) (Keep.cons rfl (Keep.cons rfl (Keep.cons rfl (Keep.cons rfl (Keep.cons rfl (Keep.cons rfl (Keep.cons rfl (Keep.cons rfl (Keep.cons rfl (Keep.cons rfl (Keep.cons rfl (Keep.cons rfl (Keep.cons rfl (Keep.cons rfl (Keep.cons rfl (Keep.cons rfl (Keep.cons rfl (Keep.cons rfl (Keep.cons rfl (Keep.cons rfl (Keep.cons rfl (Keep.cons rfl (Keep.cons rfl (Keep.cons rfl (Keep.cons rfl (Keep.cons rfl (Keep.cons rfl (Keep.cons rfl (Keep.cons rfl (Keep.cons rfl (Keep.cons rfl (Keep.cons rfl (Keep.cons rfl (Keep.cons rfl (Keep.cons rfl (Keep.cons rfl (Keep.cons rfl (Keep.cons rfl (Keep.cons rfl (Keep.cons rfl (Keep.cons rfl (Keep.cons rfl (Keep.cons rfl (Keep.cons rfl (Keep.cons rfl (Keep.cons rfl (Keep.cons rfl (Keep.cons rfl (Keep.cons rfl (Keep.app rfl (Keep.rm rfl Keep.base)))))))))))))))))))))))))))))))))))))))))))))))))))), hh.less (.cons _ (.cons _ (.cons _ (.refl _))))⟩, by omega⟩
                  ·have hG61 := hg61; try simp only [gS] at hG61
                   refine o_off hf ?_; clear hf a; intro a hf
                   refine o_off hf ?_; clear hf a; intro a hf
                   refine o_v hf hh (y_pf rfl rfl) ?_; clear hf a; intro a hf
                   refine o_v hf hh (yv_move rfl) ?_; clear hf a; intro a hf
                   refine o_v hf hh (yv_move rfl) ?_; clear hf a; intro a hf
                   refine o_v hf hh (yv_bin rfl rfl rfl) ?_; clear hf a; intro a hf
                   refine o_v hf hh (yv_move rfl) ?_; clear hf a; intro a hf
                   refine guard_split hf (t := 196) rfl (fun hg71 => ?_) (fun hg71 => ?_)
                   ·have hG71 := hg71; try simp only [gS] at hG71
                    refine o_v hf hh (y_lds Try.ag_28 rfl) ?_; clear hf a; intro a hf
                    refine o_v hf hh (yv_fieldAddr Try.fo_39_0 rfl) ?_; clear hf a; intro a hf
                    refine o_v hf hh (y_ld Try.sc_3 rfl) ?_; clear hf a; intro a hf
                    refine o_v hf hh (yv_fieldAddr Try.fo_39_0 rfl) ?_; clear hf a; intro a hf
                    refine o_v hf hh (y_ld Try.sc_3 rfl) ?_; clear hf a; intro a hf
                    refine o_v hf hh (y_sub rfl rfl) ?_; clear hf a; intro a hf
                    refine o_call hf Try.en_30 rfl rfl rfl (p30 _ _ _ _) ?_; clear hf a; intro v a w hR hf
                    obtain ⟨rfl, hx⟩ := hR; replace hh := hh.more hx; clear hx
                    refine o_v hf hh (yv_not rfl) ?_; clear hf a; intro a hf
                    refine o_v hf hh (yv_move rfl) ?_; clear hf a; intro a hf
                    refine guard_split hf (t := 205) rfl (fun hg73 => ?_) (fun hg73 => ?_)
                    ·have hG73 := hg73; try simp only [gS] at hG73
                     refine o_off hf ?_; clear hf a; intro a hf
                     refine o_off hf ?_; clear hf a; intro a hf
                     refine o_off hf ?_; clear hf a; intro a hf
                     refine o_off hf ?_; clear hf a; intro a hf
                     refine o_off hf ?_; clear hf a; intro a hf
                     refine o_off hf ?_; clear hf a; intro a hf
                     refine o_off hf ?_; clear hf a; intro a hf
                     refine o_off hf ?_; clear hf a; intro a hf
                     refine o_v hf hh (y_pt rfl rfl) ?_; clear hf a; intro a hf
                     refine o_v hf hh (y_pt rfl rfl) ?_; clear hf a; intro a hf
                     refine o_v hf hh (y_pf rfl rfl) ?_; clear hf a; intro a hf
                     refine o_end ?_
                     refine c_t hf ?_
                     refine sy_sq ?_
                     refine o_v hf hh (yv_assign rfl) ?_; clear hf a; intro a hf
                     refine o_end ?_
                     refine sy_ret ?_
                     refine blk_r ?_
                     refine then_r ?_
                     refine then_r ?_
                     refine blk_r ?_
                     refine then_r ?_
                     refine blk_r ?_
                     refine then_r ?_
                     refine then_r ?_
                     refine blk_r ?_
                     refine then_r ?_
                     refine ret_r hf rfl rfl ?_
                     first
                       | exact ⟨rfl, (by first | exact hh.ext | exact e3.trans hh.ext)⟩
                       | (exfalso
                          (repeat (rename Fr _ _ _ _ => z9; clear z9))
                          (repeat (rename Hp _ _ _ _ => z9; clear z9))
                          (try clear hcn); (try clear hat); (try clear hbe)
                          first
                            | (rcases hKd with ⟨h1, h2⟩ | ⟨h1, h2⟩ <;> first | (omega; done) | (simp_all; done))
                            | (rcases hb2 with h1 | h1 <;> first | (omega; done) | (simp_all; done))
                            | (rcases hK with ⟨h1, h2, h3⟩ | ⟨h1, h2, h3⟩ | ⟨h1, h2, h3⟩ <;> first | (omega; done) | (simp_all; done))
                            | (omega; done)
                            | (simp_all; done)
                            | (simp_all <;> omega))
                       | omega
                    ·have hG73 := hg73; try simp only [gS] at hG73
                     refine o_v hf hh (y_lds Try.ag_28 rfl) ?_; clear hf a; intro a hf
                     refine o_v hf hh (yv_fieldAddr Try.fo_39_1 rfl) ?_; clear hf a; intro a hf
                     refine o_v hf hh (y_ld Try.sc_3 rfl) ?_; clear hf a; intro a hf
                     refine o_v hf hh (yv_fieldAddr Try.fo_39_1 rfl) ?_; clear hf a; intro a hf
                     refine o_v hf hh (y_ld Try.sc_3 rfl) ?_; clear hf a; intro a hf
                     refine o_v hf hh (y_sub rfl rfl) ?_; clear hf a; intro a hf
                     refine o_call hf Try.en_30 rfl rfl rfl (p30 _ _ _ _) ?_; clear hf a; intro v a w hR hf
                     obtain ⟨rfl, hx⟩ := hR; replace hh := hh.more hx; clear hx
                     refine o_v hf hh (yv_not rfl) ?_; clear hf a; intro a hf
                     refine o_v hf hh (y_pf rfl rfl) ?_; clear hf a; intro a hf
                     refine o_v hf hh (y_pt rfl rfl) ?_; clear hf a; intro a hf
                     refine o_v hf hh (y_pf rfl rfl) ?_; clear hf a; intro a hf
                     refine o_end ?_
                     refine sy_cond hf rfl (fun hg75 => ?_) (fun hg75 => ?_)
                     ·have hG75 := hg75; try simp only [gS] at hG75
                      refine sy_sq ?_
                      refine o_v hf hh (yv_assign rfl) ?_; clear hf a; intro a hf
                      refine o_end ?_
                      refine sy_ret ?_
                      refine blk_r ?_
                      refine then_r ?_
                      refine then_r ?_
                      refine blk_r ?_
                      refine then_r ?_
                      refine blk_r ?_
                      refine then_r ?_
                      refine then_r ?_
                      refine blk_r ?_
                      refine then_r ?_
                      refine ret_r hf rfl rfl ?_
                      first
                        | exact ⟨rfl, (by first | exact hh.ext | exact e3.trans hh.ext)⟩
                        | (exfalso
                           (repeat (rename Fr _ _ _ _ => z9; clear z9))
                           (repeat (rename Hp _ _ _ _ => z9; clear z9))
                           (try clear hcn); (try clear hat); (try clear hbe)
                           first
                             | (rcases hKd with ⟨h1, h2⟩ | ⟨h1, h2⟩ <;> first | (omega; done) | (simp_all; done))
                             | (rcases hb2 with h1 | h1 <;> first | (omega; done) | (simp_all; done))
                             | (rcases hK with ⟨h1, h2, h3⟩ | ⟨h1, h2, h3⟩ | ⟨h1, h2, h3⟩ <;> first | (omega; done) | (simp_all; done))
                             | (omega; done)
                             | (simp_all; done)
                             | (simp_all <;> omega))
                        | omega
                     ·have hG75 := hg75; try simp only [gS] at hG75
                      refine sy_skip ?_
                      refine blk_n ?_
                      refine then_n ?_
                      refine sy_ops ?_
                      refine o_v hf hh (y_add rfl rfl) ?_; clear hf a; intro a hf
                      refine o_v hf hh (yv_move rfl) ?_; clear hf a; intro a hf
                      refine ops_end ?_
                      refine then_n ?_
                      exact ⟨y + 1, ⟨by omega, (hf.head (by repeat' (first | exact True.intro | refine And.intro rfl ?_)) (Keep.cons rfl (Keep.cons rfl (Keep.cons rfl (Keep.cons rfl (Keep.cons rfl (Keep.cons rfl (Keep.cons rfl (Keep.cons rfl (Keep.cons rfl (Keep.cons rfl (Keep.cons rfl (Keep.cons rfl (Keep.cons rfl (Keep.cons rfl (Keep.cons rfl (Keep.cons rfl (Keep.cons rfl (Keep.cons rfl (Keep.cons rfl (Keep.cons rfl (Keep.cons rfl (Keep.cons rfl (Keep.cons rfl (Keep.cons rfl (Keep.cons rfl (Keep.cons rfl (Keep.cons rfl (Keep.cons rfl (Keep.cons rfl (Keep.cons rfl (Keep.cons rfl (Keep.cons rfl (Keep.cons rfl (Keep.cons rfl (Keep.cons rfl (Keep.cons rfl (Keep.cons rfl (Keep.cons rfl (Keep.cons rfl (Keep.cons rfl (Keep.cons rfl (Keep.cons rfl (Keep.cons rfl (Keep.cons rfl (Keep.cons rfl (Keep.cons rfl (Keep.cons rfl (Keep.cons rfl (Keep.cons rfl (Keep.app rfl (Keep.rm rfl Keep.base)))))))))))))))))))))))))))))))))))))))))))))))))))), hh.less (.cons _ (.cons _ (.cons _ (.refl _))))⟩, by omega⟩
                   ·have hG71 := hg71; try simp only [gS] at hG71
                    refine o_off hf ?_; clear hf a; intro a hf
                    refine o_off hf ?_; clear hf a; intro a hf
                    refine o_off hf ?_; clear hf a; intro a hf
                    refine o_off hf ?_; clear hf a; intro a hf
                    refine o_off hf ?_; clear hf a; intro a hf
                    refine o_off hf ?_; clear hf a; intro a hf
                    refine o_off hf ?_; clear hf a; intro a hf
                    refine o_off hf ?_; clear hf a; intro a hf
                    refine o_off hf ?_; clear hf a; intro a hf
                    refine o_off hf ?_; clear hf a; intro a hf
                    refine o_off hf ?_; clear hf a; intro a hf
                    refine o_off hf ?_; clear hf a; intro a hf
                    refine o_off hf ?_; clear hf a; intro a hf
                    refine o_off hf ?_; clear hf a; intro a hf
                    refine o_off hf ?_; clear hf a; intro a hf
                    refine o_off hf ?_; clear hf a; intro a hf
                    refine o_off hf ?_; clear hf a; intro a hf
                    refine o_off hf ?_; clear hf a; intro a hf
                    refine o_v hf hh (y_pf rfl rfl) ?_; clear hf a; intro a hf
                    refine o_v hf hh (y_pf rfl rfl) ?_; clear hf a; intro a hf
                    refine o_end ?_
                    refine c_f hf ?_
                    refine sy_skip ?_
                    refine blk_n ?_
                    refine then_n ?_
                    refine sy_ops ?_
                    refine o_v hf hh (y_add rfl rfl) ?_; clear hf a; intro a hf
                    refine o_v hf hh (yv_move rfl) ?_; clear hf a; intro a hf
                    refine ops_end ?_
                    refine then_n ?_
                    exact ⟨y + 1, ⟨by omega, (hf.head (by repeat' (first | exact True.intro | refine And.intro rfl ?_)) (Keep.cons rfl (Keep.cons rfl (Keep.cons rfl (Keep.cons rfl (Keep.cons rfl (Keep.cons rfl (Keep.cons rfl (Keep.cons rfl (Keep.cons rfl (Keep.cons rfl (Keep.cons rfl (Keep.cons rfl (Keep.cons rfl (Keep.cons rfl (Keep.cons rfl (Keep.cons rfl (Keep.cons rfl (Keep.cons rfl (Keep.cons rfl (Keep.cons rfl (Keep.cons rfl (Keep.cons rfl (Keep.cons rfl (Keep.cons rfl (Keep.cons rfl (Keep.cons rfl (Keep.cons rfl (Keep.cons rfl (Keep.cons rfl (Keep.cons rfl (Keep.cons rfl (Keep.cons rfl (Keep.cons rfl (Keep.cons rfl (Keep.cons rfl (Keep.cons rfl (Keep.cons rfl (Keep.cons rfl (Keep.cons rfl (Keep.cons rfl (Keep.cons rfl (Keep.cons rfl (Keep.cons rfl (Keep.cons rfl (Keep.cons rfl (Keep.cons rfl (Keep.cons rfl (Keep.cons rfl (Keep.cons rfl (Keep.app rfl (Keep.rm rfl Keep.base)))))))))))))))))))))))))))))))))))))))))))))))))))), hh.less (.cons _ (.cons _ (.cons _ (.refl _))))⟩, by omega⟩
                 ·have hG55 := hg55; try simp only [gS] at hG55
                  refine sy_exit ?_
                  refine then_e ?_
                  refine then_e ?_
                  refine blk_e ?_
                  refine then_n ?_
                  refine sy_seq ?_
                  refine sy_quiet (C := Hp _ _ _) Try.follows (by kernel_rfl) (hh.drawn _) ?_
                  refine oq_v hf (yv_move rfl) ?_; clear hf a; intro a hf
                  refine oq_v hf (yv_bin rfl rfl rfl) ?_; clear hf a; intro a hf
                  refine oq_v hf (yv_move rfl) ?_; clear hf a; intro a hf
                  refine guard_splitq hf (t := 220) rfl (fun hg77 => ?_) (fun hg77 => ?_)
                  ·have hG77 := hg77; try simp only [gS] at hG77
                   have hd0 : drwE c = 0 := by assumption
                   obtain ⟨_, _, _, _, hbe, hln, hat9, _⟩ := drw_good hd0
                   obtain ⟨blkL, offL, ccL, TL, frL, esL, hbL, hcL⟩ := hT9 x _ (hat9 x (by omega))
                   have g9 := (cellsAt_get 2 _ _ hcL).2
                   have l1 : ccL[offL + ((x : Nat) : Int).toNat * 2]? = some (.int .i64 (drwP c x).1) := g9 0 _ rfl
                   have l2 : ccL[offL + ((x : Nat) : Int).toNat * 2 + 1]? = some (.int .i64 (drwP c x).2) := g9 1 _ rfl
                   have hle := tru_bet (x := 0) (y := x) hT (hbe x (by omega))
                   unfold inC at hle
                   simp only [Bool.and_eq_true, decide_eq_true_eq, hz0] at hle
                   have hj1 : (drwP c x).1 = (betV c false ((0 : Nat) : Int) (x : Int)).1 := rfl
                   have hj2 : (drwP c x).2 = (betV c true ((0 : Nat) : Int) (x : Int)).1 := rfl
                   refine oq_v hf (yv_move rfl) ?_; clear hf a; intro a hf
                   refine oq_v hf (yv_move rfl) ?_; clear hf a; intro a hf
                   refine oq_v hf (y_ix Try.se_33 (congrArg (fun z => some (Value.slice z (drwL c).length co)) esL) rfl) ?_; clear hf a; intro a hf
                   refine oq_v hf (yv_fieldAddr Try.fo_39_0 rfl) ?_; clear hf a; intro a hf
                   refine oq_v hf (y_ld Try.sc_3 rfl) ?_; clear hf a; intro a hf
                   refine oq_v hf (yv_fieldAddr Try.fo_39_0 rfl) ?_; clear hf a; intro a hf
                   refine oq_v hf (y_ld Try.sc_3 rfl) ?_; clear hf a; intro a hf
                   refine oq_v hf (yv_bin rfl rfl rfl) ?_; clear hf a; intro a hf
                   refine oq_v hf (yv_move rfl) ?_; clear hf a; intro a hf
                   refine guard_splitq hf (t := 229) rfl (fun hg80 => ?_) (fun hg80 => ?_)
                   ·have hG80 := hg80; try simp only [gS] at hG80
                    refine oq_off hf ?_; clear hf a; intro a hf
                    refine oq_off hf ?_; clear hf a; intro a hf
                    refine oq_off hf ?_; clear hf a; intro a hf
                    refine oq_off hf ?_; clear hf a; intro a hf
                    refine oq_off hf ?_; clear hf a; intro a hf
                    refine oq_off hf ?_; clear hf a; intro a hf
                    refine oq_off hf ?_; clear hf a; intro a hf
                    refine oq_off hf ?_; clear hf a; intro a hf
                    refine oq_v hf (y_pt rfl rfl) ?_; clear hf a; intro a hf
                    refine oq_v hf (y_pt rfl rfl) ?_; clear hf a; intro a hf
                    refine q_end fun w hh => ?_
                    refine then_n ?_
                    refine c_t hf ?_
                    refine sy_sq ?_
                    refine o_v hf hh (yv_assign rfl) ?_; clear hf a; intro a hf
                    refine o_end ?_
                    refine sy_ret ?_
                    refine blk_r ?_
                    refine then_r ?_
                    refine then_r ?_
                    refine blk_r ?_
                    refine then_r ?_
                    refine ret_r hf rfl rfl ?_
                    first
                      | exact ⟨rfl, (by first | exact hh.ext | exact e3.trans hh.ext)⟩
                      | (exfalso
                         (repeat (rename Fr _ _ _ _ => z9; clear z9))
                         (repeat (rename Hp _ _ _ _ => z9; clear z9))
                         (try clear hcn); (try clear hat); (try clear hbe)
                         first
                           | (rcases hKd with ⟨h1, h2⟩ | ⟨h1, h2⟩ <;> first | (omega; done) | (simp_all; done))
                           | (rcases hb2 with h1 | h1 <;> first | (omega; done) | (simp_all; done))
                           | (rcases hK with ⟨h1, h2, h3⟩ | ⟨h1, h2, h3⟩ | ⟨h1, h2, h3⟩ <;> first | (omega; done) | (simp_all; done))
                           | (omega; done)
                           | (simp_all; done)
                           | (simp_all <;> omega))
                      | omega
                   ·have hG80 := hg80; try simp only [gS] at hG80
                    refine oq_v hf (yv_move rfl) ?_; clear hf a; intro a hf
                    refine oq_v hf (yv_move rfl) ?_; clear hf a; intro a hf
                    refine oq_v hf (y_ix Try.se_33 (congrArg (fun z => some (Value.slice z (drwL c).length co)) esL) rfl) ?_; clear hf a; intro a hf
                    refine oq_v hf (yv_fieldAddr Try.fo_39_1 rfl) ?_; clear hf a; intro a hf
                    refine oq_v hf (y_ld Try.sc_3 rfl) ?_; clear hf a; intro a hf
                    refine oq_v hf (yv_fieldAddr Try.fo_39_1 rfl) ?_; clear hf a; intro a hf
                    refine oq_v hf (y_ld Try.sc_3 rfl) ?_; clear hf a; intro a hf
                    refine oq_v hf (yv_bin rfl rfl rfl) ?_; clear hf a; intro a hf
                    refine oq_v hf (y_pf rfl rfl) ?_; clear hf a; intro a hf
                    refine oq_v hf (y_pt rfl rfl) ?_; clear hf a; intro a hf
                    refine q_end fun w hh => ?_
                    refine then_n ?_
                    refine sy_cond hf rfl (fun hg83 => ?_) (fun hg83 => ?_)
                    ·have hG83 := hg83; try simp only [gS] at hG83
                     refine sy_sq ?_
                     refine o_v hf hh (yv_assign rfl) ?_; clear hf a; intro a hf
                     refine o_end ?_
                     refine sy_ret ?_
                     refine blk_r ?_
                     refine then_r ?_
                     refine then_r ?_
                     refine blk_r ?_
                     refine then_r ?_
                     refine ret_r hf rfl rfl ?_
                     first
                       | exact ⟨rfl, (by first | exact hh.ext | exact e3.trans hh.ext)⟩
                       | (exfalso
                          (repeat (rename Fr _ _ _ _ => z9; clear z9))
                          (repeat (rename Hp _ _ _ _ => z9; clear z9))
                          (try clear hcn); (try clear hat); (try clear hbe)
                          first
                            | (rcases hKd with ⟨h1, h2⟩ | ⟨h1, h2⟩ <;> first | (omega; done) | (simp_all; done))
                            | (rcases hb2 with h1 | h1 <;> first | (omega; done) | (simp_all; done))
                            | (rcases hK with ⟨h1, h2, h3⟩ | ⟨h1, h2, h3⟩ | ⟨h1, h2, h3⟩ <;> first | (omega; done) | (simp_all; done))
                            | (omega; done)
                            | (simp_all; done)
                            | (simp_all <;> omega))
                       | omega
                    ·have hG83 := hg83; try simp only [gS] at hG83
                     refine sy_skip ?_
                     refine blk_n ?_
                     refine then_n ?_
                     refine sy_ops ?_
                     refine o_v hf hh (y_add rfl rfl) ?_; clear hf a; intro a hf
                     refine o_v hf hh (yv_move rfl) ?_; clear hf a; intro a hf
                     refine ops_end ?_
                     refine then_n ?_
                     exact ⟨x + 1, ⟨by omega, (hf.head (by repeat' (first | exact True.intro | refine And.intro rfl ?_)) (Keep.cons rfl (Keep.cons rfl (Keep.cons rfl (Keep.cons rfl (Keep.cons rfl (Keep.cons rfl (Keep.cons rfl (Keep.cons rfl (Keep.cons rfl (Keep.cons rfl (Keep.cons rfl (Keep.cons rfl (Keep.cons rfl (Keep.cons rfl (Keep.cons rfl (Keep.cons rfl (Keep.cons rfl (Keep.cons rfl (Keep.cons rfl (Keep.cons rfl (Keep.cons rfl (Keep.cons rfl (Keep.cons rfl (Keep.cons rfl (Keep.cons rfl (Keep.app rfl (Keep.rm rfl (Keep.cons rfl (Keep.cons rfl (Keep.cons rfl (Keep.cons rfl (Keep.cons rfl (Keep.cons rfl (Keep.cons rfl (Keep.cons rfl (Keep.cons rfl (Keep.app rfl (Keep.rm rfl Keep.base))))))))))))))))))))))))))))))))))))))), hh.less (List.nil_sublist _)⟩, by omega⟩
                  ·have hG77 := hg77; try simp only [gS] at hG77
                   refine oq_off hf ?_; clear hf a; intro a hf
                   refine oq_off hf ?_; clear hf a; intro a hf
                   refine oq_off hf ?_; clear hf a; intro a hf
                   refine oq_off hf ?_; clear hf a; intro a hf
                   refine oq_off hf ?_; clear hf a; intro a hf
                   refine oq_off hf ?_; clear hf a; intro a hf
                   refine oq_off hf ?_; clear hf a; intro a hf
                   refine oq_off hf ?_; clear hf a; intro a hf
                   refine oq_off hf ?_; clear hf a; intro a hf
                   refine oq_off hf ?_; clear hf a; intro a hf
                   refine oq_off hf ?_; clear hf a; intro a hf
                   refine oq_off hf ?_; clear hf a; intro a hf
                   refine oq_off hf ?_; clear hf a; intro a hf
                   refine oq_off hf ?_; clear hf a; intro a hf
                   refine oq_off hf ?_; clear hf a; intro a hf
                   refine oq_off hf ?_; clear hf a; intro a hf
                   refine oq_off hf ?_; clear hf a; intro a hf
                   refine oq_off hf ?_; clear hf a; intro a hf
                   refine oq_v hf (y_pf rfl rfl) ?_; clear hf a; intro a hf
                   refine q_end fun w hh => ?_
                   refine then_n ?_
                   refine c_f hf ?_
                   refine sy_skip ?_
                   refine blk_n ?_
                   refine then_n ?_
                   refine sy_ops ?_
                   refine o_v hf hh (y_add rfl rfl) ?_; clear hf a; intro a hf
                   refine o_v hf hh (yv_move rfl) ?_; clear hf a; intro a hf
                   refine ops_end ?_
                   refine then_n ?_
                   exact ⟨x + 1, ⟨by omega, (hf.head (by repeat' (first | exact True.intro | refine And.intro rfl ?_)) (Keep.cons rfl (Keep.cons rfl (Keep.cons rfl (Keep.cons rfl (Keep.cons rfl (Keep.cons rfl (Keep.cons rfl (Keep.cons rfl (Keep.cons rfl (Keep.cons rfl (Keep.cons rfl (Keep.cons rfl (Keep.cons rfl (Keep.cons rfl (Keep.cons rfl (Keep.cons rfl (Keep.cons rfl (Keep.cons rfl (Keep.cons rfl (Keep.cons rfl (Keep.cons rfl (Keep.cons rfl (Keep.cons rfl (Keep.cons rfl (Keep.cons rfl (Keep.app rfl (Keep.rm rfl (Keep.cons rfl (Keep.cons rfl (Keep.cons rfl (Keep.cons rfl (Keep.cons rfl (Keep.cons rfl (Keep.cons rfl (Keep.cons rfl (Keep.cons rfl (Keep.app rfl (Keep.rm rfl Keep.base))))))))))))))))))))))))))))))))))))))), hh.less (List.nil_sublist _)⟩, by omega⟩
               ·have hG53 := hg53; try simp only [gS] at hG53
                refine sy_exit ?_
                refine then_e ?_
                refine then_e ?_
                refine blk_e ?_
                refine then_n ?_
                refine sy_sq ?_
                refine o_call hf Try.en_14 rfl rfl rfl (p14 _) ?_; clear hf a; intro v a w hR hf
                obtain ⟨rfl, hx⟩ := hR; replace hh := hh.more hx; clear hx
                refine o_v hf hh (yv_assign rfl) ?_; clear hf a; intro a hf
                refine o_end ?_
                refine sy_ret ?_
                refine ret_r hf rfl rfl ?_
                first
                  | exact ⟨rfl, (by first | exact hh.ext | exact e3.trans hh.ext)⟩
                  | (exfalso
                     (repeat (rename Fr _ _ _ _ => z9; clear z9))
                     (repeat (rename Hp _ _ _ _ => z9; clear z9))
                     (try clear hcn); (try clear hat); (try clear hbe)
                     first
                       | (rcases hKd with ⟨h1, h2⟩ | ⟨h1, h2⟩ <;> first | (omega; done) | (simp_all; done))
                       | (rcases hb2 with h1 | h1 <;> first | (omega; done) | (simp_all; done))
                       | (rcases hK with ⟨h1, h2, h3⟩ | ⟨h1, h2, h3⟩ | ⟨h1, h2, h3⟩ <;> first | (omega; done) | (simp_all; done))
                       | (omega; done)
                       | (simp_all; done)
                       | (simp_all <;> omega))
                  | omega
            ·have hG49 := hg49; try simp only [gS] at hG49
             refine o_off hf ?_; clear hf a; intro a hf
             refine o_off hf ?_; clear hf a; intro a hf
             refine o_v hf hh (y_pf rfl rfl) ?_; clear hf a; intro a hf
             refine o_v hf hh (y_pf rfl rfl) ?_; clear hf a; intro a hf
             refine o_end ?_
             refine c_f hf ?_
             refine sy_skip ?_
             refine then_n ?_
             refine sy_seq ?_
             refine sy_sq ?_
             refine o_v hf hh (yv_move rfl) ?_; clear hf a; intro a hf
             refine o_v hf hh (yv_len Try.se_33 rfl) ?_; clear hf a; intro a hf
             refine o_v hf hh (yv_move rfl) ?_; clear hf a; intro a hf
             refine o_end ?_
             refine sy_block ?_
             refine sy_loopF (σ := Nat) [4, 19, 20, 21, 22, 23, 24, 25, 167, 168, 169, 170, 171, 172, 173, 174, 175, 176, 177, 178, 179, 180, 181, 182, 183, 184, 185, 186, 187, 188, 189, 190, 191, 192, 193, 194, 195, 196, 197, 198, 199, 200, 201, 202, 203, 204, 205, 206, 207, 208, 209, 210, 211, 212, 213, 214, 215, 216, 217, 218, 219, 220, 221, 222, 223, 224, 225, 226, 227, 228, 229, 230, 231, 232, 233, 234, 235, 236, 237, 238, 239, 240] (fun x => [(167, .int .i64 (x : Nat))]) (fun x => x ≤ nn) (fun x => nn - x) (0) hf hh ?_ ?_ ?_
             · repeat' (first | exact True.intro | refine And.intro rfl ?_)
             · exact Nat.zero_le _
             ·rintro x a w hx hf hh
              refine sy_sq ?_
              refine o_v hf hh (yv_bin rfl rfl rfl) ?_; clear hf a; intro a hf
              refine o_end ?_
              refine sy_seq ?_
              refine sy_cond hf rfl (fun hg86 => ?_) (fun hg86 => ?_)
              ·have hG86 := hg86; try simp only [gS] at hG86
               refine sy_skip ?_
               refine then_n ?_
               refine sy_seq ?_
               refine sy_block ?_
               refine sy_seq ?_
               have gx := hPt.cells (i := x) (by omega)
               have hbx := hbd x
               refine sy_ops ?_
               refine o_v hf hh (yv_move rfl) ?_; clear hf a; intro a hf
               refine o_v hf hh (y_ix Try.se_33 rfl rfl) ?_; clear hf a; intro a hf
               refine o_v hf hh (y_lds Try.ag_39 rfl) ?_; clear hf a; intro a hf
               refine o_alloc hf hh Try.ze_39 ?_; clear hf hh a; intro B20 a w hf hh
               refine o_v hf hh (yv_assign rfl) ?_; clear hf a; intro a hf
               refine o_store hf hh Try.sz_39 fun w hh => ?_
               refine o_end ?_
               refine sy_seq ?_
               refine sy_sq ?_
               refine o_v hf hh (yv_move rfl) ?_; clear hf a; intro a hf
               refine o_v hf hh (yv_len Try.se_33 rfl) ?_; clear hf a; intro a hf
               refine o_v hf hh (yv_move rfl) ?_; clear hf a; intro a hf
               refine o_end ?_
               refine sy_block ?_
               refine sy_loopF (σ := Nat) [4, 21, 22, 23, 24, 25, 174, 175, 176, 177, 178, 179, 180, 181, 182, 183, 184, 185, 186, 187, 188, 189, 190, 191, 192, 193, 194, 195, 196, 197, 198, 199, 200, 201, 202, 203, 204, 205, 206, 207, 208, 209, 210, 211, 212, 213, 214, 215, 216, 217] (fun y => [(174, .int .i64 (y : Nat))]) (fun y => y ≤ nn) (fun y => nn - y) (0) hf hh ?_ ?_ ?_
               · repeat' (first | exact True.intro | refine And.intro rfl ?_)
               · exact Nat.zero_le _
               ·rintro y a w hy hf hh
                refine sy_sq ?_
                refine o_v hf hh (yv_bin rfl rfl rfl) ?_; clear hf a; intro a hf
                refine o_end ?_
                refine sy_seq ?_
                refine sy_cond hf rfl (fun hg88 => ?_) (fun hg88 => ?_)
                ·have hG88 := hg88; try simp only [gS] at hG88
                 refine sy_skip ?_
                 refine then_n ?_
                 refine sy_seq ?_
                 refine sy_block ?_
                 refine sy_seq ?_
                 have gy := hPt.cells (i := y) (by omega)
                 have hby := hbd y
                 refine sy_ops ?_
                 refine o_v hf hh (yv_move rfl) ?_; clear hf a; intro a hf
                 refine o_v hf hh (y_ix Try.se_33 rfl rfl) ?_; clear hf a; intro a hf
                 refine o_v hf hh (y_lds Try.ag_39 rfl) ?_; clear hf a; intro a hf
                 refine o_alloc hf hh Try.ze_39 ?_; clear hf hh a; intro B22 a w hf hh
                 refine o_v hf hh (yv_assign rfl) ?_; clear hf a; intro a hf
                 refine o_store hf hh Try.sz_39 fun w hh => ?_
                 refine o_end ?_
                 refine sy_sq ?_
                 refine o_v hf hh (y_lds Try.ag_24 rfl) ?_; clear hf a; intro a hf
                 refine o_v hf hh (yv_move rfl) ?_; clear hf a; intro a hf
                 refine o_v hf hh (yv_move rfl) ?_; clear hf a; intro a hf
                 refine o_call hf Try.en_17 rfl rfl rfl (p17 c oa cx (x : Nat) (y : Nat) _ (hA3.ext hh.ext)) ?_; clear hf a; intro v a w hR hf
                 obtain ⟨rfl, hx⟩ := hR; replace hh := hh.more hx; clear hx
                 refine o_v hf hh (yv_move rfl) ?_; clear hf a; intro a hf
                 refine o_v hf hh (yv_extract rfl rfl) ?_; clear hf a; intro a hf
                 refine o_v hf hh (yv_extract rfl rfl) ?_; clear hf a; intro a hf
                 refine o_v hf hh (yv_extract rfl rfl) ?_; clear hf a; intro a hf
                 refine o_alloc hf hh Try.ze_28 ?_; clear hf hh a; intro B23 a w hf hh
                 refine o_alloc hf hh Try.ze_28 ?_; clear hf hh a; intro B24 a w hf hh
                 refine o_store hf hh Try.sz_28 fun w hh => ?_
                 refine o_store hf hh Try.sz_28 fun w hh => ?_
                 refine o_v hf hh (yv_assign rfl) ?_; clear hf a; intro a hf
                 refine o_end ?_
                 refine sy_seq ?_
                 have hb2 := bet_two hO hwr (x := (x : Int)) (y := (y : Int)) (by unfold stB inC; simp only [Bool.and_eq_true, decide_eq_true_eq]; omega) (by unfold stB inC; simp only [Bool.and_eq_true, decide_eq_true_eq]; omega)
                 have hI1 := fun h => (tru_bet (x := x) (y := y) hT h).1
                 have hI2 := fun h => (tru_bet (x := x) (y := y) hT h).2
                 refine sy_ops ?_
                 refine o_v hf hh (yv_move rfl) ?_; clear hf a; intro a hf
                 refine o_v hf hh (yv_bin rfl rfl rfl) ?_; clear hf a; intro a hf
                 refine o_v hf hh (yv_move rfl) ?_; clear hf a; intro a hf
                 refine guard_split hf (t := 189) rfl (fun hg94 => ?_) (fun hg94 => ?_)
                 ·have hG94 := hg94; try simp only [gS] at hG94
                  refine o_v hf hh (yv_move rfl) ?_; clear hf a; intro a hf
                  refine o_v hf hh (yv_bin rfl rfl rfl) ?_; clear hf a; intro a hf
                  refine o_v hf hh (y_pt rfl rfl) ?_; clear hf a; intro a hf
                  refine o_v hf hh (yv_move rfl) ?_; clear hf a; intro a hf
                  refine guard_split hf (t := 193) rfl (fun hg96 => ?_) (fun hg96 => ?_)
                  ·have hG96 := hg96; try simp only [gS] at hG96
                   refine o_off hf ?_; clear hf a; intro a hf
                   refine o_off hf ?_; clear hf a; intro a hf
                   refine o_off hf ?_; clear hf a; intro a hf
                   refine o_off hf ?_; clear hf a; intro a hf
                   refine o_off hf ?_; clear hf a; intro a hf
                   refine o_off hf ?_; clear hf a; intro a hf
                   refine o_off hf ?_; clear hf a; intro a hf
                   refine o_off hf ?_; clear hf a; intro a hf
                   refine o_off hf ?_; clear hf a; intro a hf
                   refine o_off hf ?_; clear hf a; intro a hf
                   refine o_off hf ?_; clear hf a; intro a hf
                   refine o_off hf ?_; clear hf a; intro a hf
                   refine o_off hf ?_; clear hf a; intro a hf
                   refine o_off hf ?_; clear hf a; intro a hf
                   refine o_off hf ?_; clear hf a; intro a hf
                   refine o_off hf ?_; clear hf a; intro a hf
                   refine o_off hf ?_; clear hf a; intro a hf
                   refine o_off hf ?_; clear hf a; intro a hf
                   refine o_off hf ?_; clear hf a; intro a hf
                   refine o_off hf ?_; clear hf a; intro a hf
                   refine o_off hf ?_; clear hf a; intro a hf
                   refine o_off hf ?_; clear hf a; intro a hf
                   refine o_v hf hh (y_pt rfl rfl) ?_; clear hf a; intro a hf
                   refine o_end ?_
                   refine c_t hf ?_
                   refine sy_sq ?_
                   refine o_v hf hh (yv_assign rfl) ?_; clear hf a; intro a hf
                   refine o_end ?_
                   refine sy_ret ?_
                   refine blk_r ?_
                   refine then_r ?_
                   refine then_r ?_
                   refine blk_r ?_
                   refine then_r ?_
                   refine blk_r ?_
                   refine then_r ?_
                   refine then_r ?_
                   refine blk_r ?_
                   refine then_r ?_
                   refine ret_r hf rfl rfl ?_
                   first
                     | exact ⟨rfl, (by first | exact hh.ext | exact e3.trans hh.ext)⟩
                     | (exfalso
                        (repeat (rename Fr _ _ _ _ => z9; clear z9))
                        (repeat (rename Hp _ _ _ _ => z9; clear z9))
                        (try clear hcn); (try clear hat); (try clear hbe)
                        first
                          | (rcases hKd with ⟨h1, h2⟩ | ⟨h1, h2⟩ <;> first | (omega; done) | (simp_all; done))
                          | (rcases hb2 with h1 | h1 <;> first | (omega; done) | (simp_all; done))
                          | (rcases hK with ⟨h1, h2, h3⟩ | ⟨h1, h2, h3⟩ | ⟨h1, h2, h3⟩ <;> first | (omega; done) | (simp_all; done))
                          | (omega; done)
                          | (simp_all; done)
                          | (simp_all <;> omega))
                     | omega
                  ·have hG96 := hg96; try simp only [gS] at hG96
                   refine o_v hf hh (yv_move rfl) ?_; clear hf a; intro a hf
                   refine o_v hf hh (yv_bin rfl rfl rfl) ?_; clear hf a; intro a hf
                   refine o_v hf hh (yv_move rfl) ?_; clear hf a; intro a hf
                   refine guard_split hf (t := 196) rfl (fun hg98 => ?_) (fun hg98 => ?_)
                   ·have hG98 := hg98; try simp only [gS] at hG98
                    refine o_v hf hh (y_lds Try.ag_28 rfl) ?_; clear hf a; intro a hf
                    refine o_v hf hh (yv_fieldAddr Try.fo_39_0 rfl) ?_; clear hf a; intro a hf
                    refine o_v hf hh (y_ld Try.sc_3 rfl) ?_; clear hf a; intro a hf
                    refine o_v hf hh (yv_fieldAddr Try.fo_39_0 rfl) ?_; clear hf a; intro a hf
                    refine o_v hf hh (y_ld Try.sc_3 rfl) ?_; clear hf a; intro a hf
                    refine o_v hf hh (y_sub rfl rfl) ?_; clear hf a; intro a hf
                    refine o_call hf Try.en_30 rfl rfl rfl (p30 _ _ _ _) ?_; clear hf a; intro v a w hR hf
                    obtain ⟨rfl, hx⟩ := hR; replace hh := hh.more hx; clear hx
                    refine o_v hf hh (yv_not rfl) ?_; clear hf a; intro a hf
                    refine o_v hf hh (yv_move rfl) ?_; clear hf a; intro a hf
                    refine guard_split hf (t := 205) rfl (fun hg100 => ?_) (fun hg100 => ?_)
                    ·have hG100 := hg100; try simp only [gS] at hG100
                     refine o_off hf ?_; clear hf a; intro a hf
                     refine o_off hf ?_; clear hf a; intro a hf
                     refine o_off hf ?_; clear hf a; intro a hf
                     refine o_off hf ?_; clear hf a; intro a hf
                     refine o_off hf ?_; clear hf a; intro a hf
                     refine o_off hf ?_; clear hf a; intro a hf
                     refine o_off hf ?_; clear hf a; intro a hf
                     refine o_off hf ?_; clear hf a; intro a hf
                     refine o_v hf hh (y_pt rfl rfl) ?_; clear hf a; intro a hf
                     refine o_v hf hh (y_pt rfl rfl) ?_; clear hf a; intro a hf
                     refine o_v hf hh (y_pf rfl rfl) ?_; clear hf a; intro a hf
                     refine o_end ?_
                     refine c_t hf ?_
                     refine sy_sq ?_
                     refine o_v hf hh (yv_assign rfl) ?_; clear hf a; intro a hf
                     refine o_end ?_
                     refine sy_ret ?_
                     refine blk_r ?_
                     refine then_r ?_
                     refine then_r ?_
                     refine blk_r ?_
                     refine then_r ?_
                     refine blk_r ?_
                     refine then_r ?_
                     refine then_r ?_
                     refine blk_r ?_
                     refine then_r ?_
                     refine ret_r hf rfl rfl ?_
                     first
                       | exact ⟨rfl, (by first | exact hh.ext | exact e3.trans hh.ext)⟩
                       | (exfalso
                          (repeat (rename Fr _ _ _ _ => z9; clear z9))
                          (repeat (rename Hp _ _ _ _ => z9; clear z9))
                          (try clear hcn); (try clear hat); (try clear hbe)
                          first
                            | (rcases hKd with ⟨h1, h2⟩ | ⟨h1, h2⟩ <;> first | (omega; done) | (simp_all; done))
                            | (rcases hb2 with h1 | h1 <;> first | (omega; done) | (simp_all; done))
                            | (rcases hK with ⟨h1, h2, h3⟩ | ⟨h1, h2, h3⟩ | ⟨h1, h2, h3⟩ <;> first | (omega; done) | (simp_all; done))
                            | (omega; done)
                            | (simp_all; done)
                            | (simp_all <;> omega))
                       | omega
                    ·have hG100 := hg100; try simp only [gS] at hG100
                     refine o_v hf hh (y_lds Try.ag_28 rfl) ?_; clear hf a; intro a hf
                     refine o_v hf hh (yv_fieldAddr Try.fo_39_1 rfl) ?_; clear hf a; intro a hf
                     refine o_v hf hh (y_ld Try.sc_3 rfl) ?_; clear hf a; intro a hf
                     refine o_v hf hh (yv_fieldAddr Try.fo_39_1 rfl) ?_; clear hf a; intro a hf
                     refine o_v hf hh (y_ld Try.sc_3 rfl) ?_; clear hf a; intro a hf
                     refine o_v hf hh (y_sub rfl rfl) ?_; clear hf a; intro a hf
                     refine o_call hf Try.en_30 rfl rfl rfl (p30 _ _ _ _) ?_; clear hf a; intro v a w hR hf
                     obtain ⟨rfl, hx⟩ := hR; replace hh := hh.more hx; clear hx
                     refine o_v hf hh (yv_not rfl) ?_; clear hf a; intro a hf
                     refine o_v hf hh (y_pf rfl rfl) ?_; clear hf a; intro a hf
                     refine o_v hf hh (y_pt rfl rfl) ?_; clear hf a; intro a hf
                     refine o_v hf hh (y_pf rfl rfl) ?_; clear hf a; intro a hf
                     refine o_end ?_
                     refine sy_cond hf rfl (fun hg102 => ?_) (fun hg102 => ?_)
                     ·have hG102 := hg102; try simp only [gS] at hG102
                      refine sy_sq ?_
                      refine o_v hf hh (yv_assign rfl) ?_; clear hf a; intro a hf
                      refine o_end ?_
                      refine sy_ret ?_
                      refine blk_r ?_
                      refine then_r ?_
                      refine then_r ?_
                      refine blk_r ?_
                      refine then_r ?_
                      refine blk_r ?_
                      refine then_r ?_
                      refine then_r ?_
                      refine blk_r ?_
                      refine then_r ?_
                      refine ret_r hf rfl rfl ?_
                      first
                        | exact ⟨rfl, (by first | exact hh.ext | exact e3.trans hh.ext)⟩
                        | (exfalso
                           (repeat (rename Fr _ _ _ _ => z9; clear z9))
                           (repeat (rename Hp _ _ _ _ => z9; clear z9))
                           (try clear hcn); (try clear hat); (try clear hbe)
                           first
                             | (rcases hKd with ⟨h1, h2⟩ | ⟨h1, h2⟩ <;> first | (omega; done) | (simp_all; done))
                             | (rcases hb2 with h1 | h1 <;> first | (omega; done) | (simp_all; done))
                             | (rcases hK with ⟨h1, h2, h3⟩ | ⟨h1, h2, h3⟩ | ⟨h1, h2, h3⟩ <;> first | (omega; done) | (simp_all; done))
                             | (omega; done)
                             | (simp_all; done)
                             | (simp_all <;> omega))
                        | omega
                     ·have hG102 := hg102; try simp only [gS] at hG102
                      refine sy_skip ?_
                      refine blk_n ?_
                      refine then_n ?_
                      refine sy_ops ?_
                      refine o_v hf hh (y_add rfl rfl) ?_; clear hf a; intro a hf
                      refine o_v hf hh (yv_move rfl) ?_; clear hf a; intro a hf
                      refine ops_end ?_
                      refine then_n ?_
                      exact ⟨y + 1, ⟨by omega, (hf.head (by repeat' (first | exact True.intro | refine And.intro rfl ?_)) (Keep.cons rfl (Keep.cons rfl (Keep.cons rfl (Keep.cons rfl (Keep.cons rfl (Keep.cons rfl (Keep.cons rfl (Keep.cons rfl (Keep.cons rfl (Keep.cons rfl (Keep.cons rfl (Keep.cons rfl (Keep.cons rfl (Keep.cons rfl (Keep.cons rfl (Keep.cons rfl (Keep.cons rfl (Keep.cons rfl (Keep.cons rfl (Keep.cons rfl (Keep.cons rfl (Keep.cons rfl (Keep.cons rfl (Keep.cons rfl (Keep.cons rfl (Keep.cons rfl (Keep.cons rfl (Keep.cons rfl (Keep.cons rfl (Keep.cons rfl (Keep.cons rfl (Keep.cons rfl (Keep.cons rfl (Keep.cons rfl (Keep.cons rfl (Keep.cons rfl (Keep.cons rfl (Keep.cons rfl (Keep.cons rfl (Keep.cons rfl (Keep.cons rfl (Keep.cons rfl (Keep.cons rfl (Keep.cons rfl (Keep.cons rfl (Keep.cons rfl (Keep.cons rfl (Keep.cons rfl (Keep.cons rfl (Keep.app rfl (Keep.rm rfl Keep.base)))))))))))))))))))))))))))))))))))))))))))))))))))), hh.less (.cons _ (.cons _ (.cons _ (.refl _))))⟩, by omega⟩
                   ·have hG98 := hg98; try simp only [gS] at hG98
                    refine o_off hf ?_; clear hf a; intro a hf
                    refine o_off hf ?_; clear hf a; intro a hf
                    refine o_off hf ?_; clear hf a; intro a hf
                    refine o_off hf ?_; clear hf a; intro a hf
                    refine o_off hf ?_; clear hf a; intro a hf
                    refine o_off hf ?_; clear hf a; intro a hf
                    refine o_off hf ?_; clear hf a; intro a hf
                    refine o_off hf ?_; clear hf a; intro a hf
                    refine o_off hf ?_; clear hf a; intro a hf
                    refine o_off hf ?_; clear hf a; intro a hf
                    refine o_off hf ?_; clear hf a; intro a hf
                    refine o_off hf ?_; clear hf a; intro a hf
                    refine o_off hf ?_; clear hf a; intro a hf
                    refine o_off hf ?_; clear hf a; intro a hf
                    refine o_off hf ?_; clear hf a; intro a hf
                    refine o_off hf ?_; clear hf a; intro a hf
                    refine o_off hf ?_; clear hf a; intro a hf
                    refine o_off hf ?_; clear hf a; intro a hf
                    refine o_v hf hh (y_pf rfl rfl) ?_; clear hf a; intro a hf
                    refine o_v hf hh (y_pf rfl rfl) ?_; clear hf a; intro a hf
                    refine o_end ?_
                    refine c_f hf ?_
                    refine sy_skip ?_
                    refine blk_n ?_
                    refine then_n ?_
                    refine sy_ops ?_
                    refine o_v hf hh (y_add rfl rfl) ?_; clear hf a; intro a hf
                    refine o_v hf hh (yv_move rfl) ?_; clear hf a; intro a hf
                    refine ops_end ?_
                    refine then_n ?_
                    exact ⟨y + 1, ⟨by omega, (hf.head (by repeat' (first | exact True.intro | refine And.intro rfl ?_)) (Keep.cons rfl (Keep.cons rfl (Keep.cons rfl (Keep.cons rfl (Keep.cons rfl (Keep.cons rfl (Keep.cons rfl (Keep.cons rfl (Keep.cons rfl (Keep.cons rfl (Keep.cons rfl (Keep.cons rfl (Keep.cons rfl (Keep.cons rfl (Keep.cons rfl (Keep.cons rfl (Keep.cons rfl (Keep.cons rfl (Keep.cons rfl (Keep.cons rfl (Keep.cons rfl (Keep.cons rfl (Keep.cons rfl (Keep.cons rfl (Keep.cons rfl (Keep.cons rfl (Keep.cons rfl (Keep.cons rfl (Keep.cons rfl (Keep.cons rfl (Keep.cons rfl (Keep.cons rfl (Keep.cons rfl (Keep.cons rfl (Keep.cons rfl (Keep.cons rfl (Keep.cons rfl (Keep.cons rfl (Keep.cons rfl (Keep.cons rfl (Keep.cons rfl (Keep.cons rfl (Keep.cons rfl (Keep.cons rfl (Keep.cons rfl (Keep.cons rfl (Keep.cons rfl (Keep.cons rfl (Keep.cons rfl (Keep.app rfl (Keep.rm rfl Keep.base)))))))))))))))))))))))))))))))))))))))))))))))))))), hh.less (.cons _ (.cons _ (.cons _ (.refl _))))⟩, by omega⟩
                 ·have hG94 := hg94; try simp only [gS] at hG94
                  refine o_off hf ?_; clear hf a; intro a hf
                  refine o_off hf ?_; clear hf a; intro a hf
                  refine o_v hf hh (y_pf rfl rfl) ?_; clear hf a; intro a hf
                  refine o_v hf hh (yv_move rfl) ?_; clear hf a; intro a hf
                  refine o_v hf hh (yv_move rfl) ?_; clear hf a; intro a hf
                  refine o_v hf hh (yv_bin rfl rfl rfl) ?_; clear hf a; intro a hf
                  refine o_v hf hh (yv_move rfl) ?_; clear hf a; intro a hf
                  refine guard_split hf (t := 196) rfl (fun hg104 => ?_) (fun hg104 => ?_)
                  ·have hG104 := hg104; try simp only [gS] at hG104
                   refine o_v hf hh (y_lds Try.ag_28 rfl) ?_; clear hf a; intro a hf
                   refine o_v hf hh (yv_fieldAddr Try.fo_39_0 rfl) ?_; clear hf a; intro a hf
                   refine o_v hf hh (y_ld Try.sc_3 rfl) ?_; clear hf a; intro a hf
                   refine o_v hf hh (yv_fieldAddr Try.fo_39_0 rfl) ?_; clear hf a; intro a hf
                   refine o_v hf hh (y_ld Try.sc_3 rfl) ?_; clear hf a; intro a hf
                   refine o_v hf hh (y_sub rfl rfl) ?_; clear hf a; intro a hf
                   refine o_call hf Try.en_30 rfl rfl rfl (p30 _ _ _ _) ?_; clear hf a; intro v a w hR hf
                   obtain ⟨rfl, hx⟩ := hR; replace hh := hh.more hx; clear hx
                   refine o_v hf hh (yv_not rfl) ?_; clear hf a; intro a hf
                   refine o_v hf hh (yv_move rfl) ?_; clear hf a; intro a hf
                   refine guard_split hf (t := 205) rfl (fun hg106 => ?_) (fun hg106 => ?_)
                   ·have hG106 := hg106; try simp only [gS] at hG106
                    refine o_off hf ?_; clear hf a; intro a hf
                    refine o_off hf ?_; clear hf a; intro a hf
                    refine o_off hf ?_; clear hf a; intro a hf
                    refine o_off hf ?_; clear hf a; intro a hf
                    refine o_off hf ?_; clear hf a; intro a hf
                    refine o_off hf ?_; clear hf a; intro a hf
                    refine o_off hf ?_; clear hf a; intro a hf
                    refine o_off hf ?_; clear hf a; intro a hf
                    refine o_v hf hh (y_pt rfl rfl) ?_; clear hf a; intro a hf
                    refine o_v hf hh (y_pt rfl rfl) ?_; clear hf a; intro a hf
                    refine o_v hf hh (y_pf rfl rfl) ?_; clear hf a; intro a hf
                    refine o_end ?_
                    refine c_t hf ?_
                    refine sy_sq ?_
                    refine o_v hf hh (yv_assign rfl) ?_; clear hf a; intro a hf
                    refine o_end ?_
                    refine sy_ret ?_
                    refine blk_r ?_
                    refine then_r ?_
                    refine then_r ?_
                    refine blk_r ?_
                    refine then_r ?_
                    refine blk_r ?_
                    refine then_r ?_
                    refine then_r ?_
                    refine blk_r ?_
                    refine then_r ?_
                    refine ret_r hf rfl rfl ?_
                    first
                      | exact ⟨rfl, (by first | exact hh.ext | exact e3.trans hh.ext)⟩
                      | (exfalso
                         (repeat (rename Fr _ _ _ _ => z9; clear z9))
                         (repeat (rename Hp _ _ _ _ => z9; clear z9))
                         (try clear hcn); (try clear hat); (try clear hbe)
                         first
                           | (rcases hKd with ⟨h1, h2⟩ | ⟨h1, h2⟩ <;> first | (omega; done) | (simp_all; done))
                           | (rcases hb2 with h1 | h1 <;> first | (omega; done) | (simp_all; done))
                           | (rcases hK with ⟨h1, h2, h3⟩ | ⟨h1, h2, h3⟩ | ⟨h1, h2, h3⟩ <;> first | (omega; done) | (simp_all; done))
                           | (omega; done)
                           | (simp_all; done)
                           | (simp_all <;> omega))
                      | omega
                   ·have hG106 := hg106; try simp only [gS] at hG106
                    refine o_v hf hh (y_lds Try.ag_28 rfl) ?_; clear hf a; intro a hf
                    refine o_v hf hh (yv_fieldAddr Try.fo_39_1 rfl) ?_; clear hf a; intro a hf
                    refine o_v hf hh (y_ld Try.sc_3 rfl) ?_; clear hf a; intro a hf
                    refine o_v hf hh (yv_fieldAddr Try.fo_39_1 rfl) ?_; clear hf a; intro a hf
                    refine o_v hf hh (y_ld Try.sc_3 rfl) ?_; clear hf a; intro a hf
                    refine o_v hf hh (y_sub rfl rfl) ?_; clear hf a; intro a hf
                    refine o_call hf Try.en_30 rfl rfl rfl (p30 _ _ _ _) ?_; clear hf a; intro v a w hR hf
                    obtain ⟨rfl, hx⟩ := hR; replace hh := hh.more hx; clear hx
                    refine o_v hf hh (yv_not rfl) ?_; clear hf a; intro a hf
                    refine o_v hf hh (y_pf rfl rfl) ?_; clear hf a; intro a hf
                    refine o_v hf hh (y_pt rfl rfl) ?_; clear hf a; intro a hf
                    refine o_v hf hh (y_pf rfl rfl) ?_; clear hf a; intro a hf
                    refine o_end ?_
                    refine sy_cond hf rfl (fun hg108 => ?_) (fun hg108 => ?_)
                    ·have hG108 := hg108; try simp only [gS] at hG108
                     refine sy_sq ?_
                     refine o_v hf hh (yv_assign rfl) ?_; clear hf a; intro a hf
                     refine o_end ?_
                     refine sy_ret ?_
                     refine blk_r ?_
                     refine then_r ?_
                     refine then_r ?_
                     refine blk_r ?_
                     refine then_r ?_
                     refine blk_r ?_
                     refine then_r ?_
                     refine then_r ?_
                     refine blk_r ?_
                     refine then_r ?_
                     refine ret_r hf rfl rfl ?_
                     first
                       | exact ⟨rfl, (by first | exact hh.ext | exact e3.trans hh.ext)⟩
                       | (exfalso
                          (repeat (rename Fr _ _ _ _ => z9; clear z9))
                          (repeat (rename Hp _ _ _ _ => z9; clear z9))
                          (try clear hcn); (try clear hat); (try clear hbe)
                          first
                            | (rcases hKd with ⟨h1, h2⟩ | ⟨h1, h2⟩ <;> first | (omega; done) | (simp_all; done))
                            | (rcases hb2 with h1 | h1 <;> first | (omega; done) | (simp_all; done))
                            | (rcases hK with ⟨h1, h2, h3⟩ | ⟨h1, h2, h3⟩ | ⟨h1, h2, h3⟩ <;> first | (omega; done) | (simp_all; done))
                            | (omega; done)
                            | (simp_all; done)
                            | (simp_all <;> omega))
                       | omega
                    ·have hG108 := hg108; try simp only [gS] at hG108
                     refine sy_skip ?_
                     refine blk_n ?_
                     refine then_n ?_
                     refine sy_ops ?_
                     refine o_v hf hh (y_add rfl rfl) ?_; clear hf a; intro a hf
                     refine o_v hf hh (yv_move rfl) ?_; clear hf a; intro a hf
                     refine ops_end ?_
                     refine then_n ?_
                     exact ⟨y + 1, ⟨by omega, (hf.head (by repeat' (first | exact True.intro | refine And.intro rfl ?_)) (Keep.cons rfl (Keep.cons rfl (Keep.cons rfl (Keep.cons rfl (Keep.cons rfl (Keep.cons rfl (Keep.cons rfl (Keep.cons rfl (Keep.cons rfl (Keep.cons rfl (Keep.cons rfl (Keep.cons rfl (Keep.cons rfl (Keep.cons rfl (Keep.cons rfl (Keep.cons rfl (Keep.cons rfl (Keep.cons rfl (Keep.cons rfl (Keep.cons rfl (Keep.cons rfl (Keep.cons rfl (Keep.cons rfl (Keep.cons rfl (Keep.cons rfl (Keep.cons rfl (Keep.cons rfl (Keep.cons rfl (Keep.cons rfl (Keep.cons rfl (Keep.cons rfl (Keep.cons rfl (Keep.cons rfl (Keep.cons rfl (Keep.cons rfl (Keep.cons rfl (Keep.cons rfl (Keep.cons rfl (Keep.cons rfl (Keep.cons rfl (Keep.cons rfl (Keep.cons rfl (Keep.cons rfl (Keep.cons rfl (Keep.cons rfl (Keep.cons rfl (Keep.cons rfl (Keep.cons rfl (Keep.cons rfl (Keep.app rfl (Keep.rm rfl Keep.base)))))))))))))))))))))))))))))))))))))))))))))))))))), hh.less (.cons _ (.cons _ (.cons _ (.refl _))))⟩, by omega⟩
                  ·have hG104 := hg104; try simp only [gS] at hG104
                   refine o_off hf ?_; clear hf a; intro a hf
                   refine o_off hf ?_; clear hf a; intro a hf
                   refine o_off hf ?_; clear hf a; intro a hf
                   refine o_off hf ?_; clear hf a; intro a hf
                   refine o_off hf ?_; clear hf a; intro a hf
                   refine o_off hf ?_; clear hf a; intro a hf
                   refine o_off hf ?_; clear hf a; intro a hf
                   refine o_off hf ?_; clear hf a; intro a hf
                   refine o_off hf ?_; clear hf a; intro a hf
                   refine o_off hf ?_; clear hf a; intro a hf
                   refine o_off hf ?_; clear hf a; intro a hf
                   refine o_off hf ?_; clear hf a; intro a hf
                   refine o_off hf ?_; clear hf a; intro a hf
                   refine o_off hf ?_; clear hf a; intro a hf
                   refine o_off hf ?_; clear hf a; intro a hf
                   refine o_off hf ?_; clear hf a; intro a hf
                   refine o_off hf ?_; clear hf a; intro a hf
                   refine o_off hf ?_; clear hf a; intro a hf
                   refine o_v hf hh (y_pf rfl rfl) ?_; clear hf a; intro a hf
                   refine o_v hf hh (y_pf rfl rfl) ?_; clear hf a; intro a hf
                   refine o_end ?_
                   refine c_f hf ?_
                   refine sy_skip ?_
                   refine blk_n ?_
                   refine then_n ?_
                   refine sy_ops ?_
                   refine o_v hf hh (y_add rfl rfl) ?_; clear hf a; intro a hf
                   refine o_v hf hh (yv_move rfl) ?_; clear hf a; intro a hf
                   refine ops_end ?_
                   refine then_n ?_
                   exact ⟨y + 1, ⟨by omega, (hf.head (by repeat' (first | exact True.intro | refine And.intro rfl ?_)) (Keep.cons rfl (Keep.cons rfl (Keep.cons rfl (Keep.cons rfl (Keep.cons rfl (Keep.cons rfl (Keep.cons rfl (Keep.cons rfl (Keep.cons rfl (Keep.cons rfl (Keep.cons rfl (Keep.cons rfl (Keep.cons rfl (Keep.cons rfl (Keep.cons rfl (Keep.cons rfl (Keep.cons rfl (Keep.cons rfl (Keep.cons rfl (Keep.cons rfl (Keep.cons rfl (Keep.cons rfl (Keep.cons rfl (Keep.cons rfl (Keep.cons rfl (Keep.cons rfl (Keep.cons rfl (Keep.cons rfl (Keep.cons rfl (Keep.cons rfl (Keep.cons rfl (Keep.cons rfl (Keep.cons rfl (Keep.cons rfl (Keep.cons rfl (Keep.cons rfl (Keep.cons rfl (Keep.cons rfl (Keep.cons rfl (Keep.cons rfl (Keep.cons rfl (Keep.cons rfl (Keep.cons rfl (Keep.cons rfl (Keep.cons rfl (Keep.cons rfl (Keep.cons rfl (Keep.cons rfl (Keep.cons rfl (Keep.app rfl (Keep.rm rfl Keep.base)))))))))))))))))))))))))))))))))))))))))))))))))))), hh.less (.cons _ (.cons _ (.cons _ (.refl _))))⟩, by omega⟩
                ·have hG88 := hg88; try simp only [gS] at hG88
                 refine sy_exit ?_
                 refine then_e ?_
                 refine then_e ?_
                 refine blk_e ?_
                 refine then_n ?_
                 refine sy_seq ?_
                 refine sy_quiet (C := Hp _ _ _) Try.follows (by kernel_rfl) (hh.drawn _) ?_
                 refine oq_v hf (yv_move rfl) ?_; clear hf a; intro a hf
                 refine oq_v hf (yv_bin rfl rfl rfl) ?_; clear hf a; intro a hf
                 refine oq_v hf (yv_move rfl) ?_; clear hf a; intro a hf
                 refine guard_splitq hf (t := 220) rfl (fun hg110 => ?_) (fun hg110 => ?_)
                 ·have hG110 := hg110; try simp only [gS] at hG110
                  have hd0 : drwE c = 0 := by assumption
                  obtain ⟨_, _, _, _, hbe, hln, hat9, _⟩ := drw_good hd0
                  obtain ⟨blkL, offL, ccL, TL, frL, esL, hbL, hcL⟩ := hT9 x _ (hat9 x (by omega))
                  have g9 := (cellsAt_get 2 _ _ hcL).2
                  have l1 : ccL[offL + ((x : Nat) : Int).toNat * 2]? = some (.int .i64 (drwP c x).1) := g9 0 _ rfl
                  have l2 : ccL[offL + ((x : Nat) : Int).toNat * 2 + 1]? = some (.int .i64 (drwP c x).2) := g9 1 _ rfl
                  have hle := tru_bet (x := 0) (y := x) hT (hbe x (by omega))
                  unfold inC at hle
                  simp only [Bool.and_eq_true, decide_eq_true_eq, hz0] at hle
                  have hj1 : (drwP c x).1 = (betV c false ((0 : Nat) : Int) (x : Int)).1 := rfl
                  have hj2 : (drwP c x).2 = (betV c true ((0 : Nat) : Int) (x : Int)).1 := rfl
                  refine oq_v hf (yv_move rfl) ?_; clear hf a; intro a hf
                  refine oq_v hf (yv_move rfl) ?_; clear hf a; intro a hf
                  refine oq_v hf (y_ix Try.se_33 (congrArg (fun z => some (Value.slice z (drwL c).length co)) esL) rfl) ?_; clear hf a; intro a hf
                  refine oq_v hf (yv_fieldAddr Try.fo_39_0 rfl) ?_; clear hf a; intro a hf
                  refine oq_v hf (y_ld Try.sc_3 rfl) ?_; clear hf a; intro a hf
                  refine oq_v hf (yv_fieldAddr Try.fo_39_0 rfl) ?_; clear hf a; intro a hf
                  refine oq_v hf (y_ld Try.sc_3 rfl) ?_; clear hf a; intro a hf
                  refine oq_v hf (yv_bin rfl rfl rfl) ?_; clear hf a; intro a hf
                  refine oq_v hf (yv_move rfl) ?_; clear hf a; intro a hf
                  refine guard_splitq hf (t := 229) rfl (fun hg113 => ?_) (fun hg113 => ?_)
                  ·have hG113 := hg113; try simp only [gS] at hG113
                   refine oq_off hf ?_; clear hf a; intro a hf
                   refine oq_off hf ?_; clear hf a; intro a hf
                   refine oq_off hf ?_; clear hf a; intro a hf
                   refine oq_off hf ?_; clear hf a; intro a hf
                   refine oq_off hf ?_; clear hf a; intro a hf
                   refine oq_off hf ?_; clear hf a; intro a hf
                   refine oq_off hf ?_; clear hf a; intro a hf
                   refine oq_off hf ?_; clear hf a; intro a hf
                   refine oq_v hf (y_pt rfl rfl) ?_; clear hf a; intro a hf
                   refine oq_v hf (y_pt rfl rfl) ?_; clear hf a; intro a hf
                   refine q_end fun w hh => ?_
                   refine then_n ?_
                   refine c_t hf ?_
                   refine sy_sq ?_
                   refine o_v hf hh (yv_assign rfl) ?_; clear hf a; intro a hf
                   refine o_end ?_
                   refine sy_ret ?_
                   refine blk_r ?_
                   refine then_r ?_
                   refine then_r ?_
                   refine blk_r ?_
                   refine then_r ?_
                   refine ret_r hf rfl rfl ?_
                   first
                     | exact ⟨rfl, (by first | exact hh.ext | exact e3.trans hh.ext)⟩
                     | (exfalso
                        (repeat (rename Fr _ _ _ _ => z9; clear z9))
                        (repeat (rename Hp _ _ _ _ => z9; clear z9))
                        (try clear hcn); (try clear hat); (try clear hbe)
                        first
                          | (rcases hKd with ⟨h1, h2⟩ | ⟨h1, h2⟩ <;> first | (omega; done) | (simp_all; done))
                          | (rcases hb2 with h1 | h1 <;> first | (omega; done) | (simp_all; done))
                          | (rcases hK with ⟨h1, h2, h3⟩ | ⟨h1, h2, h3⟩ | ⟨h1, h2, h3⟩ <;> first | (omega; done) | (simp_all; done))
                          | (omega; done)
                          | (simp_all; done)
                          | (simp_all <;> omega))
                     | omega
                  ·have hG113 := hg113; try simp only [gS] at hG113
                   refine oq_v hf (yv_move rfl) ?_; clear hf a; intro a hf
                   refine oq_v hf (yv_move rfl) ?_; clear hf a; intro a hf
                   refine oq_v hf (y_ix Try.se_33 (congrArg (fun z => some (Value.slice z (drwL c).length co)) esL) rfl) ?_; clear hf a; intro a hf
                   refine oq_v hf (yv_fieldAddr Try.fo_39_1 rfl) ?_; clear hf a; intro a hf
                   refine oq_v hf (y_ld Try.sc_3 rfl) ?_; clear hf a; intro a hf
                   refine oq_v hf (yv_fieldAddr Try.fo_39_1 rfl) ?_; clear hf a; intro a hf
                   refine oq_v hf (y_ld Try.sc_3 rfl) ?_; clear hf a; intro a hf
                   refine oq_v hf (yv_bin rfl rfl rfl) ?_; clear hf a; intro a hf
                   refine oq_v hf (y_pf rfl rfl) ?_; clear hf a; intro a hf
                   refine oq_v hf (y_pt rfl rfl) ?_; clear hf a; intro a hf
                   refine q_end fun w hh => ?_
                   refine then_n ?_
                   refine sy_cond hf rfl (fun hg116 => ?_) (fun hg116 => ?_)
                   ·have hG116 := hg116; try simp only [gS] at hG116
                    refine sy_sq ?_
                    refine o_v hf hh (yv_assign rfl) ?_; clear hf a; intro a hf
                    refine o_end ?_
                    refine sy_ret ?_
                    refine blk_r ?_
                    refine then_r ?_
                    refine then_r ?_
                    refine blk_r ?_
                    refine then_r ?_
                    refine ret_r hf rfl rfl ?_
                    first
                      | exact ⟨rfl, (by first | exact hh.ext | exact e3.trans hh.ext)⟩
                      | (exfalso
                         (repeat (rename Fr _ _ _ _ => z9; clear z9))
                         (repeat (rename Hp _ _ _ _ => z9; clear z9))
                         (try clear hcn); (try clear hat); (try clear hbe)
                         first
                           | (rcases hKd with ⟨h1, h2⟩ | ⟨h1, h2⟩ <;> first | (omega; done) | (simp_all; done))
                           | (rcases hb2 with h1 | h1 <;> first | (omega; done) | (simp_all; done))
                           | (rcases hK with ⟨h1, h2, h3⟩ | ⟨h1, h2, h3⟩ | ⟨h1, h2, h3⟩ <;> first | (omega; done) | (simp_all; done))
                           | (omega; done)
                           | (simp_all; done)
                           | (simp_all <;> omega))
                      | omega
                   ·have hG116 := hg116; try simp only [gS] at hG116
                    refine sy_skip ?_
                    refine blk_n ?_
                    refine then_n ?_
                    refine sy_ops ?_
                    refine o_v hf hh (y_add rfl rfl) ?_; clear hf a; intro a hf
                    refine o_v hf hh (yv_move rfl) ?_; clear hf a; intro a hf
                    refine ops_end ?_
                    refine then_n ?_
                    exact ⟨x + 1, ⟨by omega, (hf.head (by repeat' (first | exact True.intro | refine And.intro rfl ?_)) (Keep.cons rfl (Keep.cons rfl (Keep.cons rfl (Keep.cons rfl (Keep.cons rfl (Keep.cons rfl (Keep.cons rfl (Keep.cons rfl (Keep.cons rfl (Keep.cons rfl (Keep.cons rfl (Keep.cons rfl (Keep.cons rfl (Keep.cons rfl (Keep.cons rfl (Keep.cons rfl (Keep.cons rfl (Keep.cons rfl (Keep.cons rfl (Keep.cons rfl (Keep.cons rfl (Keep.cons rfl (Keep.cons rfl (Keep.cons rfl (Keep.cons rfl (Keep.app rfl (Keep.rm rfl (Keep.cons rfl (Keep.cons rfl (Keep.cons rfl (Keep.cons rfl (Keep.cons rfl (Keep.cons rfl (Keep.cons rfl (Keep.cons rfl (Keep.cons rfl (Keep.app rfl (Keep.rm rfl Keep.base))))))))))))))))))))))))))))))))))))))), hh.less (List.nil_sublist _)⟩, by omega⟩
                 ·have hG110 := hg110; try simp only [gS] at hG110
                  refine oq_off hf ?_; clear hf a; intro a hf
                  refine oq_off hf ?_; clear hf a; intro a hf
                  refine oq_off hf ?_; clear hf a; intro a hf
                  refine oq_off hf ?_; clear hf a; intro a hf
                  refine oq_off hf ?_; clear hf a; intro a hf
                  refine oq_off hf ?_; clear hf a; intro a hf
                  refine oq_off hf ?_; clear hf a; intro a hf
                  refine oq_off hf ?_; clear hf a; intro a hf
                  refine oq_off hf ?_; clear hf a; intro a hf
                  refine oq_off hf ?_; clear hf a; intro a hf
                  refine oq_off hf ?_; clear hf a; intro a hf
                  refine oq_off hf ?_; clear hf a; intro a hf
                  refine oq_off hf ?_; clear hf a; intro a hf
                  refine oq_off hf ?_; clear hf a; intro a hf
                  refine oq_off hf ?_; clear hf a; intro a hf
                  refine oq_off hf ?_; clear hf a; intro a hf
                  refine oq_off hf ?_; clear hf a; intro a hf
                  refine oq_off hf ?_; clear hf a; intro a hf
                  refine oq_v hf (y_pf rfl rfl) ?_; clear hf a; intro a hf
                  refine q_end fun w hh => ?_
                  refine then_n ?_
                  refine c_f hf ?_
                  refine sy_skip ?_
                  refine blk_n ?_
                  refine then_n ?_
                  refine sy_ops ?_
                  refine o_v hf hh (y_add rfl rfl) ?_; clear hf a; intro a hf
                  refine o_v hf hh (yv_move rfl) ?_; clear hf a; intro a hf
                  refine ops_end ?_
                  refine then_n ?_
                  exact ⟨x + 1, ⟨by omega, (hf.head (by repeat' (first | exact True.intro | refine And.intro rfl ?_)) (Keep.cons rfl (Keep.cons rfl (Keep.cons rfl (Keep.cons rfl (Keep.cons rfl (Keep.cons rfl (Keep.cons rfl (Keep.cons rfl (Keep.cons rfl (Keep.cons rfl (Keep.cons rfl (Keep.cons rfl (Keep.cons rfl (Keep.cons rfl (Keep.cons rfl (Keep.cons rfl (Keep.cons rfl (Keep.cons rfl (Keep.cons rfl (Keep.cons rfl (Keep.cons rfl (Keep.cons rfl (Keep.cons rfl (Keep.cons rfl (Keep.cons rfl (Keep.app rfl (Keep.rm rfl (Keep.cons rfl (Keep.cons rfl (Keep.cons rfl (Keep.cons rfl (Keep.cons rfl (Keep.cons rfl (Keep.cons rfl (Keep.cons rfl (Keep.cons rfl (Keep.app rfl (Keep.rm rfl Keep.base))))))))))))))))))))))))))))))))))))))), hh.less (List.nil_sublist _)⟩, by omega⟩
              ·have hG86 := hg86; try simp only [gS] at hG86
               refine sy_exit ?_
               refine then_e ?_
               refine then_e ?_
               refine blk_e ?_
               refine then_n ?_
               refine sy_sq ?_
               refine o_call hf Try.en_14 rfl rfl rfl (p14 _) ?_; clear hf a; intro v a w hR hf
               obtain ⟨rfl, hx⟩ := hR; replace hh := hh.more hx; clear hx
               refine o_v hf hh (yv_assign rfl) ?_; clear hf a; intro a hf
               refine o_end ?_
               refine sy_ret ?_
               refine ret_r hf rfl rfl ?_
               first
                 | exact ⟨rfl, (by first | exact hh.ext | exact e3.trans hh.ext)⟩
                 | (exfalso
                    (repeat (rename Fr _ _ _ _ => z9; clear z9))
                    (repeat (rename Hp _ _ _ _ => z9; clear z9))
                    (try clear hcn); (try clear hat); (try clear hbe)
                    first
                      | (rcases hKd with ⟨h1, h2⟩ | ⟨h1, h2⟩ <;> first | (omega; done) | (simp_all; done))
                      | (rcases hb2 with h1 | h1 <;> first | (omega; done) | (simp_all; done))
                      | (rcases hK with ⟨h1, h2, h3⟩ | ⟨h1, h2, h3⟩ | ⟨h1, h2, h3⟩ <;> first | (omega; done) | (simp_all; done))
                      | (omega; done)
                      | (simp_all; done)
                      | (simp_all <;> omega))
                 | omega
end Go.Proofs.Ytccjnjhlnpgocaa
namespace Go.Proofs.Ytccjnjhlnpgocaa
open Go Go.Sy Go.ChaM Go.ChangeShapes Go.WideShapes Go.Deep Go.RowKit
theorem hs24 : Try.prog.underlying 24 = some (.struct (Try.prog.fieldsOf 24)) := by kernel_rfl
theorem fs24 : (Try.prog.fieldsOf 24).map (fun f => (f.offset, f.type)) = #[(0, 3), (1, 22)] := by kernel_rfl
theorem co24 : Try.prog.cellsOf 24 = 2 := by kernel_rfl
theorem co22 : Try.prog.cellsOf 22 = 1 := by kernel_rfl
theorem co3 : Try.prog.cellsOf 3 = 1 := by kernel_rfl
theorem un22 : Try.prog.underlying 22 = some (.slice 46) := by kernel_rfl
theorem un42 : Try.prog.underlying 42 = some (.slice 56) := by kernel_rfl
theorem un56 : Try.prog.underlying 56 = some (.int .u16) := by kernel_rfl
theorem un5 : Try.prog.underlying 5 = some (.int .u8) := by kernel_rfl
theorem hs46 : Try.prog.underlying 46 = some (.struct (Try.prog.fieldsOf 46)) := by kernel_rfl
theorem co46 : Try.prog.cellsOf 46 = 6 := by kernel_rfl
theorem fk46 : flK Try.prog .i64 9 46 = some 6 := by kernel_rfl
theorem fk56 : flK Try.prog .u16 9 56 = some 1 := by kernel_rfl
theorem un4 : Try.prog.underlying 4 = some .bool := by kernel_rfl
theorem own : ownKnob Try.prog.godebug = none := by kernel_rfl
def toSi (p : List Int) : SiD := match p with
  | [a, b, c, d, e, f] => ⟨a, b, c, d, e, f⟩
  | _ => ⟨0, 0, 0, 0, 0, 0⟩
theorem toSi_enc {p : List Int} (h : p.length = 6) : siC (toSi p) = p.map (Value.int .i64) := by
  match p, h with
  | [a, b, c, d, e, f], _ => rfl
theorem toSi_bd {p : List Int} (h : p.length = 6) (hb : ∀ z ∈ p, I64 z) : SiI (toSi p) := by
  match p, h with
  | [a, b, c, d, e, f], _ => exact ⟨hb a (by simp), hb b (by simp), hb c (by simp), hb d (by simp), hb e (by simp), hb f (by simp)⟩
theorem tAt_flat {α : Type} {W : World} {sa : Option Addr} {l : List (List Int)} {n : Nat} {enc : α → List Value} {f : List Int → α} (hf : ∀ p ∈ l, enc (f p) = p.map (Value.int .i64)) (h : FlatAt W .i64 sa n l) : TAt n enc W sa (l.map f) := fun i s hi => by
  rw [List.getElem?_map] at hi
  cases hp : l[i]? with
  | none => rw [hp] at hi; cases hi
  | some p =>
    rw [hp] at hi
    cases hi
    obtain ⟨blk, off, c, T, fr, h1, h2, h3⟩ := h i p hp
    exact ⟨blk, off, c, T, fr, h1, h2, by rw [hf p (List.mem_of_getElem? hp)]; exact h3⟩
theorem len2 {l : List Value} (h : l.length = 2) : ∃ a b, l = [a, b] := by
  match l, h with
  | [a, b], _ => exact ⟨a, b, rfl⟩
section
variable {H : Type} {enc : TypeId × Value → H} {W : World} {base : Nat} {spare : Nat → Bool} {held : Bool}
set_option maxRecDepth 100000 in
theorem openCha {r : Reach} {b0 : Nat} {v : Value} {d : DataW H} {p : List MemPlace} (hv : Value.okWide Try.prog W r b0 24 v) (h : DataW.Trod enc Try.prog W base spare held 24 v d p) : ∃ (c : ChD) (sa : Option Addr) (cp : Nat), v = .agg (chC c sa cp) ∧ ChIn W c sa ∧ c.si.length ≤ cp := by
  obtain ⟨cs, rfl, hsz⟩ := okWide_struct hs24 hv
  obtain ⟨fuel, h⟩ := h
  obtain ⟨_, hf⟩ := trod_field hs24 h
  rw [fs24] at hf
  rw [co24] at hsz
  obtain ⟨l, rfl⟩ : ∃ l : List Value, cs = l.toArray := ⟨cs.toList, by simp⟩
  obtain ⟨c0, c1, rfl⟩ := len2 (by simpa using hsz)
  replace hf : ∀ (i o : Nat) (u : TypeId) (c : Nat), (#[(0, 3), (1, 22)] : Array (Nat × TypeId))[i]? = some (o, u) → Try.prog.cellsOf u = c → ∃ n y, DataW.trod enc Try.prog W base spare held n u (([c0, c1].drop o).take c) = some y := hf
  obtain ⟨_, y0, g0⟩ := hf 0 0 3 1 rfl co3
  obtain ⟨_, _, g1⟩ := hf 1 1 22 1 rfl co22
  obtain ⟨n, e1, _, hn⟩ := DataW.trod_int Try.un_3 g0
  obtain ⟨l1, s1, a1, e2, m1, b1, f1⟩ := trod_slices un22 fk46 (by omega) g1
  have hc1 := trod_cap un22 e2 g1
  simp at e1 e2
  subst e1; subst e2
  refine ⟨⟨n, l1.map toSi⟩, s1, a1, by simp, ⟨tAt_flat (fun p hp => toSi_enc (b1 p hp).1) f1, wf64 hn, fun s hs => ?_⟩, by simpa using hc1⟩
  obtain ⟨p, hp, rfl⟩ := List.mem_map.1 hs
  exact toSi_bd (b1 p hp).1 (fun z hz => wf64 ((b1 p hp).2 z hz))
set_option maxRecDepth 100000 in
theorem openSi {r : Reach} {b0 : Nat} {v : Value} {d : DataW H} {p : List MemPlace} (hv : Value.okWide Try.prog W r b0 46 v) (h : DataW.Trod enc Try.prog W base spare held 46 v d p) : ∃ t : SiD, v = siV t ∧ SiI t := by
  obtain ⟨cs, rfl, hsz⟩ := okWide_struct hs46 hv
  obtain ⟨fuel, h⟩ := h
  obtain ⟨p, h1, h2, h3⟩ := trod_fl fk46 h
  refine ⟨toSi p, ?_, toSi_bd h1 (fun z hz => wf64 (h3 z hz))⟩
  match p, h1 with
  | [x1, x2, x3, x4, x5, x6], _ =>
    have e : cs = #[.int .i64 x1, .int .i64 x2, .int .i64 x3, .int .i64 x4, .int .i64 x5, .int .i64 x6] := by
      apply Array.ext'
      have h4 : cs.toList = [x1, x2, x3, x4, x5, x6].map (Value.int .i64) := h2
      rw [h4]; rfl
    subst e
    rfl
end
end Go.Proofs.Ytccjnjhlnpgocaa
