/- Contracts and plain laws that the claim's card stands on (texts M35 M38 M39 M40 M23 M24 M25 of the work, put together). No statement of the seat is proved here. -/
import Derived.Maps.AppendAt
import Derived.Deep.LoopGhost
import Derived.Test.YtfnibmcenjiodaaGreatDoorQ12
import Derived.Test.YtfnibmcenjiodaaGreatDoorQ16
import Derived.Test.YtfnibmcenjiodaaGreatDoorQ17
import Derived.Test.YtfnibmcenjiodaaGreatDoorQ18
set_option linter.unusedVariables false
set_option linter.unusedSimpArgs false
namespace Go.Proofs.YtfnibmcenjiodaaGreatDoor.M
open Go.Sort Go.Shelf Go.RowKit Go.Maps Go.Proofs.YtfnibmcenjiodaaGreatDoorW.PrintWords Go.Proofs.YtfnibmcenjiodaaGreatDoorW.PrintLast Go.Proofs.YtfnibmcenjiodaaGreatDoorW.PrintMore
attribute [local go_sem] Oper.semAt_some
set_option maxRecDepth 100000 in
set_option maxHeartbeats 4000000 in
theorem settle_s5 (l : List Int) (gb go : Nat) (c : Nat) (w0 : World) (b4 b5 b6 b7 : Nat) (f : Nat) (ih : SettleOk l (some ⟨gb, go, none⟩) c w0 b4 b5 b6 b7 f) (hC : Kd.C (Kd.int .i64) w0 (some ⟨gb, go, none⟩) l.length l) (hlm : ∀ x ∈ l, 0 ≤ x ∧ x ≤ 1000) (bl : List Int × Int) (s0 s1 s2 s3 s4 s5 s6 : Int) (cost left : Int) (w : World) (hif : 5 + (f + 1) = l.length) (h7 : l.length ≤ 7) (hc0 : 0 ≤ cost) (hc1 : cost ≤ 6000 * 5) (hl0 : 0 ≤ left) (hl1 : left ≤ 64) (hg : ∃ k t, [s0, s1, s2, s3, s4, s5, s6] = ((k : Nat) : Int) :: t ∧ 1 ≤ k ∧ k ≤ 6) (hB : SB l (some ⟨gb, go, none⟩) c w0 b4 b5 b6 b7 bl w) :
    Calls Tryz.prog 76 #[.agg (vs [s0, s1, s2, s3, s4, s5, s6]), .int .i64 5, .int .i64 cost, .int .i64 left, .pointer (some ⟨b4, 0, none⟩), .pointer (some ⟨b5, 0, none⟩), .pointer (some ⟨b6, 0, none⟩), .pointer (some ⟨b7, 0, none⟩)] w fun e w' =>
      e = .returned (.tuple #[]) ∧ SB l (some ⟨gb, go, none⟩) c w0 b4 b5 b6 b7 (settleF l (f + 1) bl [s0, s1, s2, s3, s4, s5, s6] 5 cost left) w' ∧ Keep2 b4 b5 w w' := by
  have HB := Lib.hid hB
  have hw1 := hB.carry (below1 w (.cells (vs [s0, s1, s2, s3, s4, s5, s6]) 138))
  obtain ⟨b, least⟩ := bl
  have hgd := hB.good
  dsimp only at hgd
  obtain ⟨hg7, hgd⟩ := hgd
  obtain ⟨c0, c1, c2, c3, c4, c5, c6, rfl⟩ := seven hg7
  have vse : vs [s0, s1, s2, s3, s4, s5, s6] = #[.int .i64 s0, .int .i64 s1, .int .i64 s2, .int .i64 s3, .int .i64 s4, .int .i64 s5, .int .i64 s6] := rfl
  obtain ⟨q0, q1, q2, q3, q4, q5, q6⟩ := cell_arr hw1.best
  have hle := box_cell hw1.least
  have hof := box_cell hw1.often
  have hil : ¬ (5 : Int) = l.length := by omega
  have HW := Lib.hid hw1
  have HX : Hid ((w.alloc (.cells (vs [s0, s1, s2, s3, s4, s5, s6]) 138)).heap[w.heap.size]? = some (.cells (vs [s0, s1, s2, s3, s4, s5, s6]) 138 (0, 0))) := Lib.hid (blk_new w _)
  rw [vse] at q0 q1 q2 q3 q4 q5 q6 hle hof
  have Hg := Lib.hid hg
  clear hw1 hB hg
  by_cases hq : [c0, c1, c2, c3, c4, c5, c6] ≠ zeros7 ∧ least ≤ cost
  · have hr : Hid (settleF l (f + 1) ([c0, c1, c2, c3, c4, c5, c6], least) [s0, s1, s2, s3, s4, s5, s6] 5 cost left = ([c0, c1, c2, c3, c4, c5, c6], least)) := Lib.hid (settle_none hq.1 hq.2)
    rcases hgd with hz | ⟨k, t, hk, hk1, hk6⟩
    · exact absurd hz hq.1
    · injection hk with z0 hk
      subst z0
      have hn := eq_no k hk1 hk6 c1 c2 c3 c4 c5 c6
      have hlc := hq.2
      clear hk hq
      rw [vse]
      go_enter Tryz.func76, Tryz.ntmps76
      go_wp2_with fail
      refine bodyPost_ret (results_none rfl _ _ _) rfl ?_
      rw [hr.out]
      exact ⟨rfl, HW.out, .of_below (below1 _ _)⟩
  · have hr := Lib.hid (settleF_succ l f ([c0, c1, c2, c3, c4, c5, c6], least) [s0, s1, s2, s3, s4, s5, s6] 5 cost left hq)
    obtain ⟨F, hF⟩ : ∃ F, F = settleStep l f [s0, s1, s2, s3, s4, s5, s6] 5 cost left := ⟨_, rfl⟩
    rw [← hF] at hr
    have HF := Lib.hid hF
    clear hF
    have main : Hid (∀ W1 : World, True) := Lib.hid (fun _ => trivial)
    rcases hgd with hz | ⟨k, t, hk, hk1, hk6⟩
    · injection hz with z0 hz; injection hz with z1 hz; injection hz with z2 hz; injection hz with z3 hz; injection hz with z4 hz; injection hz with z5 hz; injection hz with z6 hz
      subst z0 z1 z2 z3 z4 z5 z6
      clear hz hq
      have hy := eq_yes
      rw [vse]
      go_enter Tryz.func76, Tryz.ntmps76
      go_wp2_with fail
      go_loopw [31] (fun iv wr => ∃ n : Nat, n ≤ 6 ∧ iv = .int .i64 n ∧ Hid (SB l (some ⟨gb, go, none⟩) c w0 b4 b5 b6 b7 ((List.range n).foldl F ([0, 0, 0, 0, 0, 0, 0], least)) wr) ∧ Hid (wr.heap[w.heap.size]? = some (.cells (vs [s0, s1, s2, s3, s4, s5, s6]) 138 (0, 0))) ∧ Hid (Keep2 b4 b5 w wr)) (fun iv _ => 6 - (intOf iv).toNat)
      case atStart => exact ⟨0, by omega, rfl, HW, HX, Lib.hid (.of_below (below1 _ _))⟩
      case round =>
        obtain ⟨n, hn, rfl, HBr, HXr, HKr⟩ := hrel
        by_cases hlt : n < 6
        · obtain ⟨sh, hsh⟩ : ∃ sh, sh = shareN n := ⟨_, rfl⟩
          have hse : (64 : Int) / 2 ^ (n + 1) = sh := by rw [hsh]; exact shr_share n hlt
          have hs0 : 0 ≤ sh := by rw [hsh]; exact Int.natCast_nonneg _
          have Hsh := Lib.hid hsh
          clear hsh
          by_cases hfit : sh ≤ left
          · obtain ⟨ad, had, hcell⟩ := Kd.at_int (Kd.C_below hC HBr.out.below) 5 (by omega) (by omega)
            cases had
            have hlen1 : (5 : Int) < l.length := by omega
            obtain ⟨x, hx⟩ : ∃ x, x = rd l (5 : Nat) := ⟨_, rfl⟩
            have hxm := hlm x (by rw [hx, rd_nat _ _ (by omega)]; exact List.getElem_mem _)
            have hcx : wr.cell? ⟨gb, go + 5, none⟩ = some (.int .i64 x) := by rw [hx]; exact hcell
            have Hx := Lib.hid hx
            clear hcell hx
            have cc6 := box_cell HBr.out.often
            have cc7 := box_cell HBr.out.self
            obtain ⟨p0, p1, p2, p3, p4, p5, p6⟩ := cell_arr HXr.out
            obtain ⟨y, hy'⟩ : ∃ y, y = x * ((n : Int) + 1) := ⟨_, rfl⟩
            have hy0 : 0 ≤ y := by rw [hy']; exact Int.mul_nonneg hxm.1 (by omega)
            have hy6 : y ≤ 6000 := by rw [hy']; exact Int.le_trans (Int.mul_le_mul hxm.2 (show (n : Int) + 1 ≤ 6 by omega) (by omega) (by decide)) (by decide)
            have hye : x * ((n : Int) + 1) = y := hy'.symm
            have Hy := Lib.hid hy'
            clear hy'
            have e2 : IntKind.i64.wrap (cost + y) = cost + y := by rw [IntKind.wrap_i64]; omega
            have e3 : IntKind.i64.wrap (left - sh) = left - sh := by rw [IntKind.wrap_i64]; omega
            have e4 : IntKind.i64.wrap y = y := by rw [IntKind.wrap_i64]; omega
            have e5 : Hid (IntKind.i64.wrap ((n : Int) + 1) = n + 1) := Lib.hid (by rw [IntKind.wrap_i64]; omega)
            have e6 : Hid (IntKind.i64.wrap 6 = 6) := Lib.hid (by decide)
            have hc0x : w0.cell? ⟨gb, go + 5, none⟩ = some (.int .i64 x) := by
              obtain ⟨ad', e, h⟩ := Kd.at_int hC 5 (by omega) (by omega)
              cases e
              rw [Hx.out]; exact h
            obtain ⟨bl', hbl'⟩ : ∃ bl', bl' = (List.range n).foldl F ([0, 0, 0, 0, 0, 0, 0], least) := ⟨_, rfl⟩
            have HBr' : Hid (SB l (some ⟨gb, go, none⟩) c w0 b4 b5 b6 b7 bl' wr) := Lib.hid (by rw [hbl']; exact HBr.out)
            have Hbl := Lib.hid hbl'
            clear hbl'
            have HC : Hid (∀ W, SB l (some ⟨gb, go, none⟩) c w0 b4 b5 b6 b7 bl' W → Calls Tryz.prog 76 #[.agg #[.int .i64 s0, .int .i64 s1, .int .i64 s2, .int .i64 s3, .int .i64 s4, .int .i64 ((n : Int) + 1), .int .i64 s6], .int .i64 6, .int .i64 (cost + y), .int .i64 (left - sh), .pointer (some ⟨b4, 0, none⟩), .pointer (some ⟨b5, 0, none⟩), .pointer (some ⟨b6, 0, none⟩), .pointer (some ⟨b7, 0, none⟩)] W fun e w' =>
                e = .returned (.tuple #[]) ∧ SB l (some ⟨gb, go, none⟩) c w0 b4 b5 b6 b7 (settleF l f bl' [s0, s1, s2, s3, s4, (n : Int) + 1, s6] 6 (cost + y) (left - sh)) w' ∧ Keep2 b4 b5 W w') := Lib.hid (fun W hW =>
              ih 6 bl' [s0, s1, s2, s3, s4, (n : Int) + 1, s6] (cost + y) (left - sh) W (by omega) rfl (by omega) (by omega) (by omega) (by omega) (fun h => by omega) (fun _ => by obtain ⟨k, t, e, h1, h6⟩ := Hg.out; injection e with e _; subst e; exact ⟨k, _, rfl, h1, h6⟩) hW)
            have hst : Hid (F bl' n = settleF l f bl' [s0, s1, s2, s3, s4, (n : Int) + 1, s6] 6 (cost + y) (left - sh)) := Lib.hid (by rw [HF.out]; unfold settleStep; rw [← Hsh.out, if_pos hfit, ← Hx.out, ← Hy.out]; rfl)
            go_wp2_with fail
            obtain ⟨W2, hW2⟩ : ∃ W2, W2 = wr.alloc (.cells #[.int .i64 s0, .int .i64 s1, .int .i64 s2, .int .i64 s3, .int .i64 s4, .int .i64 ((n : Int) + 1), .int .i64 s6] 138) := ⟨_, rfl⟩
            have hb2 : Below wr.heap.size wr W2 := by rw [hW2]; exact below1 _ _
            have hK2 : W2.heap[wr.heap.size]? = some (.cells (vs [s0, s1, s2, s3, s4, (n : Int) + 1, s6]) 138 (0, 0)) := by rw [hW2]; exact blk_new wr _
            rw [← hW2]
            have HBd : Hid (SB l (some ⟨gb, go, none⟩) c w0 b4 b5 b6 b7 bl' W2.drew) := Lib.hid ((HBr'.out.carry hb2).carry ((Below.refl _ _).drew))
            have n4 := blk_lt HBr'.out.best
            have n5 := blk_lt HBr'.out.least
            obtain ⟨d1, d2, d3, d4, d5, d6, d7, d8, d9, d10⟩ := cell9 (HBr'.out.carry hb2) hK2 hc0x
            have HK2 := Lib.hid hK2
            have Hb2 := Lib.hid hb2
            clear hW2 cc6 cc7 p0 p1 p2 p3 p4 p5 p6 hcx hK2 hb2
            go_region_held3 (fun W => W.cell? ⟨b7, 0, none⟩ = some (.func (.func 76) #[] #[.pointer (some ⟨b4, 0, none⟩), .pointer (some ⟨b5, 0, none⟩), .pointer (some ⟨b6, 0, none⟩), .pointer (some ⟨b7, 0, none⟩)]) ∧ W.cell? ⟨b6, 0, none⟩ = some (.slice (some ⟨gb, go, none⟩) l.length c) ∧ W.cell? ⟨gb, go + 5, none⟩ = some (.int .i64 x) ∧
              W.cell? ⟨wr.heap.size, 0, none⟩ = some (.int .i64 s0) ∧ W.cell? ⟨wr.heap.size, 1, none⟩ = some (.int .i64 s1) ∧ W.cell? ⟨wr.heap.size, 2, none⟩ = some (.int .i64 s2) ∧ W.cell? ⟨wr.heap.size, 3, none⟩ = some (.int .i64 s3) ∧ W.cell? ⟨wr.heap.size, 4, none⟩ = some (.int .i64 s4) ∧ W.cell? ⟨wr.heap.size, 5, none⟩ = some (.int .i64 ((n : Int) + 1)) ∧ W.cell? ⟨wr.heap.size, 6, none⟩ = some (.int .i64 s6))
              (first | exact ⟨d1, d2, d3, d4, d5, d6, d7, d8, d9, d10⟩ | exact S9)
              ((go_at_call 76; rw [e6.out, e5.out, hye, e4, e2]; refine (HC.out _ HBd.out).mono ?_; rintro e w9 ⟨rfl, hB9, hk9⟩; have S9 := cell9 hB9 ((hk9.block _ (blk_lt HK2.out) (by omega) (by omega)).trans HK2.out) hc0x; have HB9 := Lib.hid hB9; have Hk9 := Lib.hid hk9; clear hB9 hk9))
            have hX9 : Hid (w9.heap[w.heap.size]? = some (.cells (vs [s0, s1, s2, s3, s4, s5, s6]) 138 (0, 0))) := Lib.hid (by
              have l0 := blk_lt HXr.out
              have l2 := Hb2.out.size
              have l4 := blk_lt HB.out.best
              have l5 := blk_lt HB.out.least
              exact (Hk9.out.block _ (Nat.lt_of_lt_of_le l0 l2) (by omega) (by omega)).trans ((Hb2.out.block _ l0).trans HXr.out))
            have hK9 : Hid (Keep2 b4 b5 w w9) := Lib.hid ((HKr.out.trans (.of_below Hb2.out)).trans ((Keep2.of_below ((Below.refl _ _).drew)).trans Hk9.out))
            go_wp2
            exact ⟨⟨n + 1, by omega, by simp, by rw [fold_range_succ, ← Hbl.out, hst.out]; exact HB9, hX9, hK9⟩, by simp [intOf]; omega⟩
          · have hst : Hid (F ((List.range n).foldl F ([0, 0, 0, 0, 0, 0, 0], least)) n = (List.range n).foldl F ([0, 0, 0, 0, 0, 0, 0], least)) := Lib.hid (by rw [HF.out]; unfold settleStep; rw [← Hsh.out, if_neg hfit])
            go_wp2
            exact ⟨⟨n + 1, by omega, by simp, by rw [fold_range_succ, hst.out]; exact HBr, HXr, HKr⟩, by simp [intOf]; omega⟩
        · obtain rfl : n = 6 := by omega
          go_wp2
          refine bodyPost_end (results_none rfl _ _ _) rfl ?_
          rw [hr.out]
          exact ⟨rfl, HBr.out, HKr.out⟩
    · injection hk with z0 hk
      subst z0
      have hn := eq_no k hk1 hk6 c1 c2 c3 c4 c5 c6
      have hlc : ¬ least ≤ cost := fun h => hq ⟨fun e => by injection e with e _; omega, h⟩
      clear hk hq
      rw [vse]
      go_enter Tryz.func76, Tryz.ntmps76
      go_wp2_with fail
      go_loopw [31] (fun iv wr => ∃ n : Nat, n ≤ 6 ∧ iv = .int .i64 n ∧ Hid (SB l (some ⟨gb, go, none⟩) c w0 b4 b5 b6 b7 ((List.range n).foldl F ([(k : Int), c1, c2, c3, c4, c5, c6], least)) wr) ∧ Hid (wr.heap[w.heap.size]? = some (.cells (vs [s0, s1, s2, s3, s4, s5, s6]) 138 (0, 0))) ∧ Hid (Keep2 b4 b5 w wr)) (fun iv _ => 6 - (intOf iv).toNat)
      case atStart => exact ⟨0, by omega, rfl, HW, HX, Lib.hid (.of_below (below1 _ _))⟩
      case round =>
        obtain ⟨n, hn6, rfl, HBr, HXr, HKr⟩ := hrel
        by_cases hlt : n < 6
        · obtain ⟨sh, hsh⟩ : ∃ sh, sh = shareN n := ⟨_, rfl⟩
          have hse : (64 : Int) / 2 ^ (n + 1) = sh := by rw [hsh]; exact shr_share n hlt
          have hs0 : 0 ≤ sh := by rw [hsh]; exact Int.natCast_nonneg _
          have Hsh := Lib.hid hsh
          clear hsh
          by_cases hfit : sh ≤ left
          · obtain ⟨ad, had, hcell⟩ := Kd.at_int (Kd.C_below hC HBr.out.below) 5 (by omega) (by omega)
            cases had
            have hlen1 : (5 : Int) < l.length := by omega
            obtain ⟨x, hx⟩ : ∃ x, x = rd l (5 : Nat) := ⟨_, rfl⟩
            have hxm := hlm x (by rw [hx, rd_nat _ _ (by omega)]; exact List.getElem_mem _)
            have hcx : wr.cell? ⟨gb, go + 5, none⟩ = some (.int .i64 x) := by rw [hx]; exact hcell
            have Hx := Lib.hid hx
            clear hcell hx
            have cc6 := box_cell HBr.out.often
            have cc7 := box_cell HBr.out.self
            obtain ⟨p0, p1, p2, p3, p4, p5, p6⟩ := cell_arr HXr.out
            obtain ⟨y, hy'⟩ : ∃ y, y = x * ((n : Int) + 1) := ⟨_, rfl⟩
            have hy0 : 0 ≤ y := by rw [hy']; exact Int.mul_nonneg hxm.1 (by omega)
            have hy6 : y ≤ 6000 := by rw [hy']; exact Int.le_trans (Int.mul_le_mul hxm.2 (show (n : Int) + 1 ≤ 6 by omega) (by omega) (by decide)) (by decide)
            have hye : x * ((n : Int) + 1) = y := hy'.symm
            have Hy := Lib.hid hy'
            clear hy'
            have e2 : IntKind.i64.wrap (cost + y) = cost + y := by rw [IntKind.wrap_i64]; omega
            have e3 : IntKind.i64.wrap (left - sh) = left - sh := by rw [IntKind.wrap_i64]; omega
            have e4 : IntKind.i64.wrap y = y := by rw [IntKind.wrap_i64]; omega
            have e5 : Hid (IntKind.i64.wrap ((n : Int) + 1) = n + 1) := Lib.hid (by rw [IntKind.wrap_i64]; omega)
            have e6 : Hid (IntKind.i64.wrap 6 = 6) := Lib.hid (by decide)
            have hc0x : w0.cell? ⟨gb, go + 5, none⟩ = some (.int .i64 x) := by
              obtain ⟨ad', e, h⟩ := Kd.at_int hC 5 (by omega) (by omega)
              cases e
              rw [Hx.out]; exact h
            obtain ⟨bl', hbl'⟩ : ∃ bl', bl' = (List.range n).foldl F ([(k : Int), c1, c2, c3, c4, c5, c6], least) := ⟨_, rfl⟩
            have HBr' : Hid (SB l (some ⟨gb, go, none⟩) c w0 b4 b5 b6 b7 bl' wr) := Lib.hid (by rw [hbl']; exact HBr.out)
            have Hbl := Lib.hid hbl'
            clear hbl'
            have HC : Hid (∀ W, SB l (some ⟨gb, go, none⟩) c w0 b4 b5 b6 b7 bl' W → Calls Tryz.prog 76 #[.agg #[.int .i64 s0, .int .i64 s1, .int .i64 s2, .int .i64 s3, .int .i64 s4, .int .i64 ((n : Int) + 1), .int .i64 s6], .int .i64 6, .int .i64 (cost + y), .int .i64 (left - sh), .pointer (some ⟨b4, 0, none⟩), .pointer (some ⟨b5, 0, none⟩), .pointer (some ⟨b6, 0, none⟩), .pointer (some ⟨b7, 0, none⟩)] W fun e w' =>
                e = .returned (.tuple #[]) ∧ SB l (some ⟨gb, go, none⟩) c w0 b4 b5 b6 b7 (settleF l f bl' [s0, s1, s2, s3, s4, (n : Int) + 1, s6] 6 (cost + y) (left - sh)) w' ∧ Keep2 b4 b5 W w') := Lib.hid (fun W hW =>
              ih 6 bl' [s0, s1, s2, s3, s4, (n : Int) + 1, s6] (cost + y) (left - sh) W (by omega) rfl (by omega) (by omega) (by omega) (by omega) (fun h => by omega) (fun _ => by obtain ⟨k, t, e, h1, h6⟩ := Hg.out; injection e with e _; subst e; exact ⟨k, _, rfl, h1, h6⟩) hW)
            have hst : Hid (F bl' n = settleF l f bl' [s0, s1, s2, s3, s4, (n : Int) + 1, s6] 6 (cost + y) (left - sh)) := Lib.hid (by rw [HF.out]; unfold settleStep; rw [← Hsh.out, if_pos hfit, ← Hx.out, ← Hy.out]; rfl)
            go_wp2_with fail
            obtain ⟨W2, hW2⟩ : ∃ W2, W2 = wr.alloc (.cells #[.int .i64 s0, .int .i64 s1, .int .i64 s2, .int .i64 s3, .int .i64 s4, .int .i64 ((n : Int) + 1), .int .i64 s6] 138) := ⟨_, rfl⟩
            have hb2 : Below wr.heap.size wr W2 := by rw [hW2]; exact below1 _ _
            have hK2 : W2.heap[wr.heap.size]? = some (.cells (vs [s0, s1, s2, s3, s4, (n : Int) + 1, s6]) 138 (0, 0)) := by rw [hW2]; exact blk_new wr _
            rw [← hW2]
            have HBd : Hid (SB l (some ⟨gb, go, none⟩) c w0 b4 b5 b6 b7 bl' W2.drew) := Lib.hid ((HBr'.out.carry hb2).carry ((Below.refl _ _).drew))
            have n4 := blk_lt HBr'.out.best
            have n5 := blk_lt HBr'.out.least
            obtain ⟨d1, d2, d3, d4, d5, d6, d7, d8, d9, d10⟩ := cell9 (HBr'.out.carry hb2) hK2 hc0x
            have HK2 := Lib.hid hK2
            have Hb2 := Lib.hid hb2
            clear hW2 cc6 cc7 p0 p1 p2 p3 p4 p5 p6 hcx hK2 hb2
            go_region_held3 (fun W => W.cell? ⟨b7, 0, none⟩ = some (.func (.func 76) #[] #[.pointer (some ⟨b4, 0, none⟩), .pointer (some ⟨b5, 0, none⟩), .pointer (some ⟨b6, 0, none⟩), .pointer (some ⟨b7, 0, none⟩)]) ∧ W.cell? ⟨b6, 0, none⟩ = some (.slice (some ⟨gb, go, none⟩) l.length c) ∧ W.cell? ⟨gb, go + 5, none⟩ = some (.int .i64 x) ∧
              W.cell? ⟨wr.heap.size, 0, none⟩ = some (.int .i64 s0) ∧ W.cell? ⟨wr.heap.size, 1, none⟩ = some (.int .i64 s1) ∧ W.cell? ⟨wr.heap.size, 2, none⟩ = some (.int .i64 s2) ∧ W.cell? ⟨wr.heap.size, 3, none⟩ = some (.int .i64 s3) ∧ W.cell? ⟨wr.heap.size, 4, none⟩ = some (.int .i64 s4) ∧ W.cell? ⟨wr.heap.size, 5, none⟩ = some (.int .i64 ((n : Int) + 1)) ∧ W.cell? ⟨wr.heap.size, 6, none⟩ = some (.int .i64 s6))
              (first | exact ⟨d1, d2, d3, d4, d5, d6, d7, d8, d9, d10⟩ | exact S9)
              ((go_at_call 76; rw [e6.out, e5.out, hye, e4, e2]; refine (HC.out _ HBd.out).mono ?_; rintro e w9 ⟨rfl, hB9, hk9⟩; have S9 := cell9 hB9 ((hk9.block _ (blk_lt HK2.out) (by omega) (by omega)).trans HK2.out) hc0x; have HB9 := Lib.hid hB9; have Hk9 := Lib.hid hk9; clear hB9 hk9))
            have hX9 : Hid (w9.heap[w.heap.size]? = some (.cells (vs [s0, s1, s2, s3, s4, s5, s6]) 138 (0, 0))) := Lib.hid (by
              have l0 := blk_lt HXr.out
              have l2 := Hb2.out.size
              have l4 := blk_lt HB.out.best
              have l5 := blk_lt HB.out.least
              exact (Hk9.out.block _ (Nat.lt_of_lt_of_le l0 l2) (by omega) (by omega)).trans ((Hb2.out.block _ l0).trans HXr.out))
            have hK9 : Hid (Keep2 b4 b5 w w9) := Lib.hid ((HKr.out.trans (.of_below Hb2.out)).trans ((Keep2.of_below ((Below.refl _ _).drew)).trans Hk9.out))
            go_wp2
            exact ⟨⟨n + 1, by omega, by simp, by rw [fold_range_succ, ← Hbl.out, hst.out]; exact HB9, hX9, hK9⟩, by simp [intOf]; omega⟩
          · have hst : Hid (F ((List.range n).foldl F ([(k : Int), c1, c2, c3, c4, c5, c6], least)) n = (List.range n).foldl F ([(k : Int), c1, c2, c3, c4, c5, c6], least)) := Lib.hid (by rw [HF.out]; unfold settleStep; rw [← Hsh.out, if_neg hfit])
            go_wp2
            exact ⟨⟨n + 1, by omega, by simp, by rw [fold_range_succ, hst.out]; exact HBr, HXr, HKr⟩, by simp [intOf]; omega⟩
        · obtain rfl : n = 6 := by omega
          go_wp2
          refine bodyPost_end (results_none rfl _ _ _) rfl ?_
          rw [hr.out]
          exact ⟨rfl, HBr.out, HKr.out⟩
set_option maxRecDepth 100000 in
set_option maxHeartbeats 4000000 in
theorem settle_s6 (l : List Int) (gb go : Nat) (c : Nat) (w0 : World) (b4 b5 b6 b7 : Nat) (f : Nat) (ih : SettleOk l (some ⟨gb, go, none⟩) c w0 b4 b5 b6 b7 f) (hC : Kd.C (Kd.int .i64) w0 (some ⟨gb, go, none⟩) l.length l) (hlm : ∀ x ∈ l, 0 ≤ x ∧ x ≤ 1000) (bl : List Int × Int) (s0 s1 s2 s3 s4 s5 s6 : Int) (cost left : Int) (w : World) (hif : 6 + (f + 1) = l.length) (h7 : l.length ≤ 7) (hc0 : 0 ≤ cost) (hc1 : cost ≤ 6000 * 6) (hl0 : 0 ≤ left) (hl1 : left ≤ 64) (hg : ∃ k t, [s0, s1, s2, s3, s4, s5, s6] = ((k : Nat) : Int) :: t ∧ 1 ≤ k ∧ k ≤ 6) (hB : SB l (some ⟨gb, go, none⟩) c w0 b4 b5 b6 b7 bl w) :
    Calls Tryz.prog 76 #[.agg (vs [s0, s1, s2, s3, s4, s5, s6]), .int .i64 6, .int .i64 cost, .int .i64 left, .pointer (some ⟨b4, 0, none⟩), .pointer (some ⟨b5, 0, none⟩), .pointer (some ⟨b6, 0, none⟩), .pointer (some ⟨b7, 0, none⟩)] w fun e w' =>
      e = .returned (.tuple #[]) ∧ SB l (some ⟨gb, go, none⟩) c w0 b4 b5 b6 b7 (settleF l (f + 1) bl [s0, s1, s2, s3, s4, s5, s6] 6 cost left) w' ∧ Keep2 b4 b5 w w' := by
  have HB := Lib.hid hB
  have hw1 := hB.carry (below1 w (.cells (vs [s0, s1, s2, s3, s4, s5, s6]) 138))
  obtain ⟨b, least⟩ := bl
  have hgd := hB.good
  dsimp only at hgd
  obtain ⟨hg7, hgd⟩ := hgd
  obtain ⟨c0, c1, c2, c3, c4, c5, c6, rfl⟩ := seven hg7
  have vse : vs [s0, s1, s2, s3, s4, s5, s6] = #[.int .i64 s0, .int .i64 s1, .int .i64 s2, .int .i64 s3, .int .i64 s4, .int .i64 s5, .int .i64 s6] := rfl
  obtain ⟨q0, q1, q2, q3, q4, q5, q6⟩ := cell_arr hw1.best
  have hle := box_cell hw1.least
  have hof := box_cell hw1.often
  have hil : ¬ (6 : Int) = l.length := by omega
  have HW := Lib.hid hw1
  have HX : Hid ((w.alloc (.cells (vs [s0, s1, s2, s3, s4, s5, s6]) 138)).heap[w.heap.size]? = some (.cells (vs [s0, s1, s2, s3, s4, s5, s6]) 138 (0, 0))) := Lib.hid (blk_new w _)
  rw [vse] at q0 q1 q2 q3 q4 q5 q6 hle hof
  have Hg := Lib.hid hg
  clear hw1 hB hg
  by_cases hq : [c0, c1, c2, c3, c4, c5, c6] ≠ zeros7 ∧ least ≤ cost
  · have hr : Hid (settleF l (f + 1) ([c0, c1, c2, c3, c4, c5, c6], least) [s0, s1, s2, s3, s4, s5, s6] 6 cost left = ([c0, c1, c2, c3, c4, c5, c6], least)) := Lib.hid (settle_none hq.1 hq.2)
    rcases hgd with hz | ⟨k, t, hk, hk1, hk6⟩
    · exact absurd hz hq.1
    · injection hk with z0 hk
      subst z0
      have hn := eq_no k hk1 hk6 c1 c2 c3 c4 c5 c6
      have hlc := hq.2
      clear hk hq
      rw [vse]
      go_enter Tryz.func76, Tryz.ntmps76
      go_wp2_with fail
      refine bodyPost_ret (results_none rfl _ _ _) rfl ?_
      rw [hr.out]
      exact ⟨rfl, HW.out, .of_below (below1 _ _)⟩
  · have hr := Lib.hid (settleF_succ l f ([c0, c1, c2, c3, c4, c5, c6], least) [s0, s1, s2, s3, s4, s5, s6] 6 cost left hq)
    obtain ⟨F, hF⟩ : ∃ F, F = settleStep l f [s0, s1, s2, s3, s4, s5, s6] 6 cost left := ⟨_, rfl⟩
    rw [← hF] at hr
    have HF := Lib.hid hF
    clear hF
    have main : Hid (∀ W1 : World, True) := Lib.hid (fun _ => trivial)
    rcases hgd with hz | ⟨k, t, hk, hk1, hk6⟩
    · injection hz with z0 hz; injection hz with z1 hz; injection hz with z2 hz; injection hz with z3 hz; injection hz with z4 hz; injection hz with z5 hz; injection hz with z6 hz
      subst z0 z1 z2 z3 z4 z5 z6
      clear hz hq
      have hy := eq_yes
      rw [vse]
      go_enter Tryz.func76, Tryz.ntmps76
      go_wp2_with fail
      go_loopw [31] (fun iv wr => ∃ n : Nat, n ≤ 6 ∧ iv = .int .i64 n ∧ Hid (SB l (some ⟨gb, go, none⟩) c w0 b4 b5 b6 b7 ((List.range n).foldl F ([0, 0, 0, 0, 0, 0, 0], least)) wr) ∧ Hid (wr.heap[w.heap.size]? = some (.cells (vs [s0, s1, s2, s3, s4, s5, s6]) 138 (0, 0))) ∧ Hid (Keep2 b4 b5 w wr)) (fun iv _ => 6 - (intOf iv).toNat)
      case atStart => exact ⟨0, by omega, rfl, HW, HX, Lib.hid (.of_below (below1 _ _))⟩
      case round =>
        obtain ⟨n, hn, rfl, HBr, HXr, HKr⟩ := hrel
        by_cases hlt : n < 6
        · obtain ⟨sh, hsh⟩ : ∃ sh, sh = shareN n := ⟨_, rfl⟩
          have hse : (64 : Int) / 2 ^ (n + 1) = sh := by rw [hsh]; exact shr_share n hlt
          have hs0 : 0 ≤ sh := by rw [hsh]; exact Int.natCast_nonneg _
          have Hsh := Lib.hid hsh
          clear hsh
          by_cases hfit : sh ≤ left
          · obtain ⟨ad, had, hcell⟩ := Kd.at_int (Kd.C_below hC HBr.out.below) 6 (by omega) (by omega)
            cases had
            have hlen1 : (6 : Int) < l.length := by omega
            obtain ⟨x, hx⟩ : ∃ x, x = rd l (6 : Nat) := ⟨_, rfl⟩
            have hxm := hlm x (by rw [hx, rd_nat _ _ (by omega)]; exact List.getElem_mem _)
            have hcx : wr.cell? ⟨gb, go + 6, none⟩ = some (.int .i64 x) := by rw [hx]; exact hcell
            have Hx := Lib.hid hx
            clear hcell hx
            have cc6 := box_cell HBr.out.often
            have cc7 := box_cell HBr.out.self
            obtain ⟨p0, p1, p2, p3, p4, p5, p6⟩ := cell_arr HXr.out
            obtain ⟨y, hy'⟩ : ∃ y, y = x * ((n : Int) + 1) := ⟨_, rfl⟩
            have hy0 : 0 ≤ y := by rw [hy']; exact Int.mul_nonneg hxm.1 (by omega)
            have hy6 : y ≤ 6000 := by rw [hy']; exact Int.le_trans (Int.mul_le_mul hxm.2 (show (n : Int) + 1 ≤ 6 by omega) (by omega) (by decide)) (by decide)
            have hye : x * ((n : Int) + 1) = y := hy'.symm
            have Hy := Lib.hid hy'
            clear hy'
            have e2 : IntKind.i64.wrap (cost + y) = cost + y := by rw [IntKind.wrap_i64]; omega
            have e3 : IntKind.i64.wrap (left - sh) = left - sh := by rw [IntKind.wrap_i64]; omega
            have e4 : IntKind.i64.wrap y = y := by rw [IntKind.wrap_i64]; omega
            have e5 : Hid (IntKind.i64.wrap ((n : Int) + 1) = n + 1) := Lib.hid (by rw [IntKind.wrap_i64]; omega)
            have e6 : Hid (IntKind.i64.wrap 7 = 7) := Lib.hid (by decide)
            have hc0x : w0.cell? ⟨gb, go + 6, none⟩ = some (.int .i64 x) := by
              obtain ⟨ad', e, h⟩ := Kd.at_int hC 6 (by omega) (by omega)
              cases e
              rw [Hx.out]; exact h
            obtain ⟨bl', hbl'⟩ : ∃ bl', bl' = (List.range n).foldl F ([0, 0, 0, 0, 0, 0, 0], least) := ⟨_, rfl⟩
            have HBr' : Hid (SB l (some ⟨gb, go, none⟩) c w0 b4 b5 b6 b7 bl' wr) := Lib.hid (by rw [hbl']; exact HBr.out)
            have Hbl := Lib.hid hbl'
            clear hbl'
            have HC : Hid (∀ W, SB l (some ⟨gb, go, none⟩) c w0 b4 b5 b6 b7 bl' W → Calls Tryz.prog 76 #[.agg #[.int .i64 s0, .int .i64 s1, .int .i64 s2, .int .i64 s3, .int .i64 s4, .int .i64 s5, .int .i64 ((n : Int) + 1)], .int .i64 7, .int .i64 (cost + y), .int .i64 (left - sh), .pointer (some ⟨b4, 0, none⟩), .pointer (some ⟨b5, 0, none⟩), .pointer (some ⟨b6, 0, none⟩), .pointer (some ⟨b7, 0, none⟩)] W fun e w' =>
                e = .returned (.tuple #[]) ∧ SB l (some ⟨gb, go, none⟩) c w0 b4 b5 b6 b7 (settleF l f bl' [s0, s1, s2, s3, s4, s5, (n : Int) + 1] 7 (cost + y) (left - sh)) w' ∧ Keep2 b4 b5 W w') := Lib.hid (fun W hW =>
              ih 7 bl' [s0, s1, s2, s3, s4, s5, (n : Int) + 1] (cost + y) (left - sh) W (by omega) rfl (by omega) (by omega) (by omega) (by omega) (fun h => by omega) (fun _ => by obtain ⟨k, t, e, h1, h6⟩ := Hg.out; injection e with e _; subst e; exact ⟨k, _, rfl, h1, h6⟩) hW)
            have hst : Hid (F bl' n = settleF l f bl' [s0, s1, s2, s3, s4, s5, (n : Int) + 1] 7 (cost + y) (left - sh)) := Lib.hid (by rw [HF.out]; unfold settleStep; rw [← Hsh.out, if_pos hfit, ← Hx.out, ← Hy.out]; rfl)
            go_wp2_with fail
            obtain ⟨W2, hW2⟩ : ∃ W2, W2 = wr.alloc (.cells #[.int .i64 s0, .int .i64 s1, .int .i64 s2, .int .i64 s3, .int .i64 s4, .int .i64 s5, .int .i64 ((n : Int) + 1)] 138) := ⟨_, rfl⟩
            have hb2 : Below wr.heap.size wr W2 := by rw [hW2]; exact below1 _ _
            have hK2 : W2.heap[wr.heap.size]? = some (.cells (vs [s0, s1, s2, s3, s4, s5, (n : Int) + 1]) 138 (0, 0)) := by rw [hW2]; exact blk_new wr _
            rw [← hW2]
            have HBd : Hid (SB l (some ⟨gb, go, none⟩) c w0 b4 b5 b6 b7 bl' W2.drew) := Lib.hid ((HBr'.out.carry hb2).carry ((Below.refl _ _).drew))
            have n4 := blk_lt HBr'.out.best
            have n5 := blk_lt HBr'.out.least
            obtain ⟨d1, d2, d3, d4, d5, d6, d7, d8, d9, d10⟩ := cell9 (HBr'.out.carry hb2) hK2 hc0x
            have HK2 := Lib.hid hK2
            have Hb2 := Lib.hid hb2
            clear hW2 cc6 cc7 p0 p1 p2 p3 p4 p5 p6 hcx hK2 hb2
            go_region_held3 (fun W => W.cell? ⟨b7, 0, none⟩ = some (.func (.func 76) #[] #[.pointer (some ⟨b4, 0, none⟩), .pointer (some ⟨b5, 0, none⟩), .pointer (some ⟨b6, 0, none⟩), .pointer (some ⟨b7, 0, none⟩)]) ∧ W.cell? ⟨b6, 0, none⟩ = some (.slice (some ⟨gb, go, none⟩) l.length c) ∧ W.cell? ⟨gb, go + 6, none⟩ = some (.int .i64 x) ∧
              W.cell? ⟨wr.heap.size, 0, none⟩ = some (.int .i64 s0) ∧ W.cell? ⟨wr.heap.size, 1, none⟩ = some (.int .i64 s1) ∧ W.cell? ⟨wr.heap.size, 2, none⟩ = some (.int .i64 s2) ∧ W.cell? ⟨wr.heap.size, 3, none⟩ = some (.int .i64 s3) ∧ W.cell? ⟨wr.heap.size, 4, none⟩ = some (.int .i64 s4) ∧ W.cell? ⟨wr.heap.size, 5, none⟩ = some (.int .i64 s5) ∧ W.cell? ⟨wr.heap.size, 6, none⟩ = some (.int .i64 ((n : Int) + 1)))
              (first | exact ⟨d1, d2, d3, d4, d5, d6, d7, d8, d9, d10⟩ | exact S9)
              ((go_at_call 76; rw [e6.out, e5.out, hye, e4, e2]; refine (HC.out _ HBd.out).mono ?_; rintro e w9 ⟨rfl, hB9, hk9⟩; have S9 := cell9 hB9 ((hk9.block _ (blk_lt HK2.out) (by omega) (by omega)).trans HK2.out) hc0x; have HB9 := Lib.hid hB9; have Hk9 := Lib.hid hk9; clear hB9 hk9))
            have hX9 : Hid (w9.heap[w.heap.size]? = some (.cells (vs [s0, s1, s2, s3, s4, s5, s6]) 138 (0, 0))) := Lib.hid (by
              have l0 := blk_lt HXr.out
              have l2 := Hb2.out.size
              have l4 := blk_lt HB.out.best
              have l5 := blk_lt HB.out.least
              exact (Hk9.out.block _ (Nat.lt_of_lt_of_le l0 l2) (by omega) (by omega)).trans ((Hb2.out.block _ l0).trans HXr.out))
            have hK9 : Hid (Keep2 b4 b5 w w9) := Lib.hid ((HKr.out.trans (.of_below Hb2.out)).trans ((Keep2.of_below ((Below.refl _ _).drew)).trans Hk9.out))
            go_wp2
            exact ⟨⟨n + 1, by omega, by simp, by rw [fold_range_succ, ← Hbl.out, hst.out]; exact HB9, hX9, hK9⟩, by simp [intOf]; omega⟩
          · have hst : Hid (F ((List.range n).foldl F ([0, 0, 0, 0, 0, 0, 0], least)) n = (List.range n).foldl F ([0, 0, 0, 0, 0, 0, 0], least)) := Lib.hid (by rw [HF.out]; unfold settleStep; rw [← Hsh.out, if_neg hfit])
            go_wp2
            exact ⟨⟨n + 1, by omega, by simp, by rw [fold_range_succ, hst.out]; exact HBr, HXr, HKr⟩, by simp [intOf]; omega⟩
        · obtain rfl : n = 6 := by omega
          go_wp2
          refine bodyPost_end (results_none rfl _ _ _) rfl ?_
          rw [hr.out]
          exact ⟨rfl, HBr.out, HKr.out⟩
    · injection hk with z0 hk
      subst z0
      have hn := eq_no k hk1 hk6 c1 c2 c3 c4 c5 c6
      have hlc : ¬ least ≤ cost := fun h => hq ⟨fun e => by injection e with e _; omega, h⟩
      clear hk hq
      rw [vse]
      go_enter Tryz.func76, Tryz.ntmps76
      go_wp2_with fail
      go_loopw [31] (fun iv wr => ∃ n : Nat, n ≤ 6 ∧ iv = .int .i64 n ∧ Hid (SB l (some ⟨gb, go, none⟩) c w0 b4 b5 b6 b7 ((List.range n).foldl F ([(k : Int), c1, c2, c3, c4, c5, c6], least)) wr) ∧ Hid (wr.heap[w.heap.size]? = some (.cells (vs [s0, s1, s2, s3, s4, s5, s6]) 138 (0, 0))) ∧ Hid (Keep2 b4 b5 w wr)) (fun iv _ => 6 - (intOf iv).toNat)
      case atStart => exact ⟨0, by omega, rfl, HW, HX, Lib.hid (.of_below (below1 _ _))⟩
      case round =>
        obtain ⟨n, hn6, rfl, HBr, HXr, HKr⟩ := hrel
        by_cases hlt : n < 6
        · obtain ⟨sh, hsh⟩ : ∃ sh, sh = shareN n := ⟨_, rfl⟩
          have hse : (64 : Int) / 2 ^ (n + 1) = sh := by rw [hsh]; exact shr_share n hlt
          have hs0 : 0 ≤ sh := by rw [hsh]; exact Int.natCast_nonneg _
          have Hsh := Lib.hid hsh
          clear hsh
          by_cases hfit : sh ≤ left
          · obtain ⟨ad, had, hcell⟩ := Kd.at_int (Kd.C_below hC HBr.out.below) 6 (by omega) (by omega)
            cases had
            have hlen1 : (6 : Int) < l.length := by omega
            obtain ⟨x, hx⟩ : ∃ x, x = rd l (6 : Nat) := ⟨_, rfl⟩
            have hxm := hlm x (by rw [hx, rd_nat _ _ (by omega)]; exact List.getElem_mem _)
            have hcx : wr.cell? ⟨gb, go + 6, none⟩ = some (.int .i64 x) := by rw [hx]; exact hcell
            have Hx := Lib.hid hx
            clear hcell hx
            have cc6 := box_cell HBr.out.often
            have cc7 := box_cell HBr.out.self
            obtain ⟨p0, p1, p2, p3, p4, p5, p6⟩ := cell_arr HXr.out
            obtain ⟨y, hy'⟩ : ∃ y, y = x * ((n : Int) + 1) := ⟨_, rfl⟩
            have hy0 : 0 ≤ y := by rw [hy']; exact Int.mul_nonneg hxm.1 (by omega)
            have hy6 : y ≤ 6000 := by rw [hy']; exact Int.le_trans (Int.mul_le_mul hxm.2 (show (n : Int) + 1 ≤ 6 by omega) (by omega) (by decide)) (by decide)
            have hye : x * ((n : Int) + 1) = y := hy'.symm
            have Hy := Lib.hid hy'
            clear hy'
            have e2 : IntKind.i64.wrap (cost + y) = cost + y := by rw [IntKind.wrap_i64]; omega
            have e3 : IntKind.i64.wrap (left - sh) = left - sh := by rw [IntKind.wrap_i64]; omega
            have e4 : IntKind.i64.wrap y = y := by rw [IntKind.wrap_i64]; omega
            have e5 : Hid (IntKind.i64.wrap ((n : Int) + 1) = n + 1) := Lib.hid (by rw [IntKind.wrap_i64]; omega)
            have e6 : Hid (IntKind.i64.wrap 7 = 7) := Lib.hid (by decide)
            have hc0x : w0.cell? ⟨gb, go + 6, none⟩ = some (.int .i64 x) := by
              obtain ⟨ad', e, h⟩ := Kd.at_int hC 6 (by omega) (by omega)
              cases e
              rw [Hx.out]; exact h
            obtain ⟨bl', hbl'⟩ : ∃ bl', bl' = (List.range n).foldl F ([(k : Int), c1, c2, c3, c4, c5, c6], least) := ⟨_, rfl⟩
            have HBr' : Hid (SB l (some ⟨gb, go, none⟩) c w0 b4 b5 b6 b7 bl' wr) := Lib.hid (by rw [hbl']; exact HBr.out)
            have Hbl := Lib.hid hbl'
            clear hbl'
            have HC : Hid (∀ W, SB l (some ⟨gb, go, none⟩) c w0 b4 b5 b6 b7 bl' W → Calls Tryz.prog 76 #[.agg #[.int .i64 s0, .int .i64 s1, .int .i64 s2, .int .i64 s3, .int .i64 s4, .int .i64 s5, .int .i64 ((n : Int) + 1)], .int .i64 7, .int .i64 (cost + y), .int .i64 (left - sh), .pointer (some ⟨b4, 0, none⟩), .pointer (some ⟨b5, 0, none⟩), .pointer (some ⟨b6, 0, none⟩), .pointer (some ⟨b7, 0, none⟩)] W fun e w' =>
                e = .returned (.tuple #[]) ∧ SB l (some ⟨gb, go, none⟩) c w0 b4 b5 b6 b7 (settleF l f bl' [s0, s1, s2, s3, s4, s5, (n : Int) + 1] 7 (cost + y) (left - sh)) w' ∧ Keep2 b4 b5 W w') := Lib.hid (fun W hW =>
              ih 7 bl' [s0, s1, s2, s3, s4, s5, (n : Int) + 1] (cost + y) (left - sh) W (by omega) rfl (by omega) (by omega) (by omega) (by omega) (fun h => by omega) (fun _ => by obtain ⟨k, t, e, h1, h6⟩ := Hg.out; injection e with e _; subst e; exact ⟨k, _, rfl, h1, h6⟩) hW)
            have hst : Hid (F bl' n = settleF l f bl' [s0, s1, s2, s3, s4, s5, (n : Int) + 1] 7 (cost + y) (left - sh)) := Lib.hid (by rw [HF.out]; unfold settleStep; rw [← Hsh.out, if_pos hfit, ← Hx.out, ← Hy.out]; rfl)
            go_wp2_with fail
            obtain ⟨W2, hW2⟩ : ∃ W2, W2 = wr.alloc (.cells #[.int .i64 s0, .int .i64 s1, .int .i64 s2, .int .i64 s3, .int .i64 s4, .int .i64 s5, .int .i64 ((n : Int) + 1)] 138) := ⟨_, rfl⟩
            have hb2 : Below wr.heap.size wr W2 := by rw [hW2]; exact below1 _ _
            have hK2 : W2.heap[wr.heap.size]? = some (.cells (vs [s0, s1, s2, s3, s4, s5, (n : Int) + 1]) 138 (0, 0)) := by rw [hW2]; exact blk_new wr _
            rw [← hW2]
            have HBd : Hid (SB l (some ⟨gb, go, none⟩) c w0 b4 b5 b6 b7 bl' W2.drew) := Lib.hid ((HBr'.out.carry hb2).carry ((Below.refl _ _).drew))
            have n4 := blk_lt HBr'.out.best
            have n5 := blk_lt HBr'.out.least
            obtain ⟨d1, d2, d3, d4, d5, d6, d7, d8, d9, d10⟩ := cell9 (HBr'.out.carry hb2) hK2 hc0x
            have HK2 := Lib.hid hK2
            have Hb2 := Lib.hid hb2
            clear hW2 cc6 cc7 p0 p1 p2 p3 p4 p5 p6 hcx hK2 hb2
            go_region_held3 (fun W => W.cell? ⟨b7, 0, none⟩ = some (.func (.func 76) #[] #[.pointer (some ⟨b4, 0, none⟩), .pointer (some ⟨b5, 0, none⟩), .pointer (some ⟨b6, 0, none⟩), .pointer (some ⟨b7, 0, none⟩)]) ∧ W.cell? ⟨b6, 0, none⟩ = some (.slice (some ⟨gb, go, none⟩) l.length c) ∧ W.cell? ⟨gb, go + 6, none⟩ = some (.int .i64 x) ∧
              W.cell? ⟨wr.heap.size, 0, none⟩ = some (.int .i64 s0) ∧ W.cell? ⟨wr.heap.size, 1, none⟩ = some (.int .i64 s1) ∧ W.cell? ⟨wr.heap.size, 2, none⟩ = some (.int .i64 s2) ∧ W.cell? ⟨wr.heap.size, 3, none⟩ = some (.int .i64 s3) ∧ W.cell? ⟨wr.heap.size, 4, none⟩ = some (.int .i64 s4) ∧ W.cell? ⟨wr.heap.size, 5, none⟩ = some (.int .i64 s5) ∧ W.cell? ⟨wr.heap.size, 6, none⟩ = some (.int .i64 ((n : Int) + 1)))
              (first | exact ⟨d1, d2, d3, d4, d5, d6, d7, d8, d9, d10⟩ | exact S9)
              ((go_at_call 76; rw [e6.out, e5.out, hye, e4, e2]; refine (HC.out _ HBd.out).mono ?_; rintro e w9 ⟨rfl, hB9, hk9⟩; have S9 := cell9 hB9 ((hk9.block _ (blk_lt HK2.out) (by omega) (by omega)).trans HK2.out) hc0x; have HB9 := Lib.hid hB9; have Hk9 := Lib.hid hk9; clear hB9 hk9))
            have hX9 : Hid (w9.heap[w.heap.size]? = some (.cells (vs [s0, s1, s2, s3, s4, s5, s6]) 138 (0, 0))) := Lib.hid (by
              have l0 := blk_lt HXr.out
              have l2 := Hb2.out.size
              have l4 := blk_lt HB.out.best
              have l5 := blk_lt HB.out.least
              exact (Hk9.out.block _ (Nat.lt_of_lt_of_le l0 l2) (by omega) (by omega)).trans ((Hb2.out.block _ l0).trans HXr.out))
            have hK9 : Hid (Keep2 b4 b5 w w9) := Lib.hid ((HKr.out.trans (.of_below Hb2.out)).trans ((Keep2.of_below ((Below.refl _ _).drew)).trans Hk9.out))
            go_wp2
            exact ⟨⟨n + 1, by omega, by simp, by rw [fold_range_succ, ← Hbl.out, hst.out]; exact HB9, hX9, hK9⟩, by simp [intOf]; omega⟩
          · have hst : Hid (F ((List.range n).foldl F ([(k : Int), c1, c2, c3, c4, c5, c6], least)) n = (List.range n).foldl F ([(k : Int), c1, c2, c3, c4, c5, c6], least)) := Lib.hid (by rw [HF.out]; unfold settleStep; rw [← Hsh.out, if_neg hfit])
            go_wp2
            exact ⟨⟨n + 1, by omega, by simp, by rw [fold_range_succ, hst.out]; exact HBr, HXr, HKr⟩, by simp [intOf]; omega⟩
        · obtain rfl : n = 6 := by omega
          go_wp2
          refine bodyPost_end (results_none rfl _ _ _) rfl ?_
          rw [hr.out]
          exact ⟨rfl, HBr.out, HKr.out⟩
end Go.Proofs.YtfnibmcenjiodaaGreatDoor.M
namespace Go.Proofs.YtfnibmcenjiodaaGreatDoor.M
open Go.Sort Go.Shelf Go.RowKit Go.Maps Go.Proofs.YtfnibmcenjiodaaGreatDoorW.PrintWords Go.Proofs.YtfnibmcenjiodaaGreatDoorW.PrintLast Go.Proofs.YtfnibmcenjiodaaGreatDoorW.PrintMore
theorem settle_calls (l : List Int) (gb go c : Nat) (w0 : World) (b4 b5 b6 b7 : Nat) (hC : Kd.C (Kd.int .i64) w0 (some ⟨gb, go, none⟩) l.length l) (hl1 : 1 ≤ l.length) (h7 : l.length ≤ 7) (hlm : ∀ x ∈ l, 0 ≤ x ∧ x ≤ 1000) : ∀ f, SettleOk l (some ⟨gb, go, none⟩) c w0 b4 b5 b6 b7 f := by
  intro f
  induction f with
  | zero =>
    intro i bl s cost left w hif hs hc0 hc1 hl0 hl1' h0 hp hB
    obtain rfl : i = l.length := by omega
    obtain ⟨s0, s1, s2, s3, s4, s5, s6, rfl⟩ := seven hs
    exact settle_end l _ c w0 b4 b5 b6 b7 bl s0 s1 s2 s3 s4 s5 s6 cost left w (hp (by omega)) hB
  | succ f ih =>
    intro i bl s cost left w hif hs hc0 hc1 hl0 hl1' h0 hp hB
    obtain ⟨s0, s1, s2, s3, s4, s5, s6, rfl⟩ := seven hs
    match i, hif, hc1, h0, hp with
    | 0, hif, hc1, _, _ => exact settle_s0 l gb go c w0 b4 b5 b6 b7 f ih hC hlm bl s0 s1 s2 s3 s4 s5 s6 cost left w hif h7 hc0 hc1 hl0 hl1' trivial hB
    | 1, hif, hc1, _, hp => exact settle_s1 l gb go c w0 b4 b5 b6 b7 f ih hC hlm bl s0 s1 s2 s3 s4 s5 s6 cost left w hif h7 hc0 hc1 hl0 hl1' (hp (by decide)) hB
    | 2, hif, hc1, _, hp => exact settle_s2 l gb go c w0 b4 b5 b6 b7 f ih hC hlm bl s0 s1 s2 s3 s4 s5 s6 cost left w hif h7 hc0 hc1 hl0 hl1' (hp (by decide)) hB
    | 3, hif, hc1, _, hp => exact settle_s3 l gb go c w0 b4 b5 b6 b7 f ih hC hlm bl s0 s1 s2 s3 s4 s5 s6 cost left w hif h7 hc0 hc1 hl0 hl1' (hp (by decide)) hB
    | 4, hif, hc1, _, hp => exact settle_s4 l gb go c w0 b4 b5 b6 b7 f ih hC hlm bl s0 s1 s2 s3 s4 s5 s6 cost left w hif h7 hc0 hc1 hl0 hl1' (hp (by decide)) hB
    | 5, hif, hc1, _, hp => exact settle_s5 l gb go c w0 b4 b5 b6 b7 f ih hC hlm bl s0 s1 s2 s3 s4 s5 s6 cost left w hif h7 hc0 hc1 hl0 hl1' (hp (by decide)) hB
    | 6, hif, hc1, _, hp => exact settle_s6 l gb go c w0 b4 b5 b6 b7 f ih hC hlm bl s0 s1 s2 s3 s4 s5 s6 cost left w hif h7 hc0 hc1 hl0 hl1' (hp (by decide)) hB
    | i + 7, hif, _, _, _ => omega
end Go.Proofs.YtfnibmcenjiodaaGreatDoor.M
namespace Go.Proofs.YtfnibmcenjiodaaGreatDoor.M
open Go.Sort Go.Shelf Go.RowKit Go.Maps Go.Proofs.YtfnibmcenjiodaaGreatDoorW.PrintWords Go.Proofs.YtfnibmcenjiodaaGreatDoorW.PrintLast Go.Proofs.YtfnibmcenjiodaaGreatDoorW.PrintMore
attribute [local go_sem] Oper.semAt_some
def spellF (sz : List Int) : Nat → List ByteArray → Option (List ByteArray)
  | 0, ws => some ws
  | d + 1, ws => (exts (rd sz ws.length).toNat ⟨#[]⟩).findSome? (fun x => if freeB (ws ++ [x]) = true then spellF sz d (ws ++ [x]) else none)
def spellStep (sz : List Int) (d : Nat) (ws : List ByteArray) (x : ByteArray) : Option (List ByteArray) := if freeB (ws ++ [x]) = true then spellF sz d (ws ++ [x]) else none
structure SE (nl : Nat) (Aoft : Option Addr) (coft : Nat) (sz : List Int) (bo bb bs : Nat) (W : World) : Prop where
  often : W.heap[bo]? = some (.cells #[.slice Aoft nl coft] 25 (0, 0))
  best : W.heap[bb]? = some (.cells (vs sz) 138 (0, 0))
  self : W.heap[bs]? = some (.cells #[.func (.func 77) #[] #[.pointer (some ⟨bo, 0, none⟩), .pointer (some ⟨bb, 0, none⟩), .pointer (some ⟨bs, 0, none⟩)]] 140 (0, 0))
theorem SE.carry {nl : Nat} {Aoft : Option Addr} {coft : Nat} {sz : List Int} {bo bb bs : Nat} {W W' : World} (h : SE nl Aoft coft sz bo bb bs W) (hb : Below W.heap.size W W') : SE nl Aoft coft sz bo bb bs W' :=
  ⟨(hb.block _ (blk_lt h.often)).trans h.often, (hb.block _ (blk_lt h.best)).trans h.best, (hb.block _ (blk_lt h.self)).trans h.self⟩
abbrev OwnS (B : Nat) (W : World) (g o c : Nat) (ls : List ByteArray) : Prop := W.ownsRow B 9 1 (.slice (some ⟨g, o, none⟩) ls.length c) ls.length (ls.map Value.string)
theorem C_of_own {B : Nat} {W : World} {g o c : Nat} {ls : List ByteArray} (h : OwnS B W g o c ls) : Kd.C Kd.string W (some ⟨g, o, none⟩) ls.length ls := by
  have hR : Kd.string.R 9 W B (fun _ => True) (.slice (some ⟨g, o, none⟩) ls.length c) ls := Kd.R_of_own h (fun _ _ => trivial)
  exact (Kd.R_reads' hR).2.2
theorem OwnS.kept {B : Nat} {W W' : World} {row : Option Nat} {g o c : Nat} {ls : List ByteArray} (h : OwnS B W g o c ls) (hg : W.grownBy W' row) (hr : ∀ r, row = some r → ∃ o : Obj, W.heap[r]? = some o ∧ o.isCells = false) : OwnS B W' g o c ls := by
  refine ⟨h.1, ?_⟩
  rcases h.2 with h | ⟨g', cap, cur, e, h1, h2, h3⟩
  · exact .inl h
  · refine .inr ⟨g', cap, cur, e, h1, (hg.block _ (blk_lt h2) (fun e => ?_)).trans h2, h3⟩
    obtain ⟨ob, ho, hc⟩ := hr _ e.symm
    rw [h2] at ho; cases ho; cases hc
theorem OwnS.below {B : Nat} {W W' : World} {g o c : Nat} {ls : List ByteArray} (h : OwnS B W g o c ls) (hb : Below W.heap.size W W') : OwnS B W' g o c ls :=
  h.kept (row := none) ⟨hb.os, hb.tape, hb.output, hb.size, fun k hk _ => hb.block k hk⟩ (fun r e => by cases e)
theorem OwnS.put {B : Nat} {W : World} {g o c z : Nat} {ls : List ByteArray} {v u : Value} {t : TypeId} {f : Nat × Nat} (h : OwnS B W g o c ls) (hz : W.heap[z]? = some (.cells #[v] t f)) (ht : t ≠ 9) : OwnS B (W.setCell ⟨z, 0, none⟩ u) g o c ls := by
  refine ⟨h.1, ?_⟩
  rcases h.2 with h | ⟨g', cap, cur, e, h1, h2, h3⟩
  · exact .inl h
  · refine .inr ⟨g', cap, cur, e, h1, (setCell_other (fun e => ?_)).trans h2, h3⟩
    rw [e, hz] at h2
    injection h2 with h2
    injection h2 with _ h2 _
    exact ht h2
theorem OwnS.lower {B B' : Nat} {W : World} {g o c : Nat} {ls : List ByteArray} (h : OwnS B W g o c ls) (hb : B' ≤ B) : OwnS B' W g o c ls := by
  refine ⟨h.1, ?_⟩
  rcases h.2 with h | ⟨g', cap, cur, e, h1, h2⟩
  · exact .inl h
  · exact .inr ⟨g', cap, cur, e, Nat.le_trans hb h1, h2⟩
theorem OwnS.put' {B : Nat} {W : World} {g o c z : Nat} {ls : List ByteArray} {ob u : Obj} (h : OwnS B W g o c ls) (hz : W.heap[z]? = some ob) (hc : ob.isCells = false) : OwnS B (W.putObj z u) g o c ls := by
  refine ⟨h.1, ?_⟩
  rcases h.2 with h | ⟨g', cap, cur, e, h1, h2, h3⟩
  · exact .inl h
  · refine .inr ⟨g', cap, cur, e, h1, (World.putObj_heap_other (fun e => ?_)).trans h2, h3⟩
    first
      | (rw [e, hz] at h2; cases h2; cases hc)
      | (rw [← e, hz] at h2; cases h2; cases hc)
def SpellPost (B : Nat) (r : Option (List ByteArray)) (W : World) (e : Ending) (W' : World) : Prop :=
  Below W.heap.size W W' ∧ ((∃ ls g o c, r = some ls ∧ e = .returned (.slice (some ⟨g, o, none⟩) ls.length c) ∧ OwnS B W' g o c ls) ∨ (r = none ∧ e = .returned (.slice none 0 0)))
def SpellOk (B nl : Nat) (Aoft : Option Addr) (coft : Nat) (sz : List Int) (bo bb bs d : Nat) : Prop :=
  ∀ (ws : List ByteArray) (g o c : Nat) (W : World), ws.length + d = nl → SE nl Aoft coft sz bo bb bs W → B ≤ W.heap.size → OwnS B W g o c ws →
    Calls Tryz.prog 77 #[.slice (some ⟨g, o, none⟩) ws.length c, .pointer (some ⟨bo, 0, none⟩), .pointer (some ⟨bb, 0, none⟩), .pointer (some ⟨bs, 0, none⟩)] W (SpellPost B (spellF sz d ws) W)
set_option maxRecDepth 100000 in
set_option maxHeartbeats 1000000 in
theorem spell_zero (B nl : Nat) (Aoft : Option Addr) (coft : Nat) (sz : List Int) (bo bb bs : Nat) : SpellOk B nl Aoft coft sz bo bb bs 0 := by
  intro ws g o c W hd hE hBW hC
  obtain rfl : ws.length = nl := by omega
  obtain ⟨W2, hW2⟩ : ∃ W2, W2 = (W.alloc (.cells #[.slice (some ⟨g, o, none⟩) ws.length c] 22)).alloc (.cells #[.slice none 0 0] 22) := ⟨_, rfl⟩
  have hb2 : Below W.heap.size W W2 := by rw [hW2]; exact below2 _ _ _
  have c0 := box_cell (hE.carry hb2).often
  have h5 : W2.heap[W.heap.size + 1]? = some (.cells #[.slice none 0 0] 22 (0, 0)) := by rw [hW2]; exact blk_new1 W _ _
  have h4 : W2.heap[W.heap.size]? = some (.cells #[.slice (some ⟨g, o, none⟩) ws.length c] 22 (0, 0)) := by rw [hW2]; exact blk_alloc (blk_new W _) _
  have c4 := box_cell h4
  have c5 := box_cell h5
  have f5 := box_free h5
  have HC0 := Lib.hid hC
  clear hC hE h4 h5 hb2
  subst hW2
  refine (callsIn_wide (n := 12)).1 ?_
  refine callsIn_of_wp_marks Tryz.func77 rfl trivial ?_ rfl
  simp only [Tryz.ntmps77, List.size_toArray, List.length_cons, List.length_nil, Nat.reduceAdd, Nat.reduceSub, Array.replicate_succ, Array.replicate_zero, List.push_toArray, List.append_toArray, List.nil_append, List.cons_append]
  gi_wp2
  have hx : ((W.alloc (.cells #[.slice (some ⟨g, o, none⟩) ws.length c] 22)).alloc (.cells #[.slice (some ⟨g, o, none⟩) ws.length c] 22)).heap[W.heap.size + 1]? = some (.cells #[.slice (some ⟨g, o, none⟩) ws.length c] 22 (0, 0)) := blk_new1 W _ _
  have cx := box_cell hx
  exact ⟨.slice (some ⟨g, o, none⟩) ws.length c, by simp [results, Tryz.results77, go_sem, cx], below2 _ _ _, .inl ⟨ws, g, o, c, rfl, rfl, HC0.out.below (below2 _ _ _)⟩⟩
theorem add_none (b o j : Nat) : (⟨b, o, none⟩ : Addr).add j = ⟨b, o + j, none⟩ := by
  unfold Addr.add
  split <;> simp_all
theorem clone_calls (ws : List ByteArray) (g o c : Nat) (w : World) (hl : ws.length ≤ 100) (hC : Kd.C Kd.string w (some ⟨g, o, none⟩) ws.length ws) :
    Calls Tryz.prog 79 #[.slice (some ⟨g, o, none⟩) ws.length c] w fun e w' => ∃ v', e = .returned v' ∧ w'.ownsRow w.heap.size 9 1 v' ws.length (ws.map Value.string) ∧ Below w.heap.size w w' := by
  refine (Tryz.slices_Clone_string g o ws.length c ws w (Nat.le_refl _) (by omega) (fun j hj => ?_)).mono ?_
  · obtain ⟨ad, e, h⟩ := Kd.at_string hC j (by omega) (by omega)
    cases e
    rw [show ((j : Int).toNat) = j from by omega, add_none] at h
    exact h
  · rintro e w' ⟨v', rfl, h1, _, h3⟩
    rw [List.take_length] at h1
    exact ⟨v', rfl, h1, h3⟩
theorem keepsB_below {W W' : World} (h : Below W.heap.size W W') : KeepsB W W' := ⟨h.size, fun k _ _ hk _ => (h.block k (blk_lt hk)).trans hk⟩
theorem others_below' {W W' : World} (h : Below W.heap.size W W') : KeepsOthers W W' := ⟨h.size, fun k _ hk _ => (h.block k (blk_lt hk)).trans hk⟩
theorem below_grownBy {w W W' : World} {row : Option Nat} (h : Below w.heap.size w W) (hg : W.grownBy W' row) (hr : ∀ r, row = some r → w.heap.size ≤ r) : Below w.heap.size w W' :=
  ⟨hg.os.trans h.os, hg.tape.trans h.tape, hg.output.trans h.output, Nat.le_trans h.size hg.size, fun k hk => (hg.block k (Nat.lt_of_lt_of_le hk h.size) (fun e => by have := hr k e.symm; omega)).trans (h.block k hk)⟩
theorem own_strings {W : World} {base g cap : Nat} {xs : List ByteArray} {n : Nat} (hn : n = xs.length) (h : W.ownsRow base 9 1 (.slice (some ⟨g, 0, none⟩) n cap) n (xs.map Value.string)) : Kd.C Kd.string W (some ⟨g, 0, none⟩) xs.length xs := by
  subst hn
  have hR : Kd.string.R 9 W base (fun _ => True) (.slice (some ⟨g, 0, none⟩) xs.length cap) xs := Kd.R_of_own h (fun _ _ => trivial)
  exact (Kd.R_reads' hR).2.2
def SpI (wL : World) (sz : List Int) (d : Nat) (ws pre : List ByteArray) (W : World) : Prop := Below wL.heap.size wL W ∧ ∀ x ∈ pre, spellStep sz d ws x = none
def SpX (B : Nat) (w0 : World) (z : Nat) (sz : List Int) (d : Nat) (ws : List ByteArray) (c : Code) (pre : List ByteArray) (W : World) : Prop :=
  c = .ret ∧ ∃ p x ls g o cc, pre = p ++ [x] ∧ (∀ y ∈ p, spellStep sz d ws y = none) ∧ spellStep sz d ws x = some ls ∧ W.heap[z]? = some (.cells #[.slice (some ⟨g, o, none⟩) ls.length cc] 22 (0, 0)) ∧ OwnS B W g o cc ls ∧ Below w0.heap.size w0 W
set_option maxRecDepth 100000 in
set_option maxHeartbeats 2000000 in
theorem spell_succ (B nl : Nat) (Aoft : Option Addr) (coft : Nat) (sz : List Int) (hsz : sz.length = 7) (hs : ∀ x ∈ sz, 0 ≤ x ∧ x ≤ 6) (hnl : nl ≤ 7) (bo bb bs d : Nat) (ih : SpellOk B nl Aoft coft sz bo bb bs d) : SpellOk B nl Aoft coft sz bo bb bs (d + 1) := by
  intro ws g o c W hd hE hBW hO
  have hC := C_of_own hO
  obtain ⟨i0, hi, hz0, hz1, hz2⟩ := info_parts info9
  have hne : ¬ (ws.length : Int) = nl := by omega
  have hn0 : (0 : Int) ≤ ws.length := by omega
  have hn7 : (ws.length : Int) < 7 := by omega
  obtain ⟨nn, hnn⟩ : ∃ nn : Nat, rd sz ws.length = (nn : Int) := ⟨(rd sz ws.length).toNat, by have := hs (rd sz ws.length) (by rw [rd_nat _ _ (by omega)]; exact List.getElem_mem _); omega⟩
  have hnn6 : nn ≤ 100 := by have := hs (rd sz ws.length) (by rw [rd_nat _ _ (by omega)]; exact List.getElem_mem _); omega
  obtain ⟨W2, hW2⟩ : ∃ W2, W2 = (W.alloc (.cells #[.slice (some ⟨g, o, none⟩) ws.length c] 22)).alloc (.cells #[.slice none 0 0] 22) := ⟨_, rfl⟩
  have hb2 : Below W.heap.size W W2 := by rw [hW2]; exact below2 _ _ _
  have hE2 := hE.carry hb2
  have hC2 := Kd.C_below hC hb2
  have h5 : W2.heap[W.heap.size + 1]? = some (.cells #[.slice none 0 0] 22 (0, 0)) := by rw [hW2]; exact blk_new1 W _ _
  have h4 : W2.heap[W.heap.size]? = some (.cells #[.slice (some ⟨g, o, none⟩) ws.length c] 22 (0, 0)) := by rw [hW2]; exact blk_alloc (blk_new W _) _
  have c0 := box_cell hE2.often
  have c4 := box_cell h4
  have cb : W2.cell? ⟨bb, ws.length, none⟩ = some (.int .i64 (nn : Int)) := by
    have h : W2.cell? ⟨bb, ws.length, none⟩ = (vs sz)[ws.length]? := by simp [World.cell?, hE2.best]
    rw [h, ← hnn, rd_nat _ _ (by omega)]
    simp [vs, show ws.length < sz.length from by omega]
  have H5 := Lib.hid h5
  have H4 := Lib.hid h4
  have HB2 := Lib.hid hb2
  have HE2 := Lib.hid hE2
  have HC2 := Lib.hid hC2
  clear hC hE h4 h5 hb2 hE2 hC2
  refine (callsIn_wide (n := 12)).1 ?_
  refine callsIn_of_wp_marks Tryz.func77 rfl trivial ?_ rfl
  simp only [Tryz.ntmps77, List.size_toArray, List.length_cons, List.length_nil, Nat.reduceAdd, Nat.reduceSub, Array.replicate_succ, Array.replicate_zero, List.push_toArray, List.append_toArray, List.nil_append, List.cons_append]
  rw [hW2] at c0 c4 cb
  gi_wp2_with fail
  rw [← hW2]
  clear c0 c4 cb hW2
  refine ⟨trivial, ?_⟩
  refine (callsIn_wide.2 (all_calls nn _)).mono ?_
  rintro e wL ⟨rfl, hwL⟩
  have hbL : Below W2.heap.size W2 wL := by rw [hwL]; exact below1 _ _
  have hnb : wL.heap[W2.heap.size]? = some (.cells #[.int .i64 (nn : Int)] 3 (0, 0)) := by rw [hwL]; exact blk_new W2 _
  clear hwL
  have HWL : Hid (Below W.heap.size W wL) := Lib.hid (HB2.out.trans (hbL.mono HB2.out.size))
  have HEL := Lib.hid (HE2.out.carry hbL)
  have HCL := Lib.hid (Kd.C_below HC2.out hbL)
  have H4L := Lib.hid ((hbL.block _ (blk_lt H4.out)).trans H4.out)
  have H5L := Lib.hid ((hbL.block _ (blk_lt H5.out)).trans H5.out)
  have hf : spellF sz (d + 1) ws = (exts nn ⟨#[]⟩).findSome? (spellStep sz d ws) := by rw [spellF, hnn]; rfl
  have HF := Lib.hid hf
  clear hf hnn
  dsimp only
  gi_wp2_with fail
  refine wpIn_rangeFunc_ownG rfl (by decide) (gf := 123) (lb := #[.pointer (some ⟨W2.heap.size, 0, none⟩)]) rfl trivial (enters_of Tryz.func123 (by kernel_rfl) rfl) (w0 := wL)
    (all_stops W2.heap.size nn hnn6 wL hnb) (fun h k => h.trans k) (fun W l o o' _ h ho _ => KeepsB.put h ho) (Below.refl _ _) (fun _ => rfl)
    (SpI wL sz d ws) (SpX B W (W.heap.size + 1) sz d ws) ?hI ?hIx ⟨Below.refl _ _, fun x h => (by cases h)⟩
    (fun x => { tmps := #[.slice (some ⟨g, o, none⟩) ws.length c, .pointer (some ⟨bo, 0, none⟩), .pointer (some ⟨bb, 0, none⟩), .pointer (some ⟨bs, 0, none⟩), .pointer (some ⟨W.heap.size, 0, none⟩), .pointer (some ⟨W.heap.size + 1, 0, none⟩), .string x, undef, undef, .slice (some ⟨g, o, none⟩) ws.length c, .int .i64 ws.length, .slice Aoft nl coft, .int .i64 nl, .bool false, undef, .slice (some ⟨g, o, none⟩) ws.length c, .int .i64 ws.length, .pointer (some ⟨bb, ws.length, none⟩), .int .i64 (nn : Int), .func (.func 123) #[] #[.pointer (some ⟨W2.heap.size, 0, none⟩)], .string x, undef, undef, undef, undef, undef, undef, undef, undef, undef, undef, undef, undef, undef], defers := [] }) ?assign ?body ?done ?stop
  case hI =>
    rintro pre X Y row ⟨h1, h2⟩ hg hr
    exact ⟨below_grownBy h1 hg (fun r e => (hr r e).1), h2⟩
  case hIx =>
    rintro cc pre X Y row ⟨h1, p, x, ls, g2, o2, c2, h2, h3, h4, h5, h6, h7⟩ hg hr
    have hlL := HWL.out.size
    refine ⟨h1, p, x, ls, g2, o2, c2, h2, h3, h4, (hg.block _ (blk_lt h5) (fun e => ?_)).trans h5, h6.kept hg (fun r e => (hr r e).2), below_grownBy h7 hg (fun r e => by have := (hr r e).1; omega)⟩
    · obtain ⟨_, ob, ho, hc⟩ := hr _ e.symm
      rw [h5] at ho; cases ho; cases hc
  case assign =>
    intro l x V K hK
    gi_wp2
    exact hK
  case body =>
    rintro l pre x V ⟨hB, hpre⟩ hlt
    have c4 := box_cell ((hB.block _ (blk_lt H4L.out)).trans H4L.out)
    have HBV := Lib.hid hB
    have Hpre := Lib.hid hpre
    clear hB hpre
    gi_wp2_with fail
    refine ⟨trivial, ?_⟩
    refine (CallsIn.inRound l (callsIn_wide.2 (clone_calls ws g o c V (by omega) (Kd.C_below HCL.out HBV.out)))).mono ?_
    rintro e V1 ⟨v', rfl, hown, hb1⟩
    have HB1 := Lib.hid hb1
    have HO1 := Lib.hid hown
    have hs1 := hb1.size
    clear hown hb1 c4
    dsimp only
    gi_wp2_with (gi_at_builtin; refine wpListIn_append_own _ rfl _ _ 22 rfl V.heap.size 9 i0 (.string ⟨#[]⟩) 1 16 Tryz.underlying22 hi hz0 hz1 hz2 rfl (by decide) _ _ _ rfl (HO1.out.alloc _) ⟨V1.heap.size, 0, none⟩ 1 1 [.string x] rfl rfl (cell_one_new _ _ _) (by simp [Value.oneCell']) (by unfold maxLen; omega) (by omega) (by simp; omega) ?_; intro v2 V2 hown2 hgrow2 _; obtain ⟨g', cap', rfl⟩ := ownsRow_succ hown2; have hgrow3 : (V1.alloc (.cells #[.string x] 9)).grownBy V2 v'.ownBlock := hgrow2; have HG := Lib.hid hgrow3; have HO2 := Lib.hid hown2; clear hown2 hgrow2 hgrow3)
    have hC2 : Kd.C Kd.string V2 (some ⟨g', 0, none⟩) (ws ++ [x]).length (ws ++ [x]) := own_strings (base := V.heap.size) (n := ws.length + 1) (cap := cap') (by simp) (by have h := HO2.out; simpa using h)
    have hb2 : Below V.heap.size V V2 := ((below_step HB1.out (below1 V1 _)).grown HG.out (by simp; omega) (fun k hk => (HO1.out.lt k hk).1))
    have HC2' := Lib.hid hC2
    have HO2' : Hid (OwnS V.heap.size V2 g' 0 cap' (ws ++ [x])) := Lib.hid (by have h := HO2.out; unfold OwnS; simpa using h)
    have Hb2 := Lib.hid hb2
    have hlen : (ws ++ [x]).length = ws.length + 1 := by simp
    clear hC2 hb2
    refine ⟨trivial, ?_⟩
    have cf := free_calls (some ⟨g', 0, none⟩) cap' (ws ++ [x]) V2 HC2'.out (by omega)
    rw [hlen] at cf
    refine (CallsIn.inRound l (callsIn_wide.2 cf)).mono ?_
    clear cf
    rintro e V3 ⟨rfl, hb3⟩
    have Hb3 : Hid (Below V.heap.size V V3) := Lib.hid (below_step Hb2.out hb3)
    have HC3 := Lib.hid (Kd.C_below HC2'.out hb3)
    have HO3 := Lib.hid (HO2'.out.below hb3)
    clear hb3
    dsimp only
    have hstep : spellStep sz d ws x = if freeB (ws ++ [x]) = true then spellF sz d (ws ++ [x]) else none := rfl
    have fin : Hid (spellStep sz d ws x = none → ∀ (a' : Act) (V9 : World), Below V.heap.size V V9 → ownPostG wL.heap.size KeepsB (SpI wL sz d ws) (SpX B W (W.heap.size + 1) sz d ws) (pre ++ [x]) V Exit.normal a' V9) := Lib.hid (fun h a' V9 hb => ⟨(others_below' hb).from _, keepsB_below hb, HBV.out.trans (hb.mono HBV.out.size), fun y hy => by
      rcases List.mem_append.1 hy with hy | hy
      · exact Hpre.out y hy
      · rw [List.mem_singleton] at hy; subst hy; exact h⟩)
    cases hfree : freeB (ws ++ [x])
    · rw [hfree, if_neg (by decide)] at hstep
      have Hst := Lib.hid hstep
      clear hstep
      gi_wp2
      exact fin.out Hst.out _ _ Hb3.out
    · rw [hfree, if_pos rfl] at hstep
      have Hst := Lib.hid hstep
      clear hstep
      have hE3 := (HEL.out.carry HBV.out).carry Hb3.out
      have cs := box_cell hE3.self
      have HE3 := Lib.hid hE3
      clear hE3
      gi_wp2_with fail
      refine ⟨trivial, ?_⟩
      have hsV : B ≤ V.heap.size := by have := HWL.out.size; have := HBV.out.size; omega
      have cr := ih (ws ++ [x]) g' 0 cap' V3 (by rw [hlen]; omega) HE3.out (by have := Hb3.out.size; omega) (HO3.out.lower hsV)
      rw [hlen] at cr
      refine (CallsIn.inRound l (callsIn_wide.2 cr)).mono ?_
      clear cr
      rintro e V4 ⟨hb4, ⟨ls, g2, o2, c2, hr, rfl, hC4⟩ | ⟨hr, rfl⟩⟩
      · have Hb4 : Hid (Below V.heap.size V V4) := Lib.hid (below_step Hb3.out hb4)
        have HCS := Lib.hid hC4
        have h54 := (Hb4.out.block _ (Nat.lt_of_lt_of_le (blk_lt H5L.out) HBV.out.size)).trans ((HBV.out.block _ (blk_lt H5L.out)).trans H5L.out)
        have c5 := box_cell h54
        have f5 := box_free h54
        have H54 := Lib.hid h54
        have Hr := Lib.hid hr
        clear hb4 hC4 cs h54 hr
        dsimp only
        gi_wp2
        have hB9 : Below W.heap.size W (V4.setCell ⟨W.heap.size + 1, 0, none⟩ (.slice (some ⟨g2, o2, none⟩) ls.length c2)) := ((HWL.out.trans (HBV.out.mono HWL.out.size)).trans (Hb4.out.mono (Nat.le_trans HWL.out.size HBV.out.size))).setCell (by simp) _
        refine ⟨((others_below' Hb4.out).trans (KeepsOthers.setCell _ _ _)).from _, rfl, pre, x, ls, g2, o2, c2, rfl, Hpre.out, Hst.out.trans Hr.out, box_put H54.out _, HCS.out.put H54.out (by decide), hB9⟩
      · have Hb4 : Hid (Below V.heap.size V V4) := Lib.hid (below_step Hb3.out hb4)
        have Hr := Lib.hid hr
        clear hb4 cs hr
        dsimp only
        gi_wp2
        exact fin.out (Hst.out.trans Hr.out) _ _ Hb4.out
  case done =>
    rintro D xs V hD rfl ⟨hB, hpre⟩ hdf
    have hr : spellF sz (d + 1) ws = none := by rw [HF.out]; exact List.findSome?_eq_none_iff.2 hpre
    have h5 := (hB.block _ (blk_lt H5L.out)).trans H5L.out
    have c5 := box_cell h5
    have f5 := box_free h5
    have HBV := Lib.hid hB
    have H5V := Lib.hid h5
    clear hB hpre h5
    gi_wp2
    have hne : W.heap.size + 1 ≠ D := by have := blk_lt H5L.out; omega
    refine ⟨by simp, .inl ⟨_, _, rfl, run_takeDeferred ((setCell_other (by omega)).trans hdf), ?_⟩⟩
    have hx := (World.putObj_heap_other (o := .deferred none) hne).trans (box_put H5V.out (.slice none 0 0))
    have cx := box_cell hx
    refine ⟨.slice none 0 0, by simp [results, Tryz.results77, go_sem, cx], ?_, .inr ⟨hr, rfl⟩⟩
    exact below_put' ((HWL.out.trans (HBV.out.mono HWL.out.size)).setCell (by simp) _) (Nat.le_trans HWL.out.size hD)
  case stop =>
    rintro D cc pre V hD hpre ⟨rfl, p, x, ls, g2, o2, c2, rfl, hp, hx, h5, hcs, hb⟩ hdf
    gi_wp2
    obtain ⟨q, hq⟩ := hpre
    have hr : spellF sz (d + 1) ws = some ls := by
      rw [HF.out, ← hq, List.findSome?_append, List.findSome?_append, List.findSome?_eq_none_iff.2 hp]
      simp [hx]
    have hne : W.heap.size + 1 ≠ D := by have := blk_lt H5L.out; omega
    refine ⟨by simp, .inl ⟨_, _, rfl, run_takeDeferred hdf, ?_⟩⟩
    have hx := (World.putObj_heap_other (o := .deferred none) hne).trans h5
    have cx := box_cell hx
    refine ⟨.slice (some ⟨g2, o2, none⟩) ls.length c2, by simp [results, Tryz.results77, go_sem, cx], below_put' hb (Nat.le_trans HWL.out.size hD), .inl ⟨ls, g2, o2, c2, hr, rfl, hcs.put' hdf rfl⟩⟩
theorem spell_calls (B nl : Nat) (Aoft : Option Addr) (coft : Nat) (sz : List Int) (hsz : sz.length = 7) (hs : ∀ x ∈ sz, 0 ≤ x ∧ x ≤ 6) (hnl : nl ≤ 7) (bo bb bs : Nat) : ∀ d, SpellOk B nl Aoft coft sz bo bb bs d
  | 0 => spell_zero B nl Aoft coft sz bo bb bs
  | d + 1 => spell_succ B nl Aoft coft sz hsz hs hnl bo bb bs d (spell_calls B nl Aoft coft sz hsz hs hnl bo bb bs d)
end Go.Proofs.YtfnibmcenjiodaaGreatDoor.M
namespace Go.Proofs.YtfnibmcenjiodaaGreatDoor.M
open Go.Sort Go.Shelf Go.RowKit Go.Maps Go.Proofs.YtfnibmcenjiodaaGreatDoorW.PrintWords Go.Proofs.YtfnibmcenjiodaaGreatDoorW.PrintLast Go.Proofs.YtfnibmcenjiodaaGreatDoorW.PrintMore
attribute [local go_sem] Oper.semAt_some
def sentOk (l : List Int) : Bool := inB 1 7 [(l.length : Int)] && inB 0 1000 l
theorem sent_f (l : List Int) : S.wire_sent.f l = some (sentOk l) := by
  unfold S.wire_sent.f sentOk gIn.f
  cases inB 1 7 [(l.length : Int)] <;> simp
theorem settleF_rng (l : List Int) : ∀ (f : Nat) (bl : List Int × Int) (s : List Int) (i : Nat) (cost left : Int), (∀ x ∈ bl.1, 0 ≤ x ∧ x ≤ 6) → (∀ x ∈ s, 0 ≤ x ∧ x ≤ 6) → ∀ x ∈ (settleF l f bl s i cost left).1, 0 ≤ x ∧ x ≤ 6
  | 0, bl, s, i, cost, left, hb, hs => by
    unfold settleF
    split
    · exact hb
    · exact hs
  | f + 1, bl, s, i, cost, left, hb, hs => by
    unfold settleF
    split
    · exact hb
    have key : ∀ (ns : List Nat) (bl : List Int × Int), (∀ n ∈ ns, n < 6) → (∀ x ∈ bl.1, 0 ≤ x ∧ x ≤ 6) → ∀ x ∈ (ns.foldl (fun bl (n : Nat) => if ((32 / 2 ^ n : Nat) : Int) ≤ left then settleF l f bl (s.set i ((n : Int) + 1)) (i + 1) (cost + rd l i * ((n : Int) + 1)) (left - ((32 / 2 ^ n : Nat) : Int)) else bl) bl).1, 0 ≤ x ∧ x ≤ 6 := by
      intro ns
      induction ns with
      | nil => intro bl _ h; exact h
      | cons n ns ih =>
        intro bl hn h
        rw [List.foldl_cons]
        refine ih _ (fun m hm => hn m (by simp [hm])) ?_
        have h6 := hn n (by simp)
        split
        · refine settleF_rng l f _ _ _ _ _ h (fun x hx => ?_)
          rcases List.mem_or_eq_of_mem_set hx with h1 | rfl
          · exact hs x h1
          · omega
        · exact h
    exact key _ bl (fun n hn => by simpa using hn) hb
theorem sentOk_rng {l : List Int} (h : sentOk l = true) : 1 ≤ l.length ∧ l.length ≤ 7 ∧ ∀ x ∈ l, 0 ≤ x ∧ x ≤ 1000 := by
  unfold sentOk at h
  rw [Bool.and_eq_true] at h
  obtain ⟨h1, h2⟩ := h
  simp [inB] at h1 h2
  exact ⟨by omega, by omega, fun x hx => h2 x hx⟩
def bestS (l : List Int) : List Int := (settleF l l.length (zeros7, 0) zeros7 0 0 64).1
def bestW (l : List Int) : List ByteArray := (spellF (bestS l) l.length []).getD []
theorem bestS_rng (l : List Int) : ∀ x ∈ bestS l, 0 ≤ x ∧ x ≤ 6 :=
  settleF_rng l _ _ _ _ _ _ (fun x hx => by simp [zeros7] at hx; omega) (fun x hx => by simp [zeros7] at hx; omega)
set_option maxRecDepth 100000 in
set_option maxHeartbeats 1000000 in
theorem wire_Best_bad (A : Option Addr) (c : Nat) (l : List Int) (w : World) (hr : Kd.C (Kd.int .i64) w A l.length l) (hc : l.length ≤ c) (hok : sentOk l = false) :
    Calls Tryz.prog 30 #[.slice A l.length c] w fun e w' => e = .returned (.tuple #[.agg #[.slice none 0 0], .int .i64 113]) ∧ Below w.heap.size w w' := by
  obtain ⟨W2, hW2⟩ : ∃ W2, W2 = (w.alloc (.cells #[.slice A l.length c] 25)).alloc (.cells #[.slice none 0 0] 24) := ⟨_, rfl⟩
  have hb2 : Below w.heap.size w W2 := by rw [hW2]; exact below2 _ _ _
  have h4 : W2.heap[w.heap.size]? = some (.cells #[.slice A l.length c] 25 (0, 0)) := by rw [hW2]; exact blk_alloc (blk_new w _) _
  have h5 : W2.heap[w.heap.size + 1]? = some (.cells #[.slice none 0 0] 24 (0, 0)) := by rw [hW2]; exact blk_new1 w _ _
  have c4 := box_cell h4
  have H4 := Lib.hid h4
  have H5 := Lib.hid h5
  have HB2 := Lib.hid hb2
  have HR := Lib.hid hr
  clear h4 h5 hb2 hr
  rw [hW2] at c4
  go_enter Tryz.func30, Tryz.ntmps30
  go_wp2_with fail
  rw [← hW2]
  clear c4 hW2
  refine (S.wire_sent.calls A c l (sentOk l) _ (Kd.C_below HR.out HB2.out) hc (sent_f l)).mono ?_
  rw [hok]
  rintro e w1 ⟨rfl, hb⟩
  have hx5 := (hb.block _ (blk_lt H5.out)).trans H5.out
  have c5 := box_cell hx5
  have f5 := box_free hx5
  have HB3 := Lib.hid (HB2.out.trans (hb.mono HB2.out.size))
  have HX := Lib.hid hx5
  clear hb hx5
  go_wp2
  have cr := box_cell (box_put HX.out (.slice none 0 0))
  refine ⟨rfl, .tuple #[.agg #[.slice none 0 0], .int .i64 113], by simp [results, Tryz.results30, go_sem, cr], rfl, ?_⟩
  exact HB3.out.setCell (by simp) _
set_option maxRecDepth 100000 in
set_option maxHeartbeats 1000000 in
theorem wire_Best_ok (g o c : Nat) (l : List Int) (w : World) (hr : Kd.C (Kd.int .i64) w (some ⟨g, o, none⟩) l.length l) (hc : l.length ≤ c) (hok : sentOk l = true) :
    Calls Tryz.prog 30 #[.slice (some ⟨g, o, none⟩) l.length c] w fun e w' => ∃ v, e = .returned (.tuple #[.agg #[v], .int .i64 0]) ∧ w'.ownsRow w.heap.size 9 1 v (bestW l).length ((bestW l).map Value.string) ∧ Below w.heap.size w w' := by
  obtain ⟨W2, hW2⟩ : ∃ W2, W2 = (w.alloc (.cells #[.slice (some ⟨g, o, none⟩) l.length c] 25)).alloc (.cells #[.slice none 0 0] 24) := ⟨_, rfl⟩
  have hb2 : Below w.heap.size w W2 := by rw [hW2]; exact below2 _ _ _
  have h4 : W2.heap[w.heap.size]? = some (.cells #[.slice (some ⟨g, o, none⟩) l.length c] 25 (0, 0)) := by rw [hW2]; exact blk_alloc (blk_new w _) _
  have h5 : W2.heap[w.heap.size + 1]? = some (.cells #[.slice none 0 0] 24 (0, 0)) := by rw [hW2]; exact blk_new1 w _ _
  have c4 := box_cell h4
  have H4 := Lib.hid h4
  have H5 := Lib.hid h5
  have HB2 := Lib.hid hb2
  have HR := Lib.hid hr
  clear h4 h5 hb2 hr
  rw [hW2] at c4
  go_enter Tryz.func30, Tryz.ntmps30
  go_wp2_with fail
  rw [← hW2]
  clear c4 hW2
  refine (S.wire_sent.calls (some ⟨g, o, none⟩) c l (sentOk l) _ (Kd.C_below HR.out HB2.out) hc (sent_f l)).mono ?_
  rw [hok]
  rintro e w1 ⟨rfl, hb⟩
  have HB3 := Lib.hid (HB2.out.trans (hb.mono HB2.out.size))
  have HX5 := Lib.hid ((hb.block _ (blk_lt H5.out)).trans H5.out)
  have HX4 := Lib.hid ((hb.block _ (blk_lt H4.out)).trans H4.out)
  clear hb
  go_wp2_with fail
  obtain ⟨f76, hf76⟩ : ∃ f76 : Value, f76 = .func (.func 76) #[] #[.pointer (some ⟨w1.heap.size, 0, none⟩), .pointer (some ⟨w1.heap.size + 1, 0, none⟩), .pointer (some ⟨w.heap.size, 0, none⟩), .pointer (some ⟨w1.heap.size + 1 + 1, 0, none⟩)] := ⟨_, rfl⟩
  obtain ⟨X3, hX3⟩ : ∃ X3, X3 = (((w1.alloc (.cells (vs zeros7) 138)).alloc (.cells #[.int .i64 0] 3)).alloc (.cells #[f76] 139)) := ⟨_, rfl⟩
  have hl := blk_lt HX4.out
  have HBX : Hid (Below w1.heap.size w1 X3) := Lib.hid (by rw [hX3]; exact (below2 _ _ _).alloc (by simp; omega) _)
  have HSB : Hid (SB l (some ⟨g, o, none⟩) c w w1.heap.size (w1.heap.size + 1) w.heap.size (w1.heap.size + 1 + 1) (zeros7, 0) X3) := Lib.hid (by
    refine ⟨?_, ?_, (HBX.out.block _ hl).trans HX4.out, ?_, HB3.out.trans (HBX.out.mono HB3.out.size), HB3.out.size, by have := HB3.out.size; omega, rfl, .inl rfl⟩
    · rw [hX3]; exact blk_alloc (blk_alloc (blk_new w1 _) _) _
    · rw [hX3]; exact blk_alloc (blk_new1 w1 _ _) _
    · rw [hX3, hf76]
      have h := blk_new ((w1.alloc (.cells (vs zeros7) 138)).alloc (.cells #[.int .i64 0] 3)) (.cells #[.func (.func 76) #[] #[.pointer (some ⟨w1.heap.size, 0, none⟩), .pointer (some ⟨w1.heap.size + 1, 0, none⟩), .pointer (some ⟨w.heap.size, 0, none⟩), .pointer (some ⟨w1.heap.size + 1 + 1, 0, none⟩)]] 139)
      simpa using h)
  have hrg : 1 ≤ l.length ∧ l.length ≤ 7 ∧ ∀ x ∈ l, 0 ≤ x ∧ x ≤ 1000 := sentOk_rng hok
  obtain ⟨hl1, hl7, hlm⟩ := hrg
  have Hlm := Lib.hid hlm
  clear hlm
  have cs := settle_calls l g o c w w1.heap.size (w1.heap.size + 1) w.heap.size (w1.heap.size + 1 + 1) HR.out hl1 hl7 Hlm.out l.length 0 (zeros7, 0) zeros7 0 64 X3 (by omega) rfl (by decide) (by decide) (by decide) (by decide) (fun _ => rfl) (fun h => absurd rfl h) HSB.out
  rw [hX3, hf76] at cs
  refine cs.mono ?_
  clear cs
  rintro e w4 ⟨rfl, hSB, hk⟩
  rw [← hf76] at hk
  change Keep2 _ _ (((w1.alloc (.cells (vs zeros7) 138)).alloc (.cells #[.int .i64 0] 3)).alloc (.cells #[f76] 139)) w4 at hk
  rw [← hX3] at hk
  have HS4 := Lib.hid hSB
  have HK := Lib.hid hk
  clear hSB hk
  go_wp2_with fail
  obtain ⟨X5, hX5⟩ : ∃ X5, X5 = ((w4.alloc (.cells #[.func (.func 77) #[] #[.pointer (some ⟨w.heap.size, 0, none⟩), .pointer (some ⟨w1.heap.size, 0, none⟩), .pointer (some ⟨w4.heap.size, 0, none⟩)]] 140)).alloc (.cells #[] 9)) := ⟨_, rfl⟩
  rw [← hX5]
  have HB5 : Hid (Below w4.heap.size w4 X5) := Lib.hid (by rw [hX5]; exact below2 _ _ _)
  have hg7 := HS4.out.good.1
  have HSE : Hid (SE l.length (some ⟨g, o, none⟩) c (bestS l) w.heap.size w1.heap.size w4.heap.size X5) := Lib.hid (by
    refine ⟨(HB5.out.block _ (blk_lt HS4.out.often)).trans HS4.out.often, (HB5.out.block _ (blk_lt HS4.out.best)).trans HS4.out.best, ?_⟩
    rw [hX5]; exact blk_alloc (blk_new w4 _) _)
  have hlw := HS4.out.below.size
  have hCe : OwnS w.heap.size X5 (w4.heap.size + 1) 0 0 [] := by
    rw [hX5]
    have h := World.ownsRow_made (base := w.heap.size) (e := 9) (size := 1) (w4.alloc (.cells #[.func (.func 77) #[] #[.pointer (some ⟨w.heap.size, 0, none⟩), .pointer (some ⟨w1.heap.size, 0, none⟩), .pointer (some ⟨w4.heap.size, 0, none⟩)]] 140)) #[] 0 (by simp; omega) (by decide) rfl
    unfold OwnS; simpa using h
  have cs := spell_calls w.heap.size l.length (some ⟨g, o, none⟩) c (bestS l) hg7 (bestS_rng l) hl7 w.heap.size w1.heap.size w4.heap.size l.length [] (w4.heap.size + 1) 0 0 X5 (by simp) HSE.out (by have := HB5.out.size; omega) hCe
  refine cs.mono ?_
  clear cs hCe hX5
  have h5 : w4.heap[w.heap.size + 1]? = some (.cells #[.slice none 0 0] 24 (0, 0)) := by
    have hl5 := blk_lt HX5.out
    have hs := HBX.out.size
    exact (HK.out.block _ (by omega) (by omega) (by omega)).trans ((HBX.out.block _ hl5).trans HX5.out)
  have H54 := Lib.hid h5
  have hW5 : Hid (Below w.heap.size w X5) := Lib.hid (HS4.out.below.trans (HB5.out.mono HS4.out.below.size))
  clear h5
  rintro e w5 ⟨hb5, ⟨ls, g2, o2, c2, hs, rfl, hC2⟩ | ⟨hs, rfl⟩⟩
  · have h55 := (hb5.block _ (Nat.lt_of_lt_of_le (blk_lt H54.out) HB5.out.size)).trans ((HB5.out.block _ (blk_lt H54.out)).trans H54.out)
    have c5 := box_cell h55
    have f5 := box_free h55
    have hw : bestW l = ls := by rw [bestW, hs]; rfl
    have Hw := Lib.hid hw
    have HCS := Lib.hid hC2
    have HB6 := Lib.hid (hW5.out.trans (hb5.mono hW5.out.size))
    have H55 := Lib.hid h55
    clear hb5 hs hC2 h55 hw
    go_wp2
    have cr := box_cell (box_put H55.out (.slice (some ⟨g2, o2, none⟩) ls.length c2))
    refine ⟨rfl, .tuple #[.agg #[.slice (some ⟨g2, o2, none⟩) ls.length c2], .int .i64 0], by simp [results, Tryz.results30, go_sem, cr], _, rfl, ?_, HB6.out.setCell (by simp) _⟩
    rw [Hw.out]
    exact HCS.out.put H55.out (by decide)
  · have h55 := (hb5.block _ (Nat.lt_of_lt_of_le (blk_lt H54.out) HB5.out.size)).trans ((HB5.out.block _ (blk_lt H54.out)).trans H54.out)
    have c5 := box_cell h55
    have f5 := box_free h55
    have hw : bestW l = [] := by rw [bestW, hs]; rfl
    have Hw := Lib.hid hw
    have HB6 := Lib.hid (hW5.out.trans (hb5.mono hW5.out.size))
    have H55 := Lib.hid h55
    clear hb5 hs h55 hw
    go_wp2
    have cr := box_cell (box_put H55.out (.slice none 0 0))
    refine ⟨rfl, .tuple #[.agg #[.slice none 0 0], .int .i64 0], by simp [results, Tryz.results30, go_sem, cr], _, rfl, ?_, HB6.out.setCell (by simp) _⟩
    rw [Hw.out]
    exact World.ownsRow_nil _ _ _ _
theorem C_spot {l : List Int} {A : Option Addr} {w : World} (hr : Kd.C (Kd.int .i64) w A l.length l) (h : 1 ≤ l.length) : ∃ g o, A = some ⟨g, o, none⟩ := by
  obtain ⟨ad, rfl, hc⟩ := Kd.at_int hr 0 (by omega) (by omega)
  obtain ⟨g, o, sp⟩ := ad
  cases sp with
  | none => exact ⟨g, o, rfl⟩
  | some x =>
    exfalso
    have e : (⟨g, o, some x⟩ : Addr).add (0 : Int).toNat = ⟨g, o, some x⟩ := rfl
    rw [e] at hc
    unfold World.cell? at hc
    split at hc
    · simp at hc
    · cases hc
def bestR (l : List Int) : List ByteArray × Int := if sentOk l = true then (bestW l, 0) else ([], 113)
theorem wire_Best (A : Option Addr) (c : Nat) (l : List Int) (w : World) (hr : Kd.C (Kd.int .i64) w A l.length l) (hc : l.length ≤ c) :
    Calls Tryz.prog 30 #[.slice A l.length c] w fun e w' => ∃ v, e = .returned (.tuple #[.agg #[v], .int .i64 (bestR l).2]) ∧ w'.ownsRow w.heap.size 9 1 v (bestR l).1.length ((bestR l).1.map Value.string) ∧ Below w.heap.size w w' := by
  unfold bestR
  cases h : sentOk l
  · rw [if_neg (by decide)]
    refine (wire_Best_bad A c l w hr hc h).mono ?_
    rintro e w' ⟨rfl, hb⟩
    exact ⟨_, rfl, World.ownsRow_nil _ _ _ _, hb⟩
  · rw [if_pos rfl]
    obtain ⟨g, o, rfl⟩ := C_spot hr (sentOk_rng h).1
    exact wire_Best_ok g o c l w hr hc h
end Go.Proofs.YtfnibmcenjiodaaGreatDoor.M
namespace Go.Proofs.YtfnibmcenjiodaaGreatDoor.M
open Go.Sort Go.Shelf Go.RowKit Go.Maps Go.Proofs.YtfnibmcenjiodaaGreatDoorW.PrintWords Go.Proofs.YtfnibmcenjiodaaGreatDoorW.PrintLast Go.Proofs.YtfnibmcenjiodaaGreatDoorW.PrintMore
attribute [local go_sem] Oper.semAt_some
def dots (n : Nat) : List UInt8 := List.replicate n 46
theorem dots_size (n : Nat) : (ByteArray.mk (dots n).toArray).size = n := by
  show (dots n).toArray.size = n
  rw [List.size_toArray]; exact List.length_replicate
theorem dots_cut {k m : Nat} (h : m ≤ k) : (ByteArray.mk (dots k).toArray).extract 0 m = ⟨(dots m).toArray⟩ := by
  apply ByteArray.ext
  rw [ByteArray.data_extract]
  apply Array.toList_inj.1
  simp [dots, Nat.min_eq_left h]
theorem dots_add (m n : Nat) : dots m ++ dots n = dots (m + n) := List.replicate_append_replicate
set_option maxRecDepth 100000 in
set_option maxHeartbeats 4000000 in
theorem repeat_calls (c : Nat) (hc : c ≤ 100) (w : World) :
    Calls Tryz.prog 131 #[.string ⟨#[46]⟩, .int .i64 c] w fun e w' => e = .returned (.string ⟨(dots c).toArray⟩) ∧ Below w.heap.size w w' := by
  by_cases h0 : c = 0
  · subst h0
    go_enter Tryz.func131, Tryz.ntmps131
    go_wp2
    go_ret
    exact ⟨rfl, Below.refl _ _⟩
  by_cases h1 : c = 1
  · subst h1
    go_enter Tryz.func131, Tryz.ntmps131
    go_wp2
    go_ret
    exact ⟨rfl, Below.refl _ _⟩
  have hc2 : 2 ≤ c := by omega
  have hz : ¬ (c : Int) = 0 := by omega
  have ho : ¬ (c : Int) = 1 := by omega
  have hn : ¬ (c : Int) < 0 := by omega
  have hu : IntKind.u64.wrap (c : Int) = (c : Int) := by rw [IntKind.wrap_u64]; omega
  have hi : IntKind.i64.wrap (c : Int) = (c : Int) := by rw [IntKind.wrap_i64]; omega
  go_enter Tryz.func131, Tryz.ntmps131
  go_wp2_with fail
  refine (Tryz.bits_Mul 1 c (by omega) (by omega) w).mono ?_
  rintro e w1 ⟨rfl, rfl⟩
  rw [show ((1 * c / 18446744073709551616 : Nat) : Int) = 0 from by omega, show ((1 * c % 18446744073709551616 : Nat) : Int) = (c : Int) from by omega]
  clear h0 h1
  go_wp2_with fail
  refine (Tryz.Builder_Grow_fresh_cap w1.heap.size w1.heap.size c _ (Nat.le_refl _) (blk_new w1 _) (by simp) (by omega)).mono ?_
  rintro e w2 ⟨rfl, ⟨hB2, hb2⟩, _⟩
  have HB2 := Lib.hid (show Lib.IsBuilderF 117 5 w1.heap.size w1.heap.size [] w2 from .inr (.of hB2))
  have HW2 := Lib.hid ((below1 w1 _).trans hb2)
  clear hB2 hb2
  go_wp2_with fail
  refine (writeString_calls _ _ _ ⟨#[46]⟩ _ HB2.out (by decide) HW2.out.size).mono ?_
  rintro e w3 ⟨rfl, hI3, hb3⟩
  have HI3 : Hid (Lib.IsBuilderF 117 5 w1.heap.size w1.heap.size (Lib.byteCells (dots 1)) w3) := Lib.hid hI3
  have HW3 := Lib.hid (HW2.out.trans hb3)
  clear hI3 hb3
  go_wp2_with fail
  go_loopg [111] c (fun g _ wr => ∃ k, 1 ≤ k ∧ k ≤ c ∧ c - k ≤ g ∧ Hid (Lib.IsBuilderF 117 5 w1.heap.size w1.heap.size (Lib.byteCells (dots k)) wr) ∧ Hid (Below w1.heap.size w1 wr))
  case atStart => exact ⟨1, by omega, by omega, by omega, HI3, HW3⟩
  case round =>
    clear HI3 HW3 HB2 HW2
    obtain ⟨k, hk1, hkc, hkg, HI, HW⟩ := hrel
    have hlen : (Lib.byteCells (dots k)).length = k := by rw [Lib.byteCells_length]; exact List.length_replicate
    by_cases hlt : k < c
    · go_wp2_with fail
      refine (Tryz.Builder_Len_f _ _ _ _ HI.out).mono ?_
      rintro e w4 ⟨rfl, rfl⟩
      rw [hlen]
      go_wp2_with fail
      refine (Tryz.Builder_Len_f _ _ _ _ HI.out).mono ?_
      rintro e w4 ⟨rfl, rfl⟩
      rw [hlen]
      go_wp2_with fail
      refine (Tryz.Builder_Len_f _ _ _ _ HI.out).mono ?_
      rintro e w4 ⟨rfl, rfl⟩
      rw [hlen]
      have hdl : (dots k).length = k := List.length_replicate
      by_cases hm : c - k ≤ k
      · have hm2 : (c : Int) - k ≤ k := by omega
        have hm3 : (c : Int) - k = ((c - k : Nat) : Int) := by omega
        go_wp2_with fail
        refine (Tryz.Builder_String_any_f _ _ (dots k) _ HI.out HW.out.size).mono ?_
        rintro e w5 ⟨rfl, hI5, hb5⟩
        have HI5 := Lib.hid hI5
        have HW5 := Lib.hid (HW.out.trans hb5)
        clear hI5 hb5
        go_wp2_with fail
        have hx : (ByteArray.mk (dots k).toArray).extract 0 (c - k) = ⟨(dots (c - k)).toArray⟩ := dots_cut (by omega)
        rw [hx]
        refine (writeString_calls _ _ _ ⟨(dots (c - k)).toArray⟩ _ HI5.out (by rw [hlen, dots_size]; omega) HW5.out.size).mono ?_
        rintro e w6 ⟨rfl, hI6, hb6⟩
        rw [byteCells_snoc] at hI6
        have HI6 : Hid (Lib.IsBuilderF 117 5 w1.heap.size w1.heap.size (Lib.byteCells (dots (k + (c - k)))) w6) := Lib.hid (by rw [← dots_add]; exact hI6)
        have HW6 := Lib.hid (HW5.out.trans hb6)
        clear hI6 hb6
        go_wp2
        go_roundg (c - (k + (c - k)))
        case rel => exact ⟨k + (c - k), by omega, by omega, Nat.le_refl _, HI6, HW6⟩
        case measure => omega
      · have hm2 : (k : Int) < (c : Int) - k := by omega
        go_wp2_with fail
        refine (Tryz.Builder_String_any_f _ _ (dots k) _ HI.out HW.out.size).mono ?_
        rintro e w5 ⟨rfl, hI5, hb5⟩
        have HI5 := Lib.hid hI5
        have HW5 := Lib.hid (HW.out.trans hb5)
        clear hI5 hb5
        go_wp2_with fail
        have hx : (ByteArray.mk (dots k).toArray).extract 0 (k) = ⟨(dots (k)).toArray⟩ := dots_cut (by omega)
        rw [hx]
        refine (writeString_calls _ _ _ ⟨(dots (k)).toArray⟩ _ HI5.out (by rw [hlen, dots_size]; omega) HW5.out.size).mono ?_
        rintro e w6 ⟨rfl, hI6, hb6⟩
        rw [byteCells_snoc] at hI6
        have HI6 : Hid (Lib.IsBuilderF 117 5 w1.heap.size w1.heap.size (Lib.byteCells (dots (k + (k)))) w6) := Lib.hid (by rw [← dots_add]; exact hI6)
        have HW6 := Lib.hid (HW5.out.trans hb6)
        clear hI6 hb6
        go_wp2
        go_roundg (c - (k + (k)))
        case rel => exact ⟨k + (k), by omega, by omega, Nat.le_refl _, HI6, HW6⟩
        case measure => omega
    · obtain rfl : k = c := by omega
      go_wp2_with fail
      refine (Tryz.Builder_Len_f _ _ _ _ HI.out).mono ?_
      rintro e w4 ⟨rfl, rfl⟩
      rw [hlen]
      go_wp2_with fail
      refine (Tryz.Builder_String_any_f _ _ (dots k) _ HI.out HW.out.size).mono ?_
      rintro e w5 ⟨rfl, hI5, hb5⟩
      have HW5 := Lib.hid (HW.out.trans hb5)
      go_wp2
      go_ret
      exact ⟨rfl, HW5.out⟩
end Go.Proofs.YtfnibmcenjiodaaGreatDoor.M
namespace Go.Proofs.YtfnibmcenjiodaaGreatDoor.M
open Go.Sort Go.Shelf Go.RowKit Go.Maps Go.Proofs.YtfnibmcenjiodaaGreatDoorW.PrintWords Go.Proofs.YtfnibmcenjiodaaGreatDoorW.PrintLast Go.Proofs.YtfnibmcenjiodaaGreatDoorW.PrintMore
attribute [local go_sem] Oper.semAt_some
def writeOk (l : List Int) : Bool := decide (l.length ≤ 400) && inB 0 1048575 l
theorem writeOk_mem {l : List Int} (h : writeOk l = true) : l.length ≤ 400 ∧ ∀ n ∈ l, 0 ≤ n ∧ n ≤ 1048575 := by
  unfold writeOk inB at h
  simp only [Bool.and_eq_true, decide_eq_true_eq, List.all_eq_true] at h
  refine ⟨h.1, fun n hn => ?_⟩
  have := h.2 n hn
  simpa using this
theorem numB_length {n : Nat} (h : n ≤ 1048575) : (numB n).length ≤ 41 := by
  have := digs_length (n + 1) 21 (by omega)
  unfold numB
  rw [List.length_append, List.length_replicate]
  omega
theorem fileB_length : ∀ l : List Int, (∀ n ∈ l, 0 ≤ n ∧ n ≤ 1048575) → (fileB l).length ≤ 41 * l.length
  | [], _ => by simp [fileB]
  | n :: l, h => by
    have h1 := fileB_length l (fun m hm => h m (by simp [hm]))
    have h2 := numB_length (n := n.toNat) (by have := h n (by simp); omega)
    have e : fileB (n :: l) = numB n.toNat ++ fileB l := by simp [fileB]
    rw [e, List.length_append, List.length_cons]
    omega
theorem fileB_snoc (l : List Int) (k : Nat) (h : k < l.length) : fileB (l.take (k + 1)) = fileB (l.take k) ++ numB (rd l k).toNat := by
  rw [List.take_succ_eq_append_getElem h, fileB_append, rd_nat l k h]
  simp [fileB]
theorem digits_calls' (m : Nat) (hm : m ≤ 1048575) (w : World) : Calls Tryz.prog 130 #[.int .i64 ((m : Int) + 1)] w fun e w' => e = .returned (.string ⟨(digs (m + 1)).toArray⟩) ∧ Below w.heap.size w w' := by
  have := digits_calls (m + 1) w (by omega)
  rwa [show ((m + 1 : Nat) : Int) = (m : Int) + 1 from by omega] at this
theorem must_true (w : World) : Calls Tryz.prog 91 #[.bool true] w fun e w' => e = .returned (.tuple #[]) ∧ w' = w := must_calls true w
theorem must_false (w : World) : Calls Tryz.prog 91 #[.bool false] w fun e w' => e = .panicked torn1 ∧ w' = w := must_calls false w
set_option maxRecDepth 100000 in
set_option maxHeartbeats 4000000 in
theorem file_bad (A : Option Addr) (c : Nat) (l : List Int) (w : World) (hr : Kd.C (Kd.int .i64) w A l.length l) (hW : writeOk l = false) :
    Calls Tryz.prog 87 #[.slice A l.length c] w fun e w' => e = .panicked torn1 ∧ Below w.heap.size w w' := by
  have hmax := Kd.C_max hr
  by_cases hl : l.length ≤ 400
  · have hl1 : (l.length : Int) ≤ 400 := by omega
    have hin : inB 0 1048575 l = false := by
      unfold writeOk at hW
      simpa [hl] using hW
    go_enter Tryz.func87, Tryz.ntmps87
    go_wp2_with fail
    refine (wire_in 0 1048575 A c l w hr).mono ?_
    rintro e w1 ⟨rfl, hb1⟩
    have HB1 := Lib.hid hb1
    rw [hin]
    clear hb1 hin hW
    go_wp2_with fail
    refine (must_false w1).mono ?_
    rintro e w2 ⟨rfl, rfl⟩
    go_wp2
    exact ⟨rfl, rfl, HB1.out⟩
  · have hl1 : ¬ (l.length : Int) ≤ 400 := by omega
    clear hW
    go_enter Tryz.func87, Tryz.ntmps87
    go_wp2_with fail
    refine (must_false w).mono ?_
    rintro e w2 ⟨rfl, rfl⟩
    go_wp2
    exact ⟨rfl, rfl, Below.refl _ _⟩
set_option maxRecDepth 100000 in
set_option maxHeartbeats 4000000 in
theorem file_ok (A : Option Addr) (c : Nat) (l : List Int) (w : World) (hr : Kd.C (Kd.int .i64) w A l.length l) (hW : writeOk l = true) :
    Calls Tryz.prog 87 #[.slice A l.length c] w fun e w' => e = .returned (.string ⟨(fileB l).toArray⟩) ∧ Below w.heap.size w w' := by
  have hmax := Kd.C_max hr
  have hmem := Lib.hid (writeOk_mem hW)
  have hl := hmem.out.1
  have hl1 : (l.length : Int) ≤ 400 := by omega
  have hin : inB 0 1048575 l = true := by
    unfold writeOk at hW
    simpa [hl] using hW
  go_enter Tryz.func87, Tryz.ntmps87
  go_wp2_with fail
  refine (wire_in 0 1048575 A c l w hr).mono ?_
  rintro e w1 ⟨rfl, hb1⟩
  have HB1 := Lib.hid hb1
  have HR1 := Lib.hid (Kd.C_below hr hb1)
  rw [hin]
  clear hb1 hin hW hr
  go_wp2_with fail
  refine (must_true w1).mono ?_
  rintro e w2 ⟨rfl, rfl⟩
  go_wp2_with fail
  go_loopw [17] (fun i wr => ∃ k : Nat, k ≤ l.length ∧ i = .int .i64 k ∧ Hid (Lib.IsBuilderF 117 5 w2.heap.size w2.heap.size (Lib.byteCells (fileB (l.take k))) wr) ∧ Hid (Below w2.heap.size w2 wr)) (fun i _ => l.length - (intOf i).toNat)
  case atStart => exact ⟨0, by omega, rfl, Lib.hid (.of (Lib.fresh_isBuilder 117 5 w2)), Lib.hid (below1 _ _)⟩
  case round =>
    obtain ⟨k, hk, rfl, HI, HW⟩ := hrel
    by_cases hlt : k < l.length
    · obtain ⟨ad, rfl, hcell⟩ := Kd.at_int (Kd.C_below HR1.out HW.out) k (by omega) (by omega)
      rw [show ((k : Int).toNat) = k from by omega] at hcell
      obtain ⟨n, hn⟩ : ∃ n, n = rd l k := ⟨_, rfl⟩
      have hnm := hmem.out.2 n (by rw [hn, rd_nat _ _ hlt]; exact List.getElem_mem _)
      obtain ⟨m, rfl⟩ : ∃ m : Nat, n = (m : Int) := ⟨n.toNat, by omega⟩
      have hm : m ≤ 1048575 := by omega
      have Hs : Hid (fileB (l.take (k + 1)) = fileB (l.take k) ++ numB m) := Lib.hid (by rw [fileB_snoc _ _ hlt, ← hn]; rfl)
      rw [← hn] at hcell
      clear hn hnm
      go_wp2_with fail
      refine (digits_calls' m hm wr).mono ?_
      rintro e w3 ⟨rfl, hb3⟩
      have HI3 := Lib.hid (builder_below HI.out hb3)
      have HW3 := Lib.hid (HW.out.trans (hb3.mono HW.out.size))
      obtain ⟨d, hd⟩ : ∃ d : ByteArray, d = ⟨(digs (m + 1)).toArray⟩ := ⟨_, rfl⟩
      have hds : d.size = (digs (m + 1)).length := by rw [hd]; show (digs (m + 1)).toArray.size = _; rw [List.size_toArray]
      have hdl := digs_length (m + 1) 21 (by omega)
      have hdp : 1 ≤ d.size := by obtain ⟨t, ht⟩ := digs_head (m + 1) (by omega); rw [hds, ht]; simp
      have hsub : (d.size : Int) - 1 = ((d.size - 1 : Nat) : Int) := by omega
      rw [← hd]
      have Hd := Lib.hid (And.intro hd hds)
      have hd40 : d.size ≤ 21 := by omega
      clear hb3 HI hcell hd hds hdl
      go_wp2_with fail
      refine (repeat_calls (d.size - 1) (by omega) w3).mono ?_
      rintro e w4 ⟨rfl, hb4⟩
      have HI4 := Lib.hid (builder_below HI3.out hb4)
      have HW4 := Lib.hid (HW3.out.trans (hb4.mono HW3.out.size))
      obtain ⟨z, hz⟩ : ∃ z : ByteArray, z = ⟨(dots (d.size - 1)).toArray⟩ := ⟨_, rfl⟩
      have hzs : z.size = d.size - 1 := by rw [hz, dots_size]
      rw [← hz]
      have hcat : ¬ 9223372036854775807 < z.size + d.size := by omega
      have Hz := Lib.hid (And.intro hz hzs)
      clear hb4 hz hzs HI3 HW3
      go_wp2_with fail
      have hfl : (Lib.byteCells (fileB (l.take k))).length ≤ 41 * 400 := by
        rw [Lib.byteCells_length]
        have := fileB_length (l.take k) (fun n hn => hmem.out.2 n (List.mem_of_mem_take hn))
        rw [List.length_take] at this
        omega
      refine (writeString_calls _ _ _ (z ++ d) _ HI4.out (by rw [ByteArray.size_append, Hz.out.2]; omega) HW4.out.size).mono ?_
      rintro e w5 ⟨rfl, hI5, hb5⟩
      rw [byteCells_snoc] at hI5
      have HI5 : Hid (Lib.IsBuilderF 117 5 w2.heap.size w2.heap.size (Lib.byteCells (fileB (l.take (k + 1)))) w5) := Lib.hid (by
        have e : (z ++ d).data.toList = numB m := by
          have h1 := Hd.out.2
          rw [ByteArray.data_append, Array.toList_append, Hz.out.1, h1, Hd.out.1]
          rfl
        rw [Hs.out, ← e]
        exact hI5)
      have HW5 := Lib.hid (HW4.out.trans hb5)
      clear hI5 hb5
      go_wp2
      go_roundw
      case rel => exact ⟨k + 1, by omega, by go_num, HI5, HW5⟩
      case measure => simp [intOf]; omega
    · obtain rfl : k = l.length := by omega
      rw [List.take_length] at HI
      go_wp2_with fail
      refine (Tryz.Builder_String_any_f _ _ (fileB l) _ HI.out HW.out.size).mono ?_
      rintro e w5 ⟨rfl, hI5, hb5⟩
      have HB5 := Lib.hid (below_step HB1.out (HW.out.trans hb5))
      clear hI5 hb5
      go_wp2
      go_ret
      exact ⟨rfl, HB5.out⟩
def writeR (l : List Int) : ByteArray × Int := if writeOk l = true then (⟨(fileB l).toArray⟩, 0) else (⟨#[]⟩, 114)
set_option maxRecDepth 100000 in
set_option maxHeartbeats 4000000 in
theorem write_ok (A : Option Addr) (c : Nat) (l : List Int) (w : World) (hr : Kd.C (Kd.int .i64) w A l.length l) (hW : writeOk l = true) :
    Calls Tryz.prog 39 #[.slice A l.length c] w fun e w' => e = .returned (.tuple #[.string ⟨(fileB l).toArray⟩, .int .i64 0]) ∧ Below w.heap.size w w' := by
  go_enter_defers Tryz.func39, Tryz.ntmps39
  go_wp2_with fail
  refine (file_ok A c l _ (Kd.C_alloc hr _) hW).mono ?_
  rintro e w1 ⟨rfl, hb1⟩
  have HX := Lib.hid (blk_below (blk_new w (.cells #[.int .i64 0] 28)) hb1)
  have HB := Lib.hid (below_step (below1 w _) hb1)
  have hc1 := box_cell HX.out
  have hf1 := box_free HX.out
  clear hb1
  go_wp2
  refine leaves_cons (f := 86) (args := #[.pointer (some ⟨w.heap.size, 0, none⟩)]) (by simp) (by simp [go_sem]) ?_
  refine (caught_idle ⟨w.heap.size, 0, none⟩ _).mono ?_
  rintro e u' w'' ⟨rfl, rfl, rfl⟩
  have hc2 : (w1.setCell ⟨w.heap.size, 0, none⟩ (.int .i64 0)).cell? ⟨w.heap.size, 0, none⟩ = some (.int .i64 0) := box_cell (box_put HX.out _)
  refine ⟨.tuple #[.string ⟨(fileB l).toArray⟩, .int .i64 0], ?_, rfl, HB.out.setCell (Nat.le_refl _) _⟩
  simp [results, Tryz.results39, go_sem, hc2]
set_option maxRecDepth 100000 in
set_option maxHeartbeats 4000000 in
theorem write_bad (A : Option Addr) (c : Nat) (l : List Int) (w : World) (hr : Kd.C (Kd.int .i64) w A l.length l) (hW : writeOk l = false) :
    Calls Tryz.prog 39 #[.slice A l.length c] w fun e w' => e = .returned (.tuple #[.string ⟨#[]⟩, .int .i64 114]) ∧ Below w.heap.size w w' := by
  go_enter_defers Tryz.func39, Tryz.ntmps39
  go_wp2_with fail
  refine (file_bad A c l _ (Kd.C_alloc hr _) hW).mono ?_
  rintro e w1 ⟨rfl, hb1⟩
  have HX := Lib.hid (blk_below (blk_new w (.cells #[.int .i64 0] 28)) hb1)
  have HB := Lib.hid (below_step (below1 w _) hb1)
  clear hb1
  go_wp2
  refine leaves_cons (f := 86) (args := #[.pointer (some ⟨w.heap.size, 0, none⟩)]) (by simp) (by simp [go_sem]) ?_
  refine (caught_panicking w.heap.size 0 [] _ HX.out).mono ?_
  rintro e u' w'' ⟨rfl, rfl, hx, hbw⟩
  have hc2 := box_cell hx
  refine ⟨.tuple #[.string ⟨#[]⟩, .int .i64 114], ?_, rfl, HB.out.trans (hbw _ (Nat.le_refl _) HB.out.size)⟩
  simp [results, Tryz.results39, go_sem, hc2]
theorem wire_Write (A : Option Addr) (c : Nat) (l : List Int) (w : World) (hr : Kd.C (Kd.int .i64) w A l.length l) :
    Calls Tryz.prog 39 #[.slice A l.length c] w fun e w' => e = .returned (.tuple #[.string (writeR l).1, .int .i64 (writeR l).2]) ∧ Below w.heap.size w w' := by
  unfold writeR
  by_cases h : writeOk l = true
  · rw [if_pos h]; exact write_ok A c l w hr h
  · rw [if_neg h]; exact write_bad A c l w hr (by simpa using h)
end Go.Proofs.YtfnibmcenjiodaaGreatDoor.M
namespace Go.Proofs.YtfnibmcenjiodaaGreatDoor.M
open Go.Sort Go.Shelf Go.RowKit Go.Maps Go.Proofs.YtfnibmcenjiodaaGreatDoorW.PrintWords Go.Proofs.YtfnibmcenjiodaaGreatDoorW.PrintLast Go.Proofs.YtfnibmcenjiodaaGreatDoorW.PrintMore
attribute [local go_sem] Oper.semAt_some
def lead (s : List UInt8) : Nat := (s.takeWhile (fun c => c != 45)).length
theorem indexByte_lead : ∀ s : List UInt8, Lib.indexByte s 45 = if lead s < s.length then (lead s : Int) else -1
  | [] => rfl
  | c :: s => by
    have ih := indexByte_lead s
    show (if c == 45 then (0 : Int) else if Lib.indexByte s 45 == -1 then -1 else Lib.indexByte s 45 + 1) = _
    by_cases hc : c = 45
    · subst hc
      have e : lead (45 :: s) = 0 := rfl
      rw [e]
      simp
    · have e : lead (c :: s) = lead s + 1 := by
        unfold lead
        rw [List.takeWhile_cons, if_pos (by simpa using hc)]
        rfl
      rw [e, ih, if_neg (by simpa using hc)]
      rw [List.length_cons]
      by_cases h : lead s < s.length
      · rw [if_pos h, if_neg (by simp), if_pos (by omega)]
        omega
      · rw [if_neg h, if_pos (by decide), if_neg (by omega)]
theorem valF_take (d : List UInt8) (p : Nat) (h : p < d.length) : valF 0 (d.take (p + 1)) = if d[p] = 45 then 2 * valF 0 (d.take p) + 1 else 2 * valF 0 (d.take p) := by
  rw [List.take_succ_eq_append_getElem h, valF_app]; rfl
theorem valF_ge : ∀ (d : List UInt8) (k : Nat), k ≤ valF k d
  | [], k => Nat.le_refl _
  | c :: d, k => by
    have := valF_ge d (if c = 45 then 2 * k + 1 else 2 * k)
    show k ≤ valF (if c = 45 then 2 * k + 1 else 2 * k) d
    split at this <;> rename_i h
    · rw [if_pos h]; omega
    · rw [if_neg h]; omega
theorem valF_big (d : List UInt8) (p : Nat) (h : p < d.length) (hb : 1048575 < valF 0 (d.take p)) : 1048576 < valF 0 d := by
  have h1 := valF_take d p h
  have h2 : valF 0 d = valF (valF 0 (d.take (p + 1))) (d.drop (p + 1)) := by rw [← valF_app, List.take_append_drop]
  have h3 := valF_ge (d.drop (p + 1)) (valF 0 (d.take (p + 1)))
  rw [h2]
  split at h1 <;> omega
def NumPost (b : Nat) (s : List UInt8) (w : World) (e : Ending) (w' : World) : Prop :=
  Keep w.heap.size (some b) w w' ∧ ((∃ m r, takeB s = some (m, r) ∧ e = .returned (.int .i64 (m : Nat)) ∧ w'.heap[b]? = some (.cells #[.string ⟨r.toArray⟩] 221 (0, 0))) ∨ (takeB s = none ∧ e = .panicked torn1))
theorem takeB_far {s : List UInt8} (h : ¬ 2 * lead s < s.length) : takeB s = none := by
  unfold takeB lead at *
  simp only
  rw [if_neg h]
theorem takeB_big {s : List UInt8} (h : 2 * lead s < s.length) (hk : 1048576 < valF 0 ((s.drop (lead s)).take (lead s + 1))) : takeB s = none := by
  unfold takeB lead at *
  simp only
  rw [if_pos h, if_neg (by omega)]
theorem takeB_fit {s : List UInt8} (h : 2 * lead s < s.length) (hk : valF 0 ((s.drop (lead s)).take (lead s + 1)) ≤ 1048576) : takeB s = some (valF 0 ((s.drop (lead s)).take (lead s + 1)) - 1, s.drop (2 * lead s + 1)) := by
  unfold takeB lead at *
  simp only
  rw [if_pos h, if_pos hk]
set_option maxRecDepth 100000 in
set_option maxHeartbeats 4000000 in
theorem number_calls (b : Nat) (s : ByteArray) (hs : ∀ c ∈ s.data.toList, c = 45 ∨ c = 46) (hsz : s.size ≤ 1000000000) (w : World) (hb : w.heap[b]? = some (.cells #[.string s] 221 (0, 0))) :
    Calls Tryz.prog 132 #[.pointer (some ⟨b, 0, none⟩)] w (NumPost b s.data.toList w) := by
  have hlen : s.data.toList.length = s.size := by simp
  have hc := box_cell hb
  have hf := box_free hb
  have hlt := blk_lt hb
  have HB := Lib.hid hb
  obtain ⟨n, hn⟩ : ∃ n, n = lead s.data.toList := ⟨_, rfl⟩
  have hix := indexByte_lead s.data.toList
  rw [← hn, hlen] at hix
  have Hn := Lib.hid hn
  clear hb hn
  by_cases h1 : n < s.size
  · rw [if_pos h1] at hix
    have Hix := Lib.hid hix
    clear hix
    have hn0 : (0 : Int) ≤ n := by omega
    by_cases h2 : 2 * n < s.size
    · have h2i : (2 : Int) * n < s.size := by omega
      have h2j : (2 : Int) * n + 1 ≤ s.size := by omega
      have h2k : (n : Int) ≤ 2 * n + 1 := by omega
      have h2l : (0 : Int) ≤ 2 * n + 1 := by omega
      have hw2 : IntKind.i64.wrap (2 * (n : Int)) = 2 * n := by rw [IntKind.wrap_i64]; omega
      have hw3 : IntKind.i64.wrap (2 * (n : Int) + 1) = 2 * n + 1 := by rw [IntKind.wrap_i64]; omega
      go_enter Tryz.func132, Tryz.ntmps132
      go_wp2_with fail
      refine (Tryz.strings_IndexByte s 45 w).mono ?_
      rintro e w1 ⟨rfl, rfl⟩
      rw [show (45 : Int).toNat.toUInt8 = 45 from rfl, Hix.out]
      go_wp2_with fail
      refine (must_true w1).mono ?_
      rintro e w2 ⟨rfl, rfl⟩
      go_wp2_with fail
      obtain ⟨d, hd⟩ : ∃ d, d = s.extract n (2 * n + 1) := ⟨_, rfl⟩
      obtain ⟨r, hr⟩ : ∃ r, r = s.extract (2 * n + 1) s.size := ⟨_, rfl⟩
      rw [← hd, ← hr]
      have hdl : d.data.toList = (s.data.toList.drop n).take (n + 1) := by
        rw [hd, ByteArray.data_extract, Array.toList_extract]
        simp [show 2 * n + 1 - n = n + 1 from by omega]
      have hds : d.size = n + 1 := by rw [hd, ByteArray.size_extract]; omega
      have hrl : r = ⟨(s.data.toList.drop (2 * n + 1)).toArray⟩ := by
        rw [hr]
        apply ByteArray.ext
        apply Array.toList_inj.1
        rw [ByteArray.data_extract, Array.toList_extract]
        simp
        rw [List.take_of_length_le (by rw [List.length_drop, hlen]; exact Nat.le_refl _)]
      have hdc : ∀ c ∈ d.data.toList, c = 45 ∨ c = 46 := fun c hc => hs c (by rw [hdl] at hc; exact List.mem_of_mem_drop (List.mem_of_mem_take hc))
      have hd1 : 1 ≤ valF 0 d.data.toList := by
        have h := (takeWhile_split s.data.toList hs).2
        have e : (s.data.toList.takeWhile (fun c => c != 45)).length = n := Hn.out.symm
        rw [e] at h
        rcases h with h | ⟨t, h⟩
        · have := congrArg List.length h
          rw [List.length_drop, hlen] at this
          simp at this; omega
        · rw [hdl, h]
          exact valF_ge (t.take n) 1
      have Hdl := Lib.hid (And.intro hdl hrl)
      have Hdc := Lib.hid hdc
      have Hd1 := Lib.hid hd1
      have Hds := Lib.hid hds
      clear hd hr hdl hrl hdc hd1 hds
      obtain ⟨W0, hW0⟩ : ∃ W0, W0 = (w2.setCell ⟨b, 0, none⟩ (.string r)).iter d 0 := ⟨_, rfl⟩
      have hz0 : (w2.setCell ⟨b, 0, none⟩ (.string r)).heap.size = w2.heap.size := by simp
      have hi0 : W0.heap[w2.heap.size]? = some (.stringIter d 0) := by rw [hW0, ← hz0]; exact World.iter_heap _ _ _
      have hb0 : W0.heap[b]? = some (.cells #[.string r] 221 (0, 0)) := by
        rw [hW0, iter_lower _ _ _ _ (by rw [hz0]; exact hlt)]
        exact box_put HB.out _
      have hk0 : Keep w2.heap.size (some b) w2 W0 := by
        rw [hW0]
        refine Keep.trans (w1 := w2.setCell ⟨b, 0, none⟩ (.string r)) ⟨rfl, rfl, rfl, by simp, fun i hi hne => Below.heap_setCell _ _ _ _ (by intro e; apply hne; first | exact congrArg some e | exact congrArg some e.symm)⟩ ?_
        exact (Keep.of_below (below_iter (Below.refl _ _) (Nat.le_refl _) _ _) _).mono (by rw [hz0]; exact Nat.le_refl _)
      rw [← hW0]
      have HB0 := Lib.hid hb0
      have HK0 := Lib.hid hk0
      clear hW0 hb0 hk0 hc hf hz0
      go_loopg [5] (n + 2) (fun g v wr => ∃ pos : Nat, pos ≤ d.size ∧ d.size + 1 - pos ≤ g ∧ v = .int .i64 ((valF 0 (d.data.toList.take pos) : Nat) : Int) ∧ valF 0 (d.data.toList.take pos) ≤ 2097151 ∧ wr.heap[w2.heap.size]? = some (.stringIter d pos) ∧ Hid (wr.heap[b]? = some (.cells #[.string r] 221 (0, 0))) ∧ Hid (Keep w2.heap.size (some b) w2 wr))
      case atStart => exact ⟨0, Nat.zero_le _, by have := Hds.out; omega, rfl, Nat.zero_le _, hi0, HB0, HK0⟩
      case round =>
        clear hi0 HB0 HK0
        obtain ⟨pos, hp, hg, rfl, hv, hi, HBr, HKr⟩ := hrel
        obtain ⟨k, hk⟩ : ∃ k, k = valF 0 (d.data.toList.take pos) := ⟨_, rfl⟩
        rw [← hk] at hv
        rw [← hk]
        have Hk := Lib.hid hk
        clear hk
        have hdl : d.data.toList.length = d.size := by simp
        by_cases hpl : pos < d.size
        · have hcc := Hdc.out (d.data.toList[pos]'(by rw [hdl]; exact hpl)) (List.getElem_mem _)
          have hvt := valF_take d.data.toList pos (by rw [hdl]; exact hpl)
          have hge : (d[pos]'hpl) = d.data.toList[pos]'(by rw [hdl]; exact hpl) := by
            show d.data[pos]'hpl = _
            simp
          have hblt := blk_lt HBr.out
          have hbK : b ≠ w2.heap.size := by omega
          have HBn : Hid ((wr.iterAt w2.heap.size d (pos + 1)).heap[b]? = some (.cells #[.string r] 221 (0, 0))) := Lib.hid (by rw [Lib.iterAt_other _ _ _ _ _ hbK]; exact HBr.out)
          have HKn : Hid (Keep w2.heap.size (some b) w2 (wr.iterAt w2.heap.size d (pos + 1))) := Lib.hid (HKr.out.trans (Keep.of_below (Lib.below_iterAt (Below.refl _ _) (Nat.le_refl _) _ _) _))
          have hin := Lib.iterAt_heap wr w2.heap.size d pos (pos + 1) hi
          by_cases hkb : k ≤ 1048575
          · have hki : (k : Int) ≤ 1048575 := by omega
            have hm2 : IntKind.i64.wrap ((k : Int) * 2) = k * 2 := by rw [IntKind.wrap_i64]; omega
            have hm3 : IntKind.i64.wrap ((k : Int) * 2 + 1) = k * 2 + 1 := by rw [IntKind.wrap_i64]; omega
            rcases hcc with hcc | hcc
            · have n1 := next_one wr w2.heap.size d pos 45 hi hpl (by rw [hge, hcc]; decide) (by rw [hge, hcc]; decide) (pos + 1) rfl
              rw [hcc, if_pos rfl, ← Hk.out] at hvt
              have Hvt := Lib.hid hvt
              clear hvt hcc hge hi
              go_wp2_with fail
              refine (must_true _).mono ?_
              rintro e w3 ⟨rfl, rfl⟩
              go_wp2
              go_roundg (d.size - pos)
              case rel => exact ⟨pos + 1, by omega, by omega, by rw [Hvt.out]; congr 1; omega, by rw [Hvt.out]; omega, hin, HBn, HKn⟩
              case measure => omega
            · have n1 := next_one wr w2.heap.size d pos 46 hi hpl (by rw [hge, hcc]; decide) (by rw [hge, hcc]; decide) (pos + 1) rfl
              rw [hcc, if_neg (by decide), ← Hk.out] at hvt
              have Hvt := Lib.hid hvt
              clear hvt hcc hge hi
              go_wp2_with fail
              refine (must_true _).mono ?_
              rintro e w3 ⟨rfl, rfl⟩
              go_wp2
              go_roundg (d.size - pos)
              case rel => exact ⟨pos + 1, by omega, by omega, by rw [Hvt.out]; congr 1; omega, by rw [Hvt.out]; omega, hin, HBn, HKn⟩
              case measure => omega
          · have hki : ¬ (k : Int) ≤ 1048575 := by omega
            have hbig := valF_big d.data.toList pos (by rw [hdl]; exact hpl) (by rw [← Hk.out]; omega)
            have Hbig := Lib.hid hbig
            rcases hcc with hcc | hcc
            · have n1 := next_one wr w2.heap.size d pos 45 hi hpl (by rw [hge, hcc]; decide) (by rw [hge, hcc]; decide) (pos + 1) rfl
              clear hvt hcc hge hi hbig
              go_wp2_with fail
              refine (must_false _).mono ?_
              rintro e w3 ⟨rfl, rfl⟩
              go_wp2
              exact ⟨rfl, HKn.out, .inr ⟨takeB_big (by rw [← Hn.out, hlen]; exact h2) (by rw [← Hn.out, ← Hdl.out.1]; exact Hbig.out), rfl⟩⟩
            · have n1 := next_one wr w2.heap.size d pos 46 hi hpl (by rw [hge, hcc]; decide) (by rw [hge, hcc]; decide) (pos + 1) rfl
              clear hvt hcc hge hi hbig
              go_wp2_with fail
              refine (must_false _).mono ?_
              rintro e w3 ⟨rfl, rfl⟩
              go_wp2
              exact ⟨rfl, HKn.out, .inr ⟨takeB_big (by rw [← Hn.out, hlen]; exact h2) (by rw [← Hn.out, ← Hdl.out.1]; exact Hbig.out), rfl⟩⟩
        · have hpe : pos = d.size := by omega
          have n3 := fun ty => Lib.run_next_end_at (P := Tryz.prog) wr w2.heap.size d pos ty hi (by omega)
          have hkv : k = valF 0 d.data.toList := by rw [Hk.out, hpe, ← hdl, List.take_length]
          have Hkv := Lib.hid hkv
          have hk1 : 1 ≤ k := by rw [hkv]; exact Hd1.out
          clear hkv hdl hi
          by_cases hkb : k ≤ 1048576
          · have hki : (k : Int) ≤ 1048576 := by omega
            have hm2 : IntKind.i64.wrap ((k : Int) - 1) = k - 1 := by rw [IntKind.wrap_i64]; omega
            go_wp2_with fail
            refine (must_true _).mono ?_
            rintro e w3 ⟨rfl, rfl⟩
            go_wp2
            go_ret
            refine ⟨HKr.out, .inl ⟨k - 1, _, ?_, ?_, by rw [HBr.out, Hdl.out.2]⟩⟩
            · rw [takeB_fit (by rw [← Hn.out, hlen]; exact h2) (by rw [← Hn.out, ← Hdl.out.1, ← Hkv.out]; exact hkb), ← Hn.out, ← Hdl.out.1, ← Hkv.out]
            · rw [show ((k - 1 : Nat) : Int) = (k : Int) - 1 from by omega]; rfl
          · go_wp2_with fail
            rw [show decide ((k : Int) ≤ 1048576) = false from decide_eq_false (by omega)]
            refine (must_false _).mono ?_
            rintro e w3 ⟨rfl, rfl⟩
            go_wp2
            exact ⟨rfl, HKr.out, .inr ⟨takeB_big (by rw [← Hn.out, hlen]; exact h2) (by rw [← Hn.out, ← Hdl.out.1, ← Hkv.out]; omega), rfl⟩⟩
    · have h2i : ¬ (2 : Int) * n < s.size := by omega
      have hw2 : IntKind.i64.wrap (2 * (n : Int)) = 2 * n := by rw [IntKind.wrap_i64]; omega
      go_enter Tryz.func132, Tryz.ntmps132
      go_wp2_with fail
      refine (Tryz.strings_IndexByte s 45 w).mono ?_
      rintro e w1 ⟨rfl, rfl⟩
      rw [show (45 : Int).toNat.toUInt8 = 45 from rfl, Hix.out]
      go_wp2_with fail
      rw [show decide ((2 : Int) * n < s.size) = false from decide_eq_false (by omega)]
      refine (must_false w1).mono ?_
      rintro e w2 ⟨rfl, rfl⟩
      go_wp2
      exact ⟨rfl, Keep.refl _ _ _, .inr ⟨takeB_far (by rw [← Hn.out, hlen]; exact h2), rfl⟩⟩
  · rw [if_neg h1] at hix
    have Hix := Lib.hid hix
    clear hix
    go_enter Tryz.func132, Tryz.ntmps132
    go_wp2_with fail
    refine (Tryz.strings_IndexByte s 45 w).mono ?_
    rintro e w1 ⟨rfl, rfl⟩
    rw [show (45 : Int).toNat.toUInt8 = 45 from rfl, Hix.out]
    go_wp2_with fail
    refine (must_false w1).mono ?_
    rintro e w2 ⟨rfl, rfl⟩
    go_wp2
    exact ⟨rfl, Keep.refl _ _ _, .inr ⟨takeB_far (by rw [← Hn.out, hlen]; omega), rfl⟩⟩
end Go.Proofs.YtfnibmcenjiodaaGreatDoor.M
