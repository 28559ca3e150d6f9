/- Contracts and plain laws that the claim's card stands on (texts M32 M33 M34 of the work, put together). No statement of the seat is proved here. -/
import Derived.Deep.RegionHeld3
import Derived.Test.YtfnibmcenjiodaaGreatDoorQ12
import Derived.Test.YtfnibmcenjiodaaGreatDoorQ17
set_option linter.unusedVariables false
set_option linter.unusedSimpArgs false
namespace Go.Proofs.YtfnibmcenjiodaaGreatDoor.M
open Go.Sort Go.Shelf Go.RowKit Go.Maps Go.Proofs.YtfnibmcenjiodaaGreatDoorW.PrintWords Go.Proofs.YtfnibmcenjiodaaGreatDoorW.PrintLast Go.Proofs.YtfnibmcenjiodaaGreatDoorW.PrintMore
attribute [local go_sem] Oper.semAt_some
def shareN (n : Nat) : Int := ((32 / 2 ^ n : Nat) : Int)
def settleStep (l : List Int) (f : Nat) (s : List Int) (i : Nat) (cost left : Int) (bl : List Int × Int) (n : Nat) : List Int × Int :=
  if shareN n ≤ left then settleF l f bl (s.set i ((n : Int) + 1)) (i + 1) (cost + rd l i * ((n : Int) + 1)) (left - shareN n) else bl
theorem settleF_succ (l : List Int) (f : Nat) (bl : List Int × Int) (s : List Int) (i : Nat) (cost left : Int) (h : ¬ (bl.1 ≠ zeros7 ∧ bl.2 ≤ cost)) : settleF l (f + 1) bl s i cost left = (List.range 6).foldl (settleStep l f s i cost left) bl := by
  rw [settleF, if_neg h]; rfl
theorem fold_range_succ {β : Type} (F : β → Nat → β) (b : β) (n : Nat) : (List.range (n + 1)).foldl F b = F ((List.range n).foldl F b) n := by
  rw [List.range_succ, List.foldl_append]; rfl
def SettleOk (l : List Int) (A : Option Addr) (c : Nat) (w0 : World) (b4 b5 b6 b7 : Nat) (f : Nat) : Prop :=
  ∀ (i : Nat) (bl : List Int × Int) (s : List Int) (cost left : Int) (w : World), i + f = l.length → s.length = 7 → 0 ≤ cost → cost ≤ 6000 * i → 0 ≤ left → left ≤ 64 → (i = 0 → s = zeros7) → (i ≠ 0 → ∃ k t, s = ((k : Nat) : Int) :: t ∧ 1 ≤ k ∧ k ≤ 6) → SB l A c w0 b4 b5 b6 b7 bl w →
    Calls Tryz.prog 76 #[.agg (vs s), .int .i64 i, .int .i64 cost, .int .i64 left, .pointer (some ⟨b4, 0, none⟩), .pointer (some ⟨b5, 0, none⟩), .pointer (some ⟨b6, 0, none⟩), .pointer (some ⟨b7, 0, none⟩)] w fun e w' =>
      e = .returned (.tuple #[]) ∧ SB l A c w0 b4 b5 b6 b7 (settleF l f bl s i cost left) w' ∧ Keep2 b4 b5 w w'
theorem cell9 {l : List Int} {ad : Addr} {c : Nat} {w0 : World} {b4 b5 b6 b7 : Nat} {bl : List Int × Int} {W : World} {K : Nat} {t0 t1 t2 t3 t4 t5 t6 x : Int} {q : Addr} (h : SB l (some ad) c w0 b4 b5 b6 b7 bl W) (hK : W.heap[K]? = some (.cells (vs [t0, t1, t2, t3, t4, t5, t6]) 138 (0, 0))) (hx : w0.cell? q = some (.int .i64 x)) :
    W.cell? ⟨b7, 0, none⟩ = some (.func (.func 76) #[] #[.pointer (some ⟨b4, 0, none⟩), .pointer (some ⟨b5, 0, none⟩), .pointer (some ⟨b6, 0, none⟩), .pointer (some ⟨b7, 0, none⟩)]) ∧ W.cell? ⟨b6, 0, none⟩ = some (.slice (some ad) l.length c) ∧ W.cell? q = some (.int .i64 x) ∧
    W.cell? ⟨K, 0, none⟩ = some (.int .i64 t0) ∧ W.cell? ⟨K, 1, none⟩ = some (.int .i64 t1) ∧ W.cell? ⟨K, 2, none⟩ = some (.int .i64 t2) ∧ W.cell? ⟨K, 3, none⟩ = some (.int .i64 t3) ∧ W.cell? ⟨K, 4, none⟩ = some (.int .i64 t4) ∧ W.cell? ⟨K, 5, none⟩ = some (.int .i64 t5) ∧ W.cell? ⟨K, 6, none⟩ = some (.int .i64 t6) :=
  ⟨box_cell h.self, box_cell h.often, (World.cell?_of_block (h.below.block _ (World.block_lt_of_cell? _ _ hx))).trans hx, cell_arr hK⟩
theorem shr_share (n : Nat) (h : n < 6) : (64 : Int) / 2 ^ (n + 1) = shareN n := by
  match n, h with
  | 0, _ => rfl
  | 1, _ => rfl
  | 2, _ => rfl
  | 3, _ => rfl
  | 4, _ => rfl
  | 5, _ => rfl
set_option maxRecDepth 100000 in
set_option maxHeartbeats 4000000 in
theorem settle_s1 (l : List Int) (gb go : Nat) (c : Nat) (w0 : World) (b4 b5 b6 b7 : Nat) (f : Nat) (ih : SettleOk l (some ⟨gb, go, none⟩) c w0 b4 b5 b6 b7 f) (hC : Kd.C (Kd.int .i64) w0 (some ⟨gb, go, none⟩) l.length l) (hlm : ∀ x ∈ l, 0 ≤ x ∧ x ≤ 1000) (bl : List Int × Int) (s0 s1 s2 s3 s4 s5 s6 : Int) (cost left : Int) (w : World) (hif : 1 + (f + 1) = l.length) (h7 : l.length ≤ 7) (hc0 : 0 ≤ cost) (hc1 : cost ≤ 6000 * 1) (hl0 : 0 ≤ left) (hl1 : left ≤ 64) (hg : ∃ k t, [s0, s1, s2, s3, s4, s5, s6] = ((k : Nat) : Int) :: t ∧ 1 ≤ k ∧ k ≤ 6) (hB : SB l (some ⟨gb, go, none⟩) c w0 b4 b5 b6 b7 bl w) :
    Calls Tryz.prog 76 #[.agg (vs [s0, s1, s2, s3, s4, s5, s6]), .int .i64 1, .int .i64 cost, .int .i64 left, .pointer (some ⟨b4, 0, none⟩), .pointer (some ⟨b5, 0, none⟩), .pointer (some ⟨b6, 0, none⟩), .pointer (some ⟨b7, 0, none⟩)] w fun e w' =>
      e = .returned (.tuple #[]) ∧ SB l (some ⟨gb, go, none⟩) c w0 b4 b5 b6 b7 (settleF l (f + 1) bl [s0, s1, s2, s3, s4, s5, s6] 1 cost left) w' ∧ Keep2 b4 b5 w w' := by
  have HB := Lib.hid hB
  have hw1 := hB.carry (below1 w (.cells (vs [s0, s1, s2, s3, s4, s5, s6]) 138))
  obtain ⟨b, least⟩ := bl
  have hgd := hB.good
  dsimp only at hgd
  obtain ⟨hg7, hgd⟩ := hgd
  obtain ⟨c0, c1, c2, c3, c4, c5, c6, rfl⟩ := seven hg7
  have vse : vs [s0, s1, s2, s3, s4, s5, s6] = #[.int .i64 s0, .int .i64 s1, .int .i64 s2, .int .i64 s3, .int .i64 s4, .int .i64 s5, .int .i64 s6] := rfl
  obtain ⟨q0, q1, q2, q3, q4, q5, q6⟩ := cell_arr hw1.best
  have hle := box_cell hw1.least
  have hof := box_cell hw1.often
  have hil : ¬ (1 : Int) = l.length := by omega
  have HW := Lib.hid hw1
  have HX : Hid ((w.alloc (.cells (vs [s0, s1, s2, s3, s4, s5, s6]) 138)).heap[w.heap.size]? = some (.cells (vs [s0, s1, s2, s3, s4, s5, s6]) 138 (0, 0))) := Lib.hid (blk_new w _)
  rw [vse] at q0 q1 q2 q3 q4 q5 q6 hle hof
  have Hg := Lib.hid hg
  clear hw1 hB hg
  by_cases hq : [c0, c1, c2, c3, c4, c5, c6] ≠ zeros7 ∧ least ≤ cost
  · have hr : Hid (settleF l (f + 1) ([c0, c1, c2, c3, c4, c5, c6], least) [s0, s1, s2, s3, s4, s5, s6] 1 cost left = ([c0, c1, c2, c3, c4, c5, c6], least)) := Lib.hid (settle_none hq.1 hq.2)
    rcases hgd with hz | ⟨k, t, hk, hk1, hk6⟩
    · exact absurd hz hq.1
    · injection hk with z0 hk
      subst z0
      have hn := eq_no k hk1 hk6 c1 c2 c3 c4 c5 c6
      have hlc := hq.2
      clear hk hq
      rw [vse]
      go_enter Tryz.func76, Tryz.ntmps76
      go_wp2_with fail
      refine bodyPost_ret (results_none rfl _ _ _) rfl ?_
      rw [hr.out]
      exact ⟨rfl, HW.out, .of_below (below1 _ _)⟩
  · have hr := Lib.hid (settleF_succ l f ([c0, c1, c2, c3, c4, c5, c6], least) [s0, s1, s2, s3, s4, s5, s6] 1 cost left hq)
    obtain ⟨F, hF⟩ : ∃ F, F = settleStep l f [s0, s1, s2, s3, s4, s5, s6] 1 cost left := ⟨_, rfl⟩
    rw [← hF] at hr
    have HF := Lib.hid hF
    clear hF
    have main : Hid (∀ W1 : World, True) := Lib.hid (fun _ => trivial)
    rcases hgd with hz | ⟨k, t, hk, hk1, hk6⟩
    · injection hz with z0 hz; injection hz with z1 hz; injection hz with z2 hz; injection hz with z3 hz; injection hz with z4 hz; injection hz with z5 hz; injection hz with z6 hz
      subst z0 z1 z2 z3 z4 z5 z6
      clear hz hq
      have hy := eq_yes
      rw [vse]
      go_enter Tryz.func76, Tryz.ntmps76
      go_wp2_with fail
      go_loopw [31] (fun iv wr => ∃ n : Nat, n ≤ 6 ∧ iv = .int .i64 n ∧ Hid (SB l (some ⟨gb, go, none⟩) c w0 b4 b5 b6 b7 ((List.range n).foldl F ([0, 0, 0, 0, 0, 0, 0], least)) wr) ∧ Hid (wr.heap[w.heap.size]? = some (.cells (vs [s0, s1, s2, s3, s4, s5, s6]) 138 (0, 0))) ∧ Hid (Keep2 b4 b5 w wr)) (fun iv _ => 6 - (intOf iv).toNat)
      case atStart => exact ⟨0, by omega, rfl, HW, HX, Lib.hid (.of_below (below1 _ _))⟩
      case round =>
        obtain ⟨n, hn, rfl, HBr, HXr, HKr⟩ := hrel
        by_cases hlt : n < 6
        · obtain ⟨sh, hsh⟩ : ∃ sh, sh = shareN n := ⟨_, rfl⟩
          have hse : (64 : Int) / 2 ^ (n + 1) = sh := by rw [hsh]; exact shr_share n hlt
          have hs0 : 0 ≤ sh := by rw [hsh]; exact Int.natCast_nonneg _
          have Hsh := Lib.hid hsh
          clear hsh
          by_cases hfit : sh ≤ left
          · obtain ⟨ad, had, hcell⟩ := Kd.at_int (Kd.C_below hC HBr.out.below) 1 (by omega) (by omega)
            cases had
            have hlen1 : (1 : Int) < l.length := by omega
            obtain ⟨x, hx⟩ : ∃ x, x = rd l (1 : Nat) := ⟨_, rfl⟩
            have hxm := hlm x (by rw [hx, rd_nat _ _ (by omega)]; exact List.getElem_mem _)
            have hcx : wr.cell? ⟨gb, go + 1, none⟩ = some (.int .i64 x) := by rw [hx]; exact hcell
            have Hx := Lib.hid hx
            clear hcell hx
            have cc6 := box_cell HBr.out.often
            have cc7 := box_cell HBr.out.self
            obtain ⟨p0, p1, p2, p3, p4, p5, p6⟩ := cell_arr HXr.out
            obtain ⟨y, hy'⟩ : ∃ y, y = x * ((n : Int) + 1) := ⟨_, rfl⟩
            have hy0 : 0 ≤ y := by rw [hy']; exact Int.mul_nonneg hxm.1 (by omega)
            have hy6 : y ≤ 6000 := by rw [hy']; exact Int.le_trans (Int.mul_le_mul hxm.2 (show (n : Int) + 1 ≤ 6 by omega) (by omega) (by decide)) (by decide)
            have hye : x * ((n : Int) + 1) = y := hy'.symm
            have Hy := Lib.hid hy'
            clear hy'
            have e2 : IntKind.i64.wrap (cost + y) = cost + y := by rw [IntKind.wrap_i64]; omega
            have e3 : IntKind.i64.wrap (left - sh) = left - sh := by rw [IntKind.wrap_i64]; omega
            have e4 : IntKind.i64.wrap y = y := by rw [IntKind.wrap_i64]; omega
            have e5 : Hid (IntKind.i64.wrap ((n : Int) + 1) = n + 1) := Lib.hid (by rw [IntKind.wrap_i64]; omega)
            have e6 : Hid (IntKind.i64.wrap 2 = 2) := Lib.hid (by decide)
            have hc0x : w0.cell? ⟨gb, go + 1, none⟩ = some (.int .i64 x) := by
              obtain ⟨ad', e, h⟩ := Kd.at_int hC 1 (by omega) (by omega)
              cases e
              rw [Hx.out]; exact h
            obtain ⟨bl', hbl'⟩ : ∃ bl', bl' = (List.range n).foldl F ([0, 0, 0, 0, 0, 0, 0], least) := ⟨_, rfl⟩
            have HBr' : Hid (SB l (some ⟨gb, go, none⟩) c w0 b4 b5 b6 b7 bl' wr) := Lib.hid (by rw [hbl']; exact HBr.out)
            have Hbl := Lib.hid hbl'
            clear hbl'
            have HC : Hid (∀ W, SB l (some ⟨gb, go, none⟩) c w0 b4 b5 b6 b7 bl' W → Calls Tryz.prog 76 #[.agg #[.int .i64 s0, .int .i64 ((n : Int) + 1), .int .i64 s2, .int .i64 s3, .int .i64 s4, .int .i64 s5, .int .i64 s6], .int .i64 2, .int .i64 (cost + y), .int .i64 (left - sh), .pointer (some ⟨b4, 0, none⟩), .pointer (some ⟨b5, 0, none⟩), .pointer (some ⟨b6, 0, none⟩), .pointer (some ⟨b7, 0, none⟩)] W fun e w' =>
                e = .returned (.tuple #[]) ∧ SB l (some ⟨gb, go, none⟩) c w0 b4 b5 b6 b7 (settleF l f bl' [s0, (n : Int) + 1, s2, s3, s4, s5, s6] 2 (cost + y) (left - sh)) w' ∧ Keep2 b4 b5 W w') := Lib.hid (fun W hW =>
              ih 2 bl' [s0, (n : Int) + 1, s2, s3, s4, s5, s6] (cost + y) (left - sh) W (by omega) rfl (by omega) (by omega) (by omega) (by omega) (fun h => by omega) (fun _ => by obtain ⟨k, t, e, h1, h6⟩ := Hg.out; injection e with e _; subst e; exact ⟨k, _, rfl, h1, h6⟩) hW)
            have hst : Hid (F bl' n = settleF l f bl' [s0, (n : Int) + 1, s2, s3, s4, s5, s6] 2 (cost + y) (left - sh)) := Lib.hid (by rw [HF.out]; unfold settleStep; rw [← Hsh.out, if_pos hfit, ← Hx.out, ← Hy.out]; rfl)
            go_wp2_with fail
            obtain ⟨W2, hW2⟩ : ∃ W2, W2 = wr.alloc (.cells #[.int .i64 s0, .int .i64 ((n : Int) + 1), .int .i64 s2, .int .i64 s3, .int .i64 s4, .int .i64 s5, .int .i64 s6] 138) := ⟨_, rfl⟩
            have hb2 : Below wr.heap.size wr W2 := by rw [hW2]; exact below1 _ _
            have hK2 : W2.heap[wr.heap.size]? = some (.cells (vs [s0, (n : Int) + 1, s2, s3, s4, s5, s6]) 138 (0, 0)) := by rw [hW2]; exact blk_new wr _
            rw [← hW2]
            have HBd : Hid (SB l (some ⟨gb, go, none⟩) c w0 b4 b5 b6 b7 bl' W2.drew) := Lib.hid ((HBr'.out.carry hb2).carry ((Below.refl _ _).drew))
            have n4 := blk_lt HBr'.out.best
            have n5 := blk_lt HBr'.out.least
            obtain ⟨d1, d2, d3, d4, d5, d6, d7, d8, d9, d10⟩ := cell9 (HBr'.out.carry hb2) hK2 hc0x
            have HK2 := Lib.hid hK2
            have Hb2 := Lib.hid hb2
            clear hW2 cc6 cc7 p0 p1 p2 p3 p4 p5 p6 hcx hK2 hb2
            go_region_held3 (fun W => W.cell? ⟨b7, 0, none⟩ = some (.func (.func 76) #[] #[.pointer (some ⟨b4, 0, none⟩), .pointer (some ⟨b5, 0, none⟩), .pointer (some ⟨b6, 0, none⟩), .pointer (some ⟨b7, 0, none⟩)]) ∧ W.cell? ⟨b6, 0, none⟩ = some (.slice (some ⟨gb, go, none⟩) l.length c) ∧ W.cell? ⟨gb, go + 1, none⟩ = some (.int .i64 x) ∧
              W.cell? ⟨wr.heap.size, 0, none⟩ = some (.int .i64 s0) ∧ W.cell? ⟨wr.heap.size, 1, none⟩ = some (.int .i64 ((n : Int) + 1)) ∧ W.cell? ⟨wr.heap.size, 2, none⟩ = some (.int .i64 s2) ∧ W.cell? ⟨wr.heap.size, 3, none⟩ = some (.int .i64 s3) ∧ W.cell? ⟨wr.heap.size, 4, none⟩ = some (.int .i64 s4) ∧ W.cell? ⟨wr.heap.size, 5, none⟩ = some (.int .i64 s5) ∧ W.cell? ⟨wr.heap.size, 6, none⟩ = some (.int .i64 s6))
              (first | exact ⟨d1, d2, d3, d4, d5, d6, d7, d8, d9, d10⟩ | exact S9)
              ((go_at_call 76; rw [e6.out, e5.out, hye, e4, e2]; refine (HC.out _ HBd.out).mono ?_; rintro e w9 ⟨rfl, hB9, hk9⟩; have S9 := cell9 hB9 ((hk9.block _ (blk_lt HK2.out) (by omega) (by omega)).trans HK2.out) hc0x; have HB9 := Lib.hid hB9; have Hk9 := Lib.hid hk9; clear hB9 hk9))
            have hX9 : Hid (w9.heap[w.heap.size]? = some (.cells (vs [s0, s1, s2, s3, s4, s5, s6]) 138 (0, 0))) := Lib.hid (by
              have l0 := blk_lt HXr.out
              have l2 := Hb2.out.size
              have l4 := blk_lt HB.out.best
              have l5 := blk_lt HB.out.least
              exact (Hk9.out.block _ (Nat.lt_of_lt_of_le l0 l2) (by omega) (by omega)).trans ((Hb2.out.block _ l0).trans HXr.out))
            have hK9 : Hid (Keep2 b4 b5 w w9) := Lib.hid ((HKr.out.trans (.of_below Hb2.out)).trans ((Keep2.of_below ((Below.refl _ _).drew)).trans Hk9.out))
            go_wp2
            exact ⟨⟨n + 1, by omega, by simp, by rw [fold_range_succ, ← Hbl.out, hst.out]; exact HB9, hX9, hK9⟩, by simp [intOf]; omega⟩
          · have hst : Hid (F ((List.range n).foldl F ([0, 0, 0, 0, 0, 0, 0], least)) n = (List.range n).foldl F ([0, 0, 0, 0, 0, 0, 0], least)) := Lib.hid (by rw [HF.out]; unfold settleStep; rw [← Hsh.out, if_neg hfit])
            go_wp2
            exact ⟨⟨n + 1, by omega, by simp, by rw [fold_range_succ, hst.out]; exact HBr, HXr, HKr⟩, by simp [intOf]; omega⟩
        · obtain rfl : n = 6 := by omega
          go_wp2
          refine bodyPost_end (results_none rfl _ _ _) rfl ?_
          rw [hr.out]
          exact ⟨rfl, HBr.out, HKr.out⟩
    · injection hk with z0 hk
      subst z0
      have hn := eq_no k hk1 hk6 c1 c2 c3 c4 c5 c6
      have hlc : ¬ least ≤ cost := fun h => hq ⟨fun e => by injection e with e _; omega, h⟩
      clear hk hq
      rw [vse]
      go_enter Tryz.func76, Tryz.ntmps76
      go_wp2_with fail
      go_loopw [31] (fun iv wr => ∃ n : Nat, n ≤ 6 ∧ iv = .int .i64 n ∧ Hid (SB l (some ⟨gb, go, none⟩) c w0 b4 b5 b6 b7 ((List.range n).foldl F ([(k : Int), c1, c2, c3, c4, c5, c6], least)) wr) ∧ Hid (wr.heap[w.heap.size]? = some (.cells (vs [s0, s1, s2, s3, s4, s5, s6]) 138 (0, 0))) ∧ Hid (Keep2 b4 b5 w wr)) (fun iv _ => 6 - (intOf iv).toNat)
      case atStart => exact ⟨0, by omega, rfl, HW, HX, Lib.hid (.of_below (below1 _ _))⟩
      case round =>
        obtain ⟨n, hn6, rfl, HBr, HXr, HKr⟩ := hrel
        by_cases hlt : n < 6
        · obtain ⟨sh, hsh⟩ : ∃ sh, sh = shareN n := ⟨_, rfl⟩
          have hse : (64 : Int) / 2 ^ (n + 1) = sh := by rw [hsh]; exact shr_share n hlt
          have hs0 : 0 ≤ sh := by rw [hsh]; exact Int.natCast_nonneg _
          have Hsh := Lib.hid hsh
          clear hsh
          by_cases hfit : sh ≤ left
          · obtain ⟨ad, had, hcell⟩ := Kd.at_int (Kd.C_below hC HBr.out.below) 1 (by omega) (by omega)
            cases had
            have hlen1 : (1 : Int) < l.length := by omega
            obtain ⟨x, hx⟩ : ∃ x, x = rd l (1 : Nat) := ⟨_, rfl⟩
            have hxm := hlm x (by rw [hx, rd_nat _ _ (by omega)]; exact List.getElem_mem _)
            have hcx : wr.cell? ⟨gb, go + 1, none⟩ = some (.int .i64 x) := by rw [hx]; exact hcell
            have Hx := Lib.hid hx
            clear hcell hx
            have cc6 := box_cell HBr.out.often
            have cc7 := box_cell HBr.out.self
            obtain ⟨p0, p1, p2, p3, p4, p5, p6⟩ := cell_arr HXr.out
            obtain ⟨y, hy'⟩ : ∃ y, y = x * ((n : Int) + 1) := ⟨_, rfl⟩
            have hy0 : 0 ≤ y := by rw [hy']; exact Int.mul_nonneg hxm.1 (by omega)
            have hy6 : y ≤ 6000 := by rw [hy']; exact Int.le_trans (Int.mul_le_mul hxm.2 (show (n : Int) + 1 ≤ 6 by omega) (by omega) (by decide)) (by decide)
            have hye : x * ((n : Int) + 1) = y := hy'.symm
            have Hy := Lib.hid hy'
            clear hy'
            have e2 : IntKind.i64.wrap (cost + y) = cost + y := by rw [IntKind.wrap_i64]; omega
            have e3 : IntKind.i64.wrap (left - sh) = left - sh := by rw [IntKind.wrap_i64]; omega
            have e4 : IntKind.i64.wrap y = y := by rw [IntKind.wrap_i64]; omega
            have e5 : Hid (IntKind.i64.wrap ((n : Int) + 1) = n + 1) := Lib.hid (by rw [IntKind.wrap_i64]; omega)
            have e6 : Hid (IntKind.i64.wrap 2 = 2) := Lib.hid (by decide)
            have hc0x : w0.cell? ⟨gb, go + 1, none⟩ = some (.int .i64 x) := by
              obtain ⟨ad', e, h⟩ := Kd.at_int hC 1 (by omega) (by omega)
              cases e
              rw [Hx.out]; exact h
            obtain ⟨bl', hbl'⟩ : ∃ bl', bl' = (List.range n).foldl F ([(k : Int), c1, c2, c3, c4, c5, c6], least) := ⟨_, rfl⟩
            have HBr' : Hid (SB l (some ⟨gb, go, none⟩) c w0 b4 b5 b6 b7 bl' wr) := Lib.hid (by rw [hbl']; exact HBr.out)
            have Hbl := Lib.hid hbl'
            clear hbl'
            have HC : Hid (∀ W, SB l (some ⟨gb, go, none⟩) c w0 b4 b5 b6 b7 bl' W → Calls Tryz.prog 76 #[.agg #[.int .i64 s0, .int .i64 ((n : Int) + 1), .int .i64 s2, .int .i64 s3, .int .i64 s4, .int .i64 s5, .int .i64 s6], .int .i64 2, .int .i64 (cost + y), .int .i64 (left - sh), .pointer (some ⟨b4, 0, none⟩), .pointer (some ⟨b5, 0, none⟩), .pointer (some ⟨b6, 0, none⟩), .pointer (some ⟨b7, 0, none⟩)] W fun e w' =>
                e = .returned (.tuple #[]) ∧ SB l (some ⟨gb, go, none⟩) c w0 b4 b5 b6 b7 (settleF l f bl' [s0, (n : Int) + 1, s2, s3, s4, s5, s6] 2 (cost + y) (left - sh)) w' ∧ Keep2 b4 b5 W w') := Lib.hid (fun W hW =>
              ih 2 bl' [s0, (n : Int) + 1, s2, s3, s4, s5, s6] (cost + y) (left - sh) W (by omega) rfl (by omega) (by omega) (by omega) (by omega) (fun h => by omega) (fun _ => by obtain ⟨k, t, e, h1, h6⟩ := Hg.out; injection e with e _; subst e; exact ⟨k, _, rfl, h1, h6⟩) hW)
            have hst : Hid (F bl' n = settleF l f bl' [s0, (n : Int) + 1, s2, s3, s4, s5, s6] 2 (cost + y) (left - sh)) := Lib.hid (by rw [HF.out]; unfold settleStep; rw [← Hsh.out, if_pos hfit, ← Hx.out, ← Hy.out]; rfl)
            go_wp2_with fail
            obtain ⟨W2, hW2⟩ : ∃ W2, W2 = wr.alloc (.cells #[.int .i64 s0, .int .i64 ((n : Int) + 1), .int .i64 s2, .int .i64 s3, .int .i64 s4, .int .i64 s5, .int .i64 s6] 138) := ⟨_, rfl⟩
            have hb2 : Below wr.heap.size wr W2 := by rw [hW2]; exact below1 _ _
            have hK2 : W2.heap[wr.heap.size]? = some (.cells (vs [s0, (n : Int) + 1, s2, s3, s4, s5, s6]) 138 (0, 0)) := by rw [hW2]; exact blk_new wr _
            rw [← hW2]
            have HBd : Hid (SB l (some ⟨gb, go, none⟩) c w0 b4 b5 b6 b7 bl' W2.drew) := Lib.hid ((HBr'.out.carry hb2).carry ((Below.refl _ _).drew))
            have n4 := blk_lt HBr'.out.best
            have n5 := blk_lt HBr'.out.least
            obtain ⟨d1, d2, d3, d4, d5, d6, d7, d8, d9, d10⟩ := cell9 (HBr'.out.carry hb2) hK2 hc0x
            have HK2 := Lib.hid hK2
            have Hb2 := Lib.hid hb2
            clear hW2 cc6 cc7 p0 p1 p2 p3 p4 p5 p6 hcx hK2 hb2
            go_region_held3 (fun W => W.cell? ⟨b7, 0, none⟩ = some (.func (.func 76) #[] #[.pointer (some ⟨b4, 0, none⟩), .pointer (some ⟨b5, 0, none⟩), .pointer (some ⟨b6, 0, none⟩), .pointer (some ⟨b7, 0, none⟩)]) ∧ W.cell? ⟨b6, 0, none⟩ = some (.slice (some ⟨gb, go, none⟩) l.length c) ∧ W.cell? ⟨gb, go + 1, none⟩ = some (.int .i64 x) ∧
              W.cell? ⟨wr.heap.size, 0, none⟩ = some (.int .i64 s0) ∧ W.cell? ⟨wr.heap.size, 1, none⟩ = some (.int .i64 ((n : Int) + 1)) ∧ W.cell? ⟨wr.heap.size, 2, none⟩ = some (.int .i64 s2) ∧ W.cell? ⟨wr.heap.size, 3, none⟩ = some (.int .i64 s3) ∧ W.cell? ⟨wr.heap.size, 4, none⟩ = some (.int .i64 s4) ∧ W.cell? ⟨wr.heap.size, 5, none⟩ = some (.int .i64 s5) ∧ W.cell? ⟨wr.heap.size, 6, none⟩ = some (.int .i64 s6))
              (first | exact ⟨d1, d2, d3, d4, d5, d6, d7, d8, d9, d10⟩ | exact S9)
              ((go_at_call 76; rw [e6.out, e5.out, hye, e4, e2]; refine (HC.out _ HBd.out).mono ?_; rintro e w9 ⟨rfl, hB9, hk9⟩; have S9 := cell9 hB9 ((hk9.block _ (blk_lt HK2.out) (by omega) (by omega)).trans HK2.out) hc0x; have HB9 := Lib.hid hB9; have Hk9 := Lib.hid hk9; clear hB9 hk9))
            have hX9 : Hid (w9.heap[w.heap.size]? = some (.cells (vs [s0, s1, s2, s3, s4, s5, s6]) 138 (0, 0))) := Lib.hid (by
              have l0 := blk_lt HXr.out
              have l2 := Hb2.out.size
              have l4 := blk_lt HB.out.best
              have l5 := blk_lt HB.out.least
              exact (Hk9.out.block _ (Nat.lt_of_lt_of_le l0 l2) (by omega) (by omega)).trans ((Hb2.out.block _ l0).trans HXr.out))
            have hK9 : Hid (Keep2 b4 b5 w w9) := Lib.hid ((HKr.out.trans (.of_below Hb2.out)).trans ((Keep2.of_below ((Below.refl _ _).drew)).trans Hk9.out))
            go_wp2
            exact ⟨⟨n + 1, by omega, by simp, by rw [fold_range_succ, ← Hbl.out, hst.out]; exact HB9, hX9, hK9⟩, by simp [intOf]; omega⟩
          · have hst : Hid (F ((List.range n).foldl F ([(k : Int), c1, c2, c3, c4, c5, c6], least)) n = (List.range n).foldl F ([(k : Int), c1, c2, c3, c4, c5, c6], least)) := Lib.hid (by rw [HF.out]; unfold settleStep; rw [← Hsh.out, if_neg hfit])
            go_wp2
            exact ⟨⟨n + 1, by omega, by simp, by rw [fold_range_succ, hst.out]; exact HBr, HXr, HKr⟩, by simp [intOf]; omega⟩
        · obtain rfl : n = 6 := by omega
          go_wp2
          refine bodyPost_end (results_none rfl _ _ _) rfl ?_
          rw [hr.out]
          exact ⟨rfl, HBr.out, HKr.out⟩
end Go.Proofs.YtfnibmcenjiodaaGreatDoor.M
namespace Go.Proofs.YtfnibmcenjiodaaGreatDoor.M
open Go.Sort Go.Shelf Go.RowKit Go.Maps Go.Proofs.YtfnibmcenjiodaaGreatDoorW.PrintWords Go.Proofs.YtfnibmcenjiodaaGreatDoorW.PrintLast Go.Proofs.YtfnibmcenjiodaaGreatDoorW.PrintMore
attribute [local go_sem] Oper.semAt_some
set_option maxRecDepth 100000 in
set_option maxHeartbeats 4000000 in
theorem settle_s0 (l : List Int) (gb go : Nat) (c : Nat) (w0 : World) (b4 b5 b6 b7 : Nat) (f : Nat) (ih : SettleOk l (some ⟨gb, go, none⟩) c w0 b4 b5 b6 b7 f) (hC : Kd.C (Kd.int .i64) w0 (some ⟨gb, go, none⟩) l.length l) (hlm : ∀ x ∈ l, 0 ≤ x ∧ x ≤ 1000) (bl : List Int × Int) (s0 s1 s2 s3 s4 s5 s6 : Int) (cost left : Int) (w : World) (hif : 0 + (f + 1) = l.length) (h7 : l.length ≤ 7) (hc0 : 0 ≤ cost) (hc1 : cost ≤ 6000 * 0) (hl0 : 0 ≤ left) (hl1 : left ≤ 64) (hg : True) (hB : SB l (some ⟨gb, go, none⟩) c w0 b4 b5 b6 b7 bl w) :
    Calls Tryz.prog 76 #[.agg (vs [s0, s1, s2, s3, s4, s5, s6]), .int .i64 0, .int .i64 cost, .int .i64 left, .pointer (some ⟨b4, 0, none⟩), .pointer (some ⟨b5, 0, none⟩), .pointer (some ⟨b6, 0, none⟩), .pointer (some ⟨b7, 0, none⟩)] w fun e w' =>
      e = .returned (.tuple #[]) ∧ SB l (some ⟨gb, go, none⟩) c w0 b4 b5 b6 b7 (settleF l (f + 1) bl [s0, s1, s2, s3, s4, s5, s6] 0 cost left) w' ∧ Keep2 b4 b5 w w' := by
  have HB := Lib.hid hB
  have hw1 := hB.carry (below1 w (.cells (vs [s0, s1, s2, s3, s4, s5, s6]) 138))
  obtain ⟨b, least⟩ := bl
  have hgd := hB.good
  dsimp only at hgd
  obtain ⟨hg7, hgd⟩ := hgd
  obtain ⟨c0, c1, c2, c3, c4, c5, c6, rfl⟩ := seven hg7
  have vse : vs [s0, s1, s2, s3, s4, s5, s6] = #[.int .i64 s0, .int .i64 s1, .int .i64 s2, .int .i64 s3, .int .i64 s4, .int .i64 s5, .int .i64 s6] := rfl
  obtain ⟨q0, q1, q2, q3, q4, q5, q6⟩ := cell_arr hw1.best
  have hle := box_cell hw1.least
  have hof := box_cell hw1.often
  have hil : ¬ (0 : Int) = l.length := by omega
  have HW := Lib.hid hw1
  have HX : Hid ((w.alloc (.cells (vs [s0, s1, s2, s3, s4, s5, s6]) 138)).heap[w.heap.size]? = some (.cells (vs [s0, s1, s2, s3, s4, s5, s6]) 138 (0, 0))) := Lib.hid (blk_new w _)
  rw [vse] at q0 q1 q2 q3 q4 q5 q6 hle hof
  have Hg := Lib.hid hg
  clear hw1 hB hg
  by_cases hq : [c0, c1, c2, c3, c4, c5, c6] ≠ zeros7 ∧ least ≤ cost
  · have hr : Hid (settleF l (f + 1) ([c0, c1, c2, c3, c4, c5, c6], least) [s0, s1, s2, s3, s4, s5, s6] 0 cost left = ([c0, c1, c2, c3, c4, c5, c6], least)) := Lib.hid (settle_none hq.1 hq.2)
    rcases hgd with hz | ⟨k, t, hk, hk1, hk6⟩
    · exact absurd hz hq.1
    · injection hk with z0 hk
      subst z0
      have hn := eq_no k hk1 hk6 c1 c2 c3 c4 c5 c6
      have hlc := hq.2
      clear hk hq
      rw [vse]
      go_enter Tryz.func76, Tryz.ntmps76
      go_wp2_with fail
      refine bodyPost_ret (results_none rfl _ _ _) rfl ?_
      rw [hr.out]
      exact ⟨rfl, HW.out, .of_below (below1 _ _)⟩
  · have hr := Lib.hid (settleF_succ l f ([c0, c1, c2, c3, c4, c5, c6], least) [s0, s1, s2, s3, s4, s5, s6] 0 cost left hq)
    obtain ⟨F, hF⟩ : ∃ F, F = settleStep l f [s0, s1, s2, s3, s4, s5, s6] 0 cost left := ⟨_, rfl⟩
    rw [← hF] at hr
    have HF := Lib.hid hF
    clear hF
    have main : Hid (∀ W1 : World, True) := Lib.hid (fun _ => trivial)
    rcases hgd with hz | ⟨k, t, hk, hk1, hk6⟩
    · injection hz with z0 hz; injection hz with z1 hz; injection hz with z2 hz; injection hz with z3 hz; injection hz with z4 hz; injection hz with z5 hz; injection hz with z6 hz
      subst z0 z1 z2 z3 z4 z5 z6
      clear hz hq
      have hy := eq_yes
      rw [vse]
      go_enter Tryz.func76, Tryz.ntmps76
      go_wp2_with fail
      go_loopw [31] (fun iv wr => ∃ n : Nat, n ≤ 6 ∧ iv = .int .i64 n ∧ Hid (SB l (some ⟨gb, go, none⟩) c w0 b4 b5 b6 b7 ((List.range n).foldl F ([0, 0, 0, 0, 0, 0, 0], least)) wr) ∧ Hid (wr.heap[w.heap.size]? = some (.cells (vs [s0, s1, s2, s3, s4, s5, s6]) 138 (0, 0))) ∧ Hid (Keep2 b4 b5 w wr)) (fun iv _ => 6 - (intOf iv).toNat)
      case atStart => exact ⟨0, by omega, rfl, HW, HX, Lib.hid (.of_below (below1 _ _))⟩
      case round =>
        obtain ⟨n, hn, rfl, HBr, HXr, HKr⟩ := hrel
        by_cases hlt : n < 6
        · obtain ⟨sh, hsh⟩ : ∃ sh, sh = shareN n := ⟨_, rfl⟩
          have hse : (64 : Int) / 2 ^ (n + 1) = sh := by rw [hsh]; exact shr_share n hlt
          have hs0 : 0 ≤ sh := by rw [hsh]; exact Int.natCast_nonneg _
          have Hsh := Lib.hid hsh
          clear hsh
          by_cases hfit : sh ≤ left
          · obtain ⟨ad, had, hcell⟩ := Kd.at_int (Kd.C_below hC HBr.out.below) 0 (by omega) (by omega)
            cases had
            have hlen1 : 0 < l.length := by omega
            obtain ⟨x, hx⟩ : ∃ x, x = rd l (0 : Nat) := ⟨_, rfl⟩
            have hxm := hlm x (by rw [hx, rd_nat _ _ (by omega)]; exact List.getElem_mem _)
            have hcx : wr.cell? ⟨gb, go, none⟩ = some (.int .i64 x) := by rw [hx]; exact hcell
            have Hx := Lib.hid hx
            clear hcell hx
            have cc6 := box_cell HBr.out.often
            have cc7 := box_cell HBr.out.self
            obtain ⟨p0, p1, p2, p3, p4, p5, p6⟩ := cell_arr HXr.out
            obtain ⟨y, hy'⟩ : ∃ y, y = x * ((n : Int) + 1) := ⟨_, rfl⟩
            have hy0 : 0 ≤ y := by rw [hy']; exact Int.mul_nonneg hxm.1 (by omega)
            have hy6 : y ≤ 6000 := by rw [hy']; exact Int.le_trans (Int.mul_le_mul hxm.2 (show (n : Int) + 1 ≤ 6 by omega) (by omega) (by decide)) (by decide)
            have hye : x * ((n : Int) + 1) = y := hy'.symm
            have Hy := Lib.hid hy'
            clear hy'
            have e2 : IntKind.i64.wrap (cost + y) = cost + y := by rw [IntKind.wrap_i64]; omega
            have e3 : IntKind.i64.wrap (left - sh) = left - sh := by rw [IntKind.wrap_i64]; omega
            have e4 : IntKind.i64.wrap y = y := by rw [IntKind.wrap_i64]; omega
            have e5 : Hid (IntKind.i64.wrap ((n : Int) + 1) = n + 1) := Lib.hid (by rw [IntKind.wrap_i64]; omega)
            have e6 : Hid (IntKind.i64.wrap 1 = 1) := Lib.hid (by decide)
            have hc0x : w0.cell? ⟨gb, go, none⟩ = some (.int .i64 x) := by
              obtain ⟨ad', e, h⟩ := Kd.at_int hC 0 (by omega) (by omega)
              cases e
              rw [Hx.out]; exact h
            obtain ⟨bl', hbl'⟩ : ∃ bl', bl' = (List.range n).foldl F ([0, 0, 0, 0, 0, 0, 0], least) := ⟨_, rfl⟩
            have HBr' : Hid (SB l (some ⟨gb, go, none⟩) c w0 b4 b5 b6 b7 bl' wr) := Lib.hid (by rw [hbl']; exact HBr.out)
            have Hbl := Lib.hid hbl'
            clear hbl'
            have HC : Hid (∀ W, SB l (some ⟨gb, go, none⟩) c w0 b4 b5 b6 b7 bl' W → Calls Tryz.prog 76 #[.agg #[.int .i64 ((n : Int) + 1), .int .i64 s1, .int .i64 s2, .int .i64 s3, .int .i64 s4, .int .i64 s5, .int .i64 s6], .int .i64 1, .int .i64 (cost + y), .int .i64 (left - sh), .pointer (some ⟨b4, 0, none⟩), .pointer (some ⟨b5, 0, none⟩), .pointer (some ⟨b6, 0, none⟩), .pointer (some ⟨b7, 0, none⟩)] W fun e w' =>
                e = .returned (.tuple #[]) ∧ SB l (some ⟨gb, go, none⟩) c w0 b4 b5 b6 b7 (settleF l f bl' [(n : Int) + 1, s1, s2, s3, s4, s5, s6] 1 (cost + y) (left - sh)) w' ∧ Keep2 b4 b5 W w') := Lib.hid (fun W hW =>
              ih 1 bl' [(n : Int) + 1, s1, s2, s3, s4, s5, s6] (cost + y) (left - sh) W (by omega) rfl (by omega) (by omega) (by omega) (by omega) (fun h => by omega) (fun _ => ⟨n + 1, _, rfl, by omega, by omega⟩) hW)
            have hst : Hid (F bl' n = settleF l f bl' [(n : Int) + 1, s1, s2, s3, s4, s5, s6] 1 (cost + y) (left - sh)) := Lib.hid (by rw [HF.out]; unfold settleStep; rw [← Hsh.out, if_pos hfit, ← Hx.out, ← Hy.out]; rfl)
            go_wp2_with fail
            obtain ⟨W2, hW2⟩ : ∃ W2, W2 = wr.alloc (.cells #[.int .i64 ((n : Int) + 1), .int .i64 s1, .int .i64 s2, .int .i64 s3, .int .i64 s4, .int .i64 s5, .int .i64 s6] 138) := ⟨_, rfl⟩
            have hb2 : Below wr.heap.size wr W2 := by rw [hW2]; exact below1 _ _
            have hK2 : W2.heap[wr.heap.size]? = some (.cells (vs [(n : Int) + 1, s1, s2, s3, s4, s5, s6]) 138 (0, 0)) := by rw [hW2]; exact blk_new wr _
            rw [← hW2]
            have HBd : Hid (SB l (some ⟨gb, go, none⟩) c w0 b4 b5 b6 b7 bl' W2.drew) := Lib.hid ((HBr'.out.carry hb2).carry ((Below.refl _ _).drew))
            have n4 := blk_lt HBr'.out.best
            have n5 := blk_lt HBr'.out.least
            obtain ⟨d1, d2, d3, d4, d5, d6, d7, d8, d9, d10⟩ := cell9 (HBr'.out.carry hb2) hK2 hc0x
            have HK2 := Lib.hid hK2
            have Hb2 := Lib.hid hb2
            clear hW2 cc6 cc7 p0 p1 p2 p3 p4 p5 p6 hcx hK2 hb2
            go_region_held3 (fun W => W.cell? ⟨b7, 0, none⟩ = some (.func (.func 76) #[] #[.pointer (some ⟨b4, 0, none⟩), .pointer (some ⟨b5, 0, none⟩), .pointer (some ⟨b6, 0, none⟩), .pointer (some ⟨b7, 0, none⟩)]) ∧ W.cell? ⟨b6, 0, none⟩ = some (.slice (some ⟨gb, go, none⟩) l.length c) ∧ W.cell? ⟨gb, go, none⟩ = some (.int .i64 x) ∧
              W.cell? ⟨wr.heap.size, 0, none⟩ = some (.int .i64 ((n : Int) + 1)) ∧ W.cell? ⟨wr.heap.size, 1, none⟩ = some (.int .i64 s1) ∧ W.cell? ⟨wr.heap.size, 2, none⟩ = some (.int .i64 s2) ∧ W.cell? ⟨wr.heap.size, 3, none⟩ = some (.int .i64 s3) ∧ W.cell? ⟨wr.heap.size, 4, none⟩ = some (.int .i64 s4) ∧ W.cell? ⟨wr.heap.size, 5, none⟩ = some (.int .i64 s5) ∧ W.cell? ⟨wr.heap.size, 6, none⟩ = some (.int .i64 s6))
              (first | exact ⟨d1, d2, d3, d4, d5, d6, d7, d8, d9, d10⟩ | exact S9)
              ((go_at_call 76; try simp only [e6.out, e5.out, hye, e4, e2]; refine (HC.out _ HBd.out).mono ?_; rintro e w9 ⟨rfl, hB9, hk9⟩; have S9 := cell9 hB9 ((hk9.block _ (blk_lt HK2.out) (by omega) (by omega)).trans HK2.out) hc0x; have HB9 := Lib.hid hB9; have Hk9 := Lib.hid hk9; clear hB9 hk9))
            have hX9 : Hid (w9.heap[w.heap.size]? = some (.cells (vs [s0, s1, s2, s3, s4, s5, s6]) 138 (0, 0))) := Lib.hid (by
              have l0 := blk_lt HXr.out
              have l2 := Hb2.out.size
              have l4 := blk_lt HB.out.best
              have l5 := blk_lt HB.out.least
              exact (Hk9.out.block _ (Nat.lt_of_lt_of_le l0 l2) (by omega) (by omega)).trans ((Hb2.out.block _ l0).trans HXr.out))
            have hK9 : Hid (Keep2 b4 b5 w w9) := Lib.hid ((HKr.out.trans (.of_below Hb2.out)).trans ((Keep2.of_below ((Below.refl _ _).drew)).trans Hk9.out))
            go_wp2
            exact ⟨⟨n + 1, by omega, by simp, by rw [fold_range_succ, ← Hbl.out, hst.out]; exact HB9, hX9, hK9⟩, by simp [intOf]; omega⟩
          · have hst : Hid (F ((List.range n).foldl F ([0, 0, 0, 0, 0, 0, 0], least)) n = (List.range n).foldl F ([0, 0, 0, 0, 0, 0, 0], least)) := Lib.hid (by rw [HF.out]; unfold settleStep; rw [← Hsh.out, if_neg hfit])
            go_wp2
            exact ⟨⟨n + 1, by omega, by simp, by rw [fold_range_succ, hst.out]; exact HBr, HXr, HKr⟩, by simp [intOf]; omega⟩
        · obtain rfl : n = 6 := by omega
          go_wp2
          refine bodyPost_end (results_none rfl _ _ _) rfl ?_
          rw [hr.out]
          exact ⟨rfl, HBr.out, HKr.out⟩
    · injection hk with z0 hk
      subst z0
      have hn := eq_no k hk1 hk6 c1 c2 c3 c4 c5 c6
      have hlc : ¬ least ≤ cost := fun h => hq ⟨fun e => by injection e with e _; omega, h⟩
      clear hk hq
      rw [vse]
      go_enter Tryz.func76, Tryz.ntmps76
      go_wp2_with fail
      go_loopw [31] (fun iv wr => ∃ n : Nat, n ≤ 6 ∧ iv = .int .i64 n ∧ Hid (SB l (some ⟨gb, go, none⟩) c w0 b4 b5 b6 b7 ((List.range n).foldl F ([(k : Int), c1, c2, c3, c4, c5, c6], least)) wr) ∧ Hid (wr.heap[w.heap.size]? = some (.cells (vs [s0, s1, s2, s3, s4, s5, s6]) 138 (0, 0))) ∧ Hid (Keep2 b4 b5 w wr)) (fun iv _ => 6 - (intOf iv).toNat)
      case atStart => exact ⟨0, by omega, rfl, HW, HX, Lib.hid (.of_below (below1 _ _))⟩
      case round =>
        obtain ⟨n, hn6, rfl, HBr, HXr, HKr⟩ := hrel
        by_cases hlt : n < 6
        · obtain ⟨sh, hsh⟩ : ∃ sh, sh = shareN n := ⟨_, rfl⟩
          have hse : (64 : Int) / 2 ^ (n + 1) = sh := by rw [hsh]; exact shr_share n hlt
          have hs0 : 0 ≤ sh := by rw [hsh]; exact Int.natCast_nonneg _
          have Hsh := Lib.hid hsh
          clear hsh
          by_cases hfit : sh ≤ left
          · obtain ⟨ad, had, hcell⟩ := Kd.at_int (Kd.C_below hC HBr.out.below) 0 (by omega) (by omega)
            cases had
            have hlen1 : 0 < l.length := by omega
            obtain ⟨x, hx⟩ : ∃ x, x = rd l (0 : Nat) := ⟨_, rfl⟩
            have hxm := hlm x (by rw [hx, rd_nat _ _ (by omega)]; exact List.getElem_mem _)
            have hcx : wr.cell? ⟨gb, go, none⟩ = some (.int .i64 x) := by rw [hx]; exact hcell
            have Hx := Lib.hid hx
            clear hcell hx
            have cc6 := box_cell HBr.out.often
            have cc7 := box_cell HBr.out.self
            obtain ⟨p0, p1, p2, p3, p4, p5, p6⟩ := cell_arr HXr.out
            obtain ⟨y, hy'⟩ : ∃ y, y = x * ((n : Int) + 1) := ⟨_, rfl⟩
            have hy0 : 0 ≤ y := by rw [hy']; exact Int.mul_nonneg hxm.1 (by omega)
            have hy6 : y ≤ 6000 := by rw [hy']; exact Int.le_trans (Int.mul_le_mul hxm.2 (show (n : Int) + 1 ≤ 6 by omega) (by omega) (by decide)) (by decide)
            have hye : x * ((n : Int) + 1) = y := hy'.symm
            have Hy := Lib.hid hy'
            clear hy'
            have e2 : IntKind.i64.wrap (cost + y) = cost + y := by rw [IntKind.wrap_i64]; omega
            have e3 : IntKind.i64.wrap (left - sh) = left - sh := by rw [IntKind.wrap_i64]; omega
            have e4 : IntKind.i64.wrap y = y := by rw [IntKind.wrap_i64]; omega
            have e5 : Hid (IntKind.i64.wrap ((n : Int) + 1) = n + 1) := Lib.hid (by rw [IntKind.wrap_i64]; omega)
            have e6 : Hid (IntKind.i64.wrap 1 = 1) := Lib.hid (by decide)
            have hc0x : w0.cell? ⟨gb, go, none⟩ = some (.int .i64 x) := by
              obtain ⟨ad', e, h⟩ := Kd.at_int hC 0 (by omega) (by omega)
              cases e
              rw [Hx.out]; exact h
            obtain ⟨bl', hbl'⟩ : ∃ bl', bl' = (List.range n).foldl F ([(k : Int), c1, c2, c3, c4, c5, c6], least) := ⟨_, rfl⟩
            have HBr' : Hid (SB l (some ⟨gb, go, none⟩) c w0 b4 b5 b6 b7 bl' wr) := Lib.hid (by rw [hbl']; exact HBr.out)
            have Hbl := Lib.hid hbl'
            clear hbl'
            have HC : Hid (∀ W, SB l (some ⟨gb, go, none⟩) c w0 b4 b5 b6 b7 bl' W → Calls Tryz.prog 76 #[.agg #[.int .i64 ((n : Int) + 1), .int .i64 s1, .int .i64 s2, .int .i64 s3, .int .i64 s4, .int .i64 s5, .int .i64 s6], .int .i64 1, .int .i64 (cost + y), .int .i64 (left - sh), .pointer (some ⟨b4, 0, none⟩), .pointer (some ⟨b5, 0, none⟩), .pointer (some ⟨b6, 0, none⟩), .pointer (some ⟨b7, 0, none⟩)] W fun e w' =>
                e = .returned (.tuple #[]) ∧ SB l (some ⟨gb, go, none⟩) c w0 b4 b5 b6 b7 (settleF l f bl' [(n : Int) + 1, s1, s2, s3, s4, s5, s6] 1 (cost + y) (left - sh)) w' ∧ Keep2 b4 b5 W w') := Lib.hid (fun W hW =>
              ih 1 bl' [(n : Int) + 1, s1, s2, s3, s4, s5, s6] (cost + y) (left - sh) W (by omega) rfl (by omega) (by omega) (by omega) (by omega) (fun h => by omega) (fun _ => ⟨n + 1, _, rfl, by omega, by omega⟩) hW)
            have hst : Hid (F bl' n = settleF l f bl' [(n : Int) + 1, s1, s2, s3, s4, s5, s6] 1 (cost + y) (left - sh)) := Lib.hid (by rw [HF.out]; unfold settleStep; rw [← Hsh.out, if_pos hfit, ← Hx.out, ← Hy.out]; rfl)
            go_wp2_with fail
            obtain ⟨W2, hW2⟩ : ∃ W2, W2 = wr.alloc (.cells #[.int .i64 ((n : Int) + 1), .int .i64 s1, .int .i64 s2, .int .i64 s3, .int .i64 s4, .int .i64 s5, .int .i64 s6] 138) := ⟨_, rfl⟩
            have hb2 : Below wr.heap.size wr W2 := by rw [hW2]; exact below1 _ _
            have hK2 : W2.heap[wr.heap.size]? = some (.cells (vs [(n : Int) + 1, s1, s2, s3, s4, s5, s6]) 138 (0, 0)) := by rw [hW2]; exact blk_new wr _
            rw [← hW2]
            have HBd : Hid (SB l (some ⟨gb, go, none⟩) c w0 b4 b5 b6 b7 bl' W2.drew) := Lib.hid ((HBr'.out.carry hb2).carry ((Below.refl _ _).drew))
            have n4 := blk_lt HBr'.out.best
            have n5 := blk_lt HBr'.out.least
            obtain ⟨d1, d2, d3, d4, d5, d6, d7, d8, d9, d10⟩ := cell9 (HBr'.out.carry hb2) hK2 hc0x
            have HK2 := Lib.hid hK2
            have Hb2 := Lib.hid hb2
            clear hW2 cc6 cc7 p0 p1 p2 p3 p4 p5 p6 hcx hK2 hb2
            go_region_held3 (fun W => W.cell? ⟨b7, 0, none⟩ = some (.func (.func 76) #[] #[.pointer (some ⟨b4, 0, none⟩), .pointer (some ⟨b5, 0, none⟩), .pointer (some ⟨b6, 0, none⟩), .pointer (some ⟨b7, 0, none⟩)]) ∧ W.cell? ⟨b6, 0, none⟩ = some (.slice (some ⟨gb, go, none⟩) l.length c) ∧ W.cell? ⟨gb, go, none⟩ = some (.int .i64 x) ∧
              W.cell? ⟨wr.heap.size, 0, none⟩ = some (.int .i64 ((n : Int) + 1)) ∧ W.cell? ⟨wr.heap.size, 1, none⟩ = some (.int .i64 s1) ∧ W.cell? ⟨wr.heap.size, 2, none⟩ = some (.int .i64 s2) ∧ W.cell? ⟨wr.heap.size, 3, none⟩ = some (.int .i64 s3) ∧ W.cell? ⟨wr.heap.size, 4, none⟩ = some (.int .i64 s4) ∧ W.cell? ⟨wr.heap.size, 5, none⟩ = some (.int .i64 s5) ∧ W.cell? ⟨wr.heap.size, 6, none⟩ = some (.int .i64 s6))
              (first | exact ⟨d1, d2, d3, d4, d5, d6, d7, d8, d9, d10⟩ | exact S9)
              ((go_at_call 76; try simp only [e6.out, e5.out, hye, e4, e2]; refine (HC.out _ HBd.out).mono ?_; rintro e w9 ⟨rfl, hB9, hk9⟩; have S9 := cell9 hB9 ((hk9.block _ (blk_lt HK2.out) (by omega) (by omega)).trans HK2.out) hc0x; have HB9 := Lib.hid hB9; have Hk9 := Lib.hid hk9; clear hB9 hk9))
            have hX9 : Hid (w9.heap[w.heap.size]? = some (.cells (vs [s0, s1, s2, s3, s4, s5, s6]) 138 (0, 0))) := Lib.hid (by
              have l0 := blk_lt HXr.out
              have l2 := Hb2.out.size
              have l4 := blk_lt HB.out.best
              have l5 := blk_lt HB.out.least
              exact (Hk9.out.block _ (Nat.lt_of_lt_of_le l0 l2) (by omega) (by omega)).trans ((Hb2.out.block _ l0).trans HXr.out))
            have hK9 : Hid (Keep2 b4 b5 w w9) := Lib.hid ((HKr.out.trans (.of_below Hb2.out)).trans ((Keep2.of_below ((Below.refl _ _).drew)).trans Hk9.out))
            go_wp2
            exact ⟨⟨n + 1, by omega, by simp, by rw [fold_range_succ, ← Hbl.out, hst.out]; exact HB9, hX9, hK9⟩, by simp [intOf]; omega⟩
          · have hst : Hid (F ((List.range n).foldl F ([(k : Int), c1, c2, c3, c4, c5, c6], least)) n = (List.range n).foldl F ([(k : Int), c1, c2, c3, c4, c5, c6], least)) := Lib.hid (by rw [HF.out]; unfold settleStep; rw [← Hsh.out, if_neg hfit])
            go_wp2
            exact ⟨⟨n + 1, by omega, by simp, by rw [fold_range_succ, hst.out]; exact HBr, HXr, HKr⟩, by simp [intOf]; omega⟩
        · obtain rfl : n = 6 := by omega
          go_wp2
          refine bodyPost_end (results_none rfl _ _ _) rfl ?_
          rw [hr.out]
          exact ⟨rfl, HBr.out, HKr.out⟩
set_option maxRecDepth 100000 in
set_option maxHeartbeats 4000000 in
theorem settle_s2 (l : List Int) (gb go : Nat) (c : Nat) (w0 : World) (b4 b5 b6 b7 : Nat) (f : Nat) (ih : SettleOk l (some ⟨gb, go, none⟩) c w0 b4 b5 b6 b7 f) (hC : Kd.C (Kd.int .i64) w0 (some ⟨gb, go, none⟩) l.length l) (hlm : ∀ x ∈ l, 0 ≤ x ∧ x ≤ 1000) (bl : List Int × Int) (s0 s1 s2 s3 s4 s5 s6 : Int) (cost left : Int) (w : World) (hif : 2 + (f + 1) = l.length) (h7 : l.length ≤ 7) (hc0 : 0 ≤ cost) (hc1 : cost ≤ 6000 * 2) (hl0 : 0 ≤ left) (hl1 : left ≤ 64) (hg : ∃ k t, [s0, s1, s2, s3, s4, s5, s6] = ((k : Nat) : Int) :: t ∧ 1 ≤ k ∧ k ≤ 6) (hB : SB l (some ⟨gb, go, none⟩) c w0 b4 b5 b6 b7 bl w) :
    Calls Tryz.prog 76 #[.agg (vs [s0, s1, s2, s3, s4, s5, s6]), .int .i64 2, .int .i64 cost, .int .i64 left, .pointer (some ⟨b4, 0, none⟩), .pointer (some ⟨b5, 0, none⟩), .pointer (some ⟨b6, 0, none⟩), .pointer (some ⟨b7, 0, none⟩)] w fun e w' =>
      e = .returned (.tuple #[]) ∧ SB l (some ⟨gb, go, none⟩) c w0 b4 b5 b6 b7 (settleF l (f + 1) bl [s0, s1, s2, s3, s4, s5, s6] 2 cost left) w' ∧ Keep2 b4 b5 w w' := by
  have HB := Lib.hid hB
  have hw1 := hB.carry (below1 w (.cells (vs [s0, s1, s2, s3, s4, s5, s6]) 138))
  obtain ⟨b, least⟩ := bl
  have hgd := hB.good
  dsimp only at hgd
  obtain ⟨hg7, hgd⟩ := hgd
  obtain ⟨c0, c1, c2, c3, c4, c5, c6, rfl⟩ := seven hg7
  have vse : vs [s0, s1, s2, s3, s4, s5, s6] = #[.int .i64 s0, .int .i64 s1, .int .i64 s2, .int .i64 s3, .int .i64 s4, .int .i64 s5, .int .i64 s6] := rfl
  obtain ⟨q0, q1, q2, q3, q4, q5, q6⟩ := cell_arr hw1.best
  have hle := box_cell hw1.least
  have hof := box_cell hw1.often
  have hil : ¬ (2 : Int) = l.length := by omega
  have HW := Lib.hid hw1
  have HX : Hid ((w.alloc (.cells (vs [s0, s1, s2, s3, s4, s5, s6]) 138)).heap[w.heap.size]? = some (.cells (vs [s0, s1, s2, s3, s4, s5, s6]) 138 (0, 0))) := Lib.hid (blk_new w _)
  rw [vse] at q0 q1 q2 q3 q4 q5 q6 hle hof
  have Hg := Lib.hid hg
  clear hw1 hB hg
  by_cases hq : [c0, c1, c2, c3, c4, c5, c6] ≠ zeros7 ∧ least ≤ cost
  · have hr : Hid (settleF l (f + 1) ([c0, c1, c2, c3, c4, c5, c6], least) [s0, s1, s2, s3, s4, s5, s6] 2 cost left = ([c0, c1, c2, c3, c4, c5, c6], least)) := Lib.hid (settle_none hq.1 hq.2)
    rcases hgd with hz | ⟨k, t, hk, hk1, hk6⟩
    · exact absurd hz hq.1
    · injection hk with z0 hk
      subst z0
      have hn := eq_no k hk1 hk6 c1 c2 c3 c4 c5 c6
      have hlc := hq.2
      clear hk hq
      rw [vse]
      go_enter Tryz.func76, Tryz.ntmps76
      go_wp2_with fail
      refine bodyPost_ret (results_none rfl _ _ _) rfl ?_
      rw [hr.out]
      exact ⟨rfl, HW.out, .of_below (below1 _ _)⟩
  · have hr := Lib.hid (settleF_succ l f ([c0, c1, c2, c3, c4, c5, c6], least) [s0, s1, s2, s3, s4, s5, s6] 2 cost left hq)
    obtain ⟨F, hF⟩ : ∃ F, F = settleStep l f [s0, s1, s2, s3, s4, s5, s6] 2 cost left := ⟨_, rfl⟩
    rw [← hF] at hr
    have HF := Lib.hid hF
    clear hF
    have main : Hid (∀ W1 : World, True) := Lib.hid (fun _ => trivial)
    rcases hgd with hz | ⟨k, t, hk, hk1, hk6⟩
    · injection hz with z0 hz; injection hz with z1 hz; injection hz with z2 hz; injection hz with z3 hz; injection hz with z4 hz; injection hz with z5 hz; injection hz with z6 hz
      subst z0 z1 z2 z3 z4 z5 z6
      clear hz hq
      have hy := eq_yes
      rw [vse]
      go_enter Tryz.func76, Tryz.ntmps76
      go_wp2_with fail
      go_loopw [31] (fun iv wr => ∃ n : Nat, n ≤ 6 ∧ iv = .int .i64 n ∧ Hid (SB l (some ⟨gb, go, none⟩) c w0 b4 b5 b6 b7 ((List.range n).foldl F ([0, 0, 0, 0, 0, 0, 0], least)) wr) ∧ Hid (wr.heap[w.heap.size]? = some (.cells (vs [s0, s1, s2, s3, s4, s5, s6]) 138 (0, 0))) ∧ Hid (Keep2 b4 b5 w wr)) (fun iv _ => 6 - (intOf iv).toNat)
      case atStart => exact ⟨0, by omega, rfl, HW, HX, Lib.hid (.of_below (below1 _ _))⟩
      case round =>
        obtain ⟨n, hn, rfl, HBr, HXr, HKr⟩ := hrel
        by_cases hlt : n < 6
        · obtain ⟨sh, hsh⟩ : ∃ sh, sh = shareN n := ⟨_, rfl⟩
          have hse : (64 : Int) / 2 ^ (n + 1) = sh := by rw [hsh]; exact shr_share n hlt
          have hs0 : 0 ≤ sh := by rw [hsh]; exact Int.natCast_nonneg _
          have Hsh := Lib.hid hsh
          clear hsh
          by_cases hfit : sh ≤ left
          · obtain ⟨ad, had, hcell⟩ := Kd.at_int (Kd.C_below hC HBr.out.below) 2 (by omega) (by omega)
            cases had
            have hlen1 : (2 : Int) < l.length := by omega
            obtain ⟨x, hx⟩ : ∃ x, x = rd l (2 : Nat) := ⟨_, rfl⟩
            have hxm := hlm x (by rw [hx, rd_nat _ _ (by omega)]; exact List.getElem_mem _)
            have hcx : wr.cell? ⟨gb, go + 2, none⟩ = some (.int .i64 x) := by rw [hx]; exact hcell
            have Hx := Lib.hid hx
            clear hcell hx
            have cc6 := box_cell HBr.out.often
            have cc7 := box_cell HBr.out.self
            obtain ⟨p0, p1, p2, p3, p4, p5, p6⟩ := cell_arr HXr.out
            obtain ⟨y, hy'⟩ : ∃ y, y = x * ((n : Int) + 1) := ⟨_, rfl⟩
            have hy0 : 0 ≤ y := by rw [hy']; exact Int.mul_nonneg hxm.1 (by omega)
            have hy6 : y ≤ 6000 := by rw [hy']; exact Int.le_trans (Int.mul_le_mul hxm.2 (show (n : Int) + 1 ≤ 6 by omega) (by omega) (by decide)) (by decide)
            have hye : x * ((n : Int) + 1) = y := hy'.symm
            have Hy := Lib.hid hy'
            clear hy'
            have e2 : IntKind.i64.wrap (cost + y) = cost + y := by rw [IntKind.wrap_i64]; omega
            have e3 : IntKind.i64.wrap (left - sh) = left - sh := by rw [IntKind.wrap_i64]; omega
            have e4 : IntKind.i64.wrap y = y := by rw [IntKind.wrap_i64]; omega
            have e5 : Hid (IntKind.i64.wrap ((n : Int) + 1) = n + 1) := Lib.hid (by rw [IntKind.wrap_i64]; omega)
            have e6 : Hid (IntKind.i64.wrap 3 = 3) := Lib.hid (by decide)
            have hc0x : w0.cell? ⟨gb, go + 2, none⟩ = some (.int .i64 x) := by
              obtain ⟨ad', e, h⟩ := Kd.at_int hC 2 (by omega) (by omega)
              cases e
              rw [Hx.out]; exact h
            obtain ⟨bl', hbl'⟩ : ∃ bl', bl' = (List.range n).foldl F ([0, 0, 0, 0, 0, 0, 0], least) := ⟨_, rfl⟩
            have HBr' : Hid (SB l (some ⟨gb, go, none⟩) c w0 b4 b5 b6 b7 bl' wr) := Lib.hid (by rw [hbl']; exact HBr.out)
            have Hbl := Lib.hid hbl'
            clear hbl'
            have HC : Hid (∀ W, SB l (some ⟨gb, go, none⟩) c w0 b4 b5 b6 b7 bl' W → Calls Tryz.prog 76 #[.agg #[.int .i64 s0, .int .i64 s1, .int .i64 ((n : Int) + 1), .int .i64 s3, .int .i64 s4, .int .i64 s5, .int .i64 s6], .int .i64 3, .int .i64 (cost + y), .int .i64 (left - sh), .pointer (some ⟨b4, 0, none⟩), .pointer (some ⟨b5, 0, none⟩), .pointer (some ⟨b6, 0, none⟩), .pointer (some ⟨b7, 0, none⟩)] W fun e w' =>
                e = .returned (.tuple #[]) ∧ SB l (some ⟨gb, go, none⟩) c w0 b4 b5 b6 b7 (settleF l f bl' [s0, s1, (n : Int) + 1, s3, s4, s5, s6] 3 (cost + y) (left - sh)) w' ∧ Keep2 b4 b5 W w') := Lib.hid (fun W hW =>
              ih 3 bl' [s0, s1, (n : Int) + 1, s3, s4, s5, s6] (cost + y) (left - sh) W (by omega) rfl (by omega) (by omega) (by omega) (by omega) (fun h => by omega) (fun _ => by obtain ⟨k, t, e, h1, h6⟩ := Hg.out; injection e with e _; subst e; exact ⟨k, _, rfl, h1, h6⟩) hW)
            have hst : Hid (F bl' n = settleF l f bl' [s0, s1, (n : Int) + 1, s3, s4, s5, s6] 3 (cost + y) (left - sh)) := Lib.hid (by rw [HF.out]; unfold settleStep; rw [← Hsh.out, if_pos hfit, ← Hx.out, ← Hy.out]; rfl)
            go_wp2_with fail
            obtain ⟨W2, hW2⟩ : ∃ W2, W2 = wr.alloc (.cells #[.int .i64 s0, .int .i64 s1, .int .i64 ((n : Int) + 1), .int .i64 s3, .int .i64 s4, .int .i64 s5, .int .i64 s6] 138) := ⟨_, rfl⟩
            have hb2 : Below wr.heap.size wr W2 := by rw [hW2]; exact below1 _ _
            have hK2 : W2.heap[wr.heap.size]? = some (.cells (vs [s0, s1, (n : Int) + 1, s3, s4, s5, s6]) 138 (0, 0)) := by rw [hW2]; exact blk_new wr _
            rw [← hW2]
            have HBd : Hid (SB l (some ⟨gb, go, none⟩) c w0 b4 b5 b6 b7 bl' W2.drew) := Lib.hid ((HBr'.out.carry hb2).carry ((Below.refl _ _).drew))
            have n4 := blk_lt HBr'.out.best
            have n5 := blk_lt HBr'.out.least
            obtain ⟨d1, d2, d3, d4, d5, d6, d7, d8, d9, d10⟩ := cell9 (HBr'.out.carry hb2) hK2 hc0x
            have HK2 := Lib.hid hK2
            have Hb2 := Lib.hid hb2
            clear hW2 cc6 cc7 p0 p1 p2 p3 p4 p5 p6 hcx hK2 hb2
            go_region_held3 (fun W => W.cell? ⟨b7, 0, none⟩ = some (.func (.func 76) #[] #[.pointer (some ⟨b4, 0, none⟩), .pointer (some ⟨b5, 0, none⟩), .pointer (some ⟨b6, 0, none⟩), .pointer (some ⟨b7, 0, none⟩)]) ∧ W.cell? ⟨b6, 0, none⟩ = some (.slice (some ⟨gb, go, none⟩) l.length c) ∧ W.cell? ⟨gb, go + 2, none⟩ = some (.int .i64 x) ∧
              W.cell? ⟨wr.heap.size, 0, none⟩ = some (.int .i64 s0) ∧ W.cell? ⟨wr.heap.size, 1, none⟩ = some (.int .i64 s1) ∧ W.cell? ⟨wr.heap.size, 2, none⟩ = some (.int .i64 ((n : Int) + 1)) ∧ W.cell? ⟨wr.heap.size, 3, none⟩ = some (.int .i64 s3) ∧ W.cell? ⟨wr.heap.size, 4, none⟩ = some (.int .i64 s4) ∧ W.cell? ⟨wr.heap.size, 5, none⟩ = some (.int .i64 s5) ∧ W.cell? ⟨wr.heap.size, 6, none⟩ = some (.int .i64 s6))
              (first | exact ⟨d1, d2, d3, d4, d5, d6, d7, d8, d9, d10⟩ | exact S9)
              ((go_at_call 76; rw [e6.out, e5.out, hye, e4, e2]; refine (HC.out _ HBd.out).mono ?_; rintro e w9 ⟨rfl, hB9, hk9⟩; have S9 := cell9 hB9 ((hk9.block _ (blk_lt HK2.out) (by omega) (by omega)).trans HK2.out) hc0x; have HB9 := Lib.hid hB9; have Hk9 := Lib.hid hk9; clear hB9 hk9))
            have hX9 : Hid (w9.heap[w.heap.size]? = some (.cells (vs [s0, s1, s2, s3, s4, s5, s6]) 138 (0, 0))) := Lib.hid (by
              have l0 := blk_lt HXr.out
              have l2 := Hb2.out.size
              have l4 := blk_lt HB.out.best
              have l5 := blk_lt HB.out.least
              exact (Hk9.out.block _ (Nat.lt_of_lt_of_le l0 l2) (by omega) (by omega)).trans ((Hb2.out.block _ l0).trans HXr.out))
            have hK9 : Hid (Keep2 b4 b5 w w9) := Lib.hid ((HKr.out.trans (.of_below Hb2.out)).trans ((Keep2.of_below ((Below.refl _ _).drew)).trans Hk9.out))
            go_wp2
            exact ⟨⟨n + 1, by omega, by simp, by rw [fold_range_succ, ← Hbl.out, hst.out]; exact HB9, hX9, hK9⟩, by simp [intOf]; omega⟩
          · have hst : Hid (F ((List.range n).foldl F ([0, 0, 0, 0, 0, 0, 0], least)) n = (List.range n).foldl F ([0, 0, 0, 0, 0, 0, 0], least)) := Lib.hid (by rw [HF.out]; unfold settleStep; rw [← Hsh.out, if_neg hfit])
            go_wp2
            exact ⟨⟨n + 1, by omega, by simp, by rw [fold_range_succ, hst.out]; exact HBr, HXr, HKr⟩, by simp [intOf]; omega⟩
        · obtain rfl : n = 6 := by omega
          go_wp2
          refine bodyPost_end (results_none rfl _ _ _) rfl ?_
          rw [hr.out]
          exact ⟨rfl, HBr.out, HKr.out⟩
    · injection hk with z0 hk
      subst z0
      have hn := eq_no k hk1 hk6 c1 c2 c3 c4 c5 c6
      have hlc : ¬ least ≤ cost := fun h => hq ⟨fun e => by injection e with e _; omega, h⟩
      clear hk hq
      rw [vse]
      go_enter Tryz.func76, Tryz.ntmps76
      go_wp2_with fail
      go_loopw [31] (fun iv wr => ∃ n : Nat, n ≤ 6 ∧ iv = .int .i64 n ∧ Hid (SB l (some ⟨gb, go, none⟩) c w0 b4 b5 b6 b7 ((List.range n).foldl F ([(k : Int), c1, c2, c3, c4, c5, c6], least)) wr) ∧ Hid (wr.heap[w.heap.size]? = some (.cells (vs [s0, s1, s2, s3, s4, s5, s6]) 138 (0, 0))) ∧ Hid (Keep2 b4 b5 w wr)) (fun iv _ => 6 - (intOf iv).toNat)
      case atStart => exact ⟨0, by omega, rfl, HW, HX, Lib.hid (.of_below (below1 _ _))⟩
      case round =>
        obtain ⟨n, hn6, rfl, HBr, HXr, HKr⟩ := hrel
        by_cases hlt : n < 6
        · obtain ⟨sh, hsh⟩ : ∃ sh, sh = shareN n := ⟨_, rfl⟩
          have hse : (64 : Int) / 2 ^ (n + 1) = sh := by rw [hsh]; exact shr_share n hlt
          have hs0 : 0 ≤ sh := by rw [hsh]; exact Int.natCast_nonneg _
          have Hsh := Lib.hid hsh
          clear hsh
          by_cases hfit : sh ≤ left
          · obtain ⟨ad, had, hcell⟩ := Kd.at_int (Kd.C_below hC HBr.out.below) 2 (by omega) (by omega)
            cases had
            have hlen1 : (2 : Int) < l.length := by omega
            obtain ⟨x, hx⟩ : ∃ x, x = rd l (2 : Nat) := ⟨_, rfl⟩
            have hxm := hlm x (by rw [hx, rd_nat _ _ (by omega)]; exact List.getElem_mem _)
            have hcx : wr.cell? ⟨gb, go + 2, none⟩ = some (.int .i64 x) := by rw [hx]; exact hcell
            have Hx := Lib.hid hx
            clear hcell hx
            have cc6 := box_cell HBr.out.often
            have cc7 := box_cell HBr.out.self
            obtain ⟨p0, p1, p2, p3, p4, p5, p6⟩ := cell_arr HXr.out
            obtain ⟨y, hy'⟩ : ∃ y, y = x * ((n : Int) + 1) := ⟨_, rfl⟩
            have hy0 : 0 ≤ y := by rw [hy']; exact Int.mul_nonneg hxm.1 (by omega)
            have hy6 : y ≤ 6000 := by rw [hy']; exact Int.le_trans (Int.mul_le_mul hxm.2 (show (n : Int) + 1 ≤ 6 by omega) (by omega) (by decide)) (by decide)
            have hye : x * ((n : Int) + 1) = y := hy'.symm
            have Hy := Lib.hid hy'
            clear hy'
            have e2 : IntKind.i64.wrap (cost + y) = cost + y := by rw [IntKind.wrap_i64]; omega
            have e3 : IntKind.i64.wrap (left - sh) = left - sh := by rw [IntKind.wrap_i64]; omega
            have e4 : IntKind.i64.wrap y = y := by rw [IntKind.wrap_i64]; omega
            have e5 : Hid (IntKind.i64.wrap ((n : Int) + 1) = n + 1) := Lib.hid (by rw [IntKind.wrap_i64]; omega)
            have e6 : Hid (IntKind.i64.wrap 3 = 3) := Lib.hid (by decide)
            have hc0x : w0.cell? ⟨gb, go + 2, none⟩ = some (.int .i64 x) := by
              obtain ⟨ad', e, h⟩ := Kd.at_int hC 2 (by omega) (by omega)
              cases e
              rw [Hx.out]; exact h
            obtain ⟨bl', hbl'⟩ : ∃ bl', bl' = (List.range n).foldl F ([(k : Int), c1, c2, c3, c4, c5, c6], least) := ⟨_, rfl⟩
            have HBr' : Hid (SB l (some ⟨gb, go, none⟩) c w0 b4 b5 b6 b7 bl' wr) := Lib.hid (by rw [hbl']; exact HBr.out)
            have Hbl := Lib.hid hbl'
            clear hbl'
            have HC : Hid (∀ W, SB l (some ⟨gb, go, none⟩) c w0 b4 b5 b6 b7 bl' W → Calls Tryz.prog 76 #[.agg #[.int .i64 s0, .int .i64 s1, .int .i64 ((n : Int) + 1), .int .i64 s3, .int .i64 s4, .int .i64 s5, .int .i64 s6], .int .i64 3, .int .i64 (cost + y), .int .i64 (left - sh), .pointer (some ⟨b4, 0, none⟩), .pointer (some ⟨b5, 0, none⟩), .pointer (some ⟨b6, 0, none⟩), .pointer (some ⟨b7, 0, none⟩)] W fun e w' =>
                e = .returned (.tuple #[]) ∧ SB l (some ⟨gb, go, none⟩) c w0 b4 b5 b6 b7 (settleF l f bl' [s0, s1, (n : Int) + 1, s3, s4, s5, s6] 3 (cost + y) (left - sh)) w' ∧ Keep2 b4 b5 W w') := Lib.hid (fun W hW =>
              ih 3 bl' [s0, s1, (n : Int) + 1, s3, s4, s5, s6] (cost + y) (left - sh) W (by omega) rfl (by omega) (by omega) (by omega) (by omega) (fun h => by omega) (fun _ => by obtain ⟨k, t, e, h1, h6⟩ := Hg.out; injection e with e _; subst e; exact ⟨k, _, rfl, h1, h6⟩) hW)
            have hst : Hid (F bl' n = settleF l f bl' [s0, s1, (n : Int) + 1, s3, s4, s5, s6] 3 (cost + y) (left - sh)) := Lib.hid (by rw [HF.out]; unfold settleStep; rw [← Hsh.out, if_pos hfit, ← Hx.out, ← Hy.out]; rfl)
            go_wp2_with fail
            obtain ⟨W2, hW2⟩ : ∃ W2, W2 = wr.alloc (.cells #[.int .i64 s0, .int .i64 s1, .int .i64 ((n : Int) + 1), .int .i64 s3, .int .i64 s4, .int .i64 s5, .int .i64 s6] 138) := ⟨_, rfl⟩
            have hb2 : Below wr.heap.size wr W2 := by rw [hW2]; exact below1 _ _
            have hK2 : W2.heap[wr.heap.size]? = some (.cells (vs [s0, s1, (n : Int) + 1, s3, s4, s5, s6]) 138 (0, 0)) := by rw [hW2]; exact blk_new wr _
            rw [← hW2]
            have HBd : Hid (SB l (some ⟨gb, go, none⟩) c w0 b4 b5 b6 b7 bl' W2.drew) := Lib.hid ((HBr'.out.carry hb2).carry ((Below.refl _ _).drew))
            have n4 := blk_lt HBr'.out.best
            have n5 := blk_lt HBr'.out.least
            obtain ⟨d1, d2, d3, d4, d5, d6, d7, d8, d9, d10⟩ := cell9 (HBr'.out.carry hb2) hK2 hc0x
            have HK2 := Lib.hid hK2
            have Hb2 := Lib.hid hb2
            clear hW2 cc6 cc7 p0 p1 p2 p3 p4 p5 p6 hcx hK2 hb2
            go_region_held3 (fun W => W.cell? ⟨b7, 0, none⟩ = some (.func (.func 76) #[] #[.pointer (some ⟨b4, 0, none⟩), .pointer (some ⟨b5, 0, none⟩), .pointer (some ⟨b6, 0, none⟩), .pointer (some ⟨b7, 0, none⟩)]) ∧ W.cell? ⟨b6, 0, none⟩ = some (.slice (some ⟨gb, go, none⟩) l.length c) ∧ W.cell? ⟨gb, go + 2, none⟩ = some (.int .i64 x) ∧
              W.cell? ⟨wr.heap.size, 0, none⟩ = some (.int .i64 s0) ∧ W.cell? ⟨wr.heap.size, 1, none⟩ = some (.int .i64 s1) ∧ W.cell? ⟨wr.heap.size, 2, none⟩ = some (.int .i64 ((n : Int) + 1)) ∧ W.cell? ⟨wr.heap.size, 3, none⟩ = some (.int .i64 s3) ∧ W.cell? ⟨wr.heap.size, 4, none⟩ = some (.int .i64 s4) ∧ W.cell? ⟨wr.heap.size, 5, none⟩ = some (.int .i64 s5) ∧ W.cell? ⟨wr.heap.size, 6, none⟩ = some (.int .i64 s6))
              (first | exact ⟨d1, d2, d3, d4, d5, d6, d7, d8, d9, d10⟩ | exact S9)
              ((go_at_call 76; rw [e6.out, e5.out, hye, e4, e2]; refine (HC.out _ HBd.out).mono ?_; rintro e w9 ⟨rfl, hB9, hk9⟩; have S9 := cell9 hB9 ((hk9.block _ (blk_lt HK2.out) (by omega) (by omega)).trans HK2.out) hc0x; have HB9 := Lib.hid hB9; have Hk9 := Lib.hid hk9; clear hB9 hk9))
            have hX9 : Hid (w9.heap[w.heap.size]? = some (.cells (vs [s0, s1, s2, s3, s4, s5, s6]) 138 (0, 0))) := Lib.hid (by
              have l0 := blk_lt HXr.out
              have l2 := Hb2.out.size
              have l4 := blk_lt HB.out.best
              have l5 := blk_lt HB.out.least
              exact (Hk9.out.block _ (Nat.lt_of_lt_of_le l0 l2) (by omega) (by omega)).trans ((Hb2.out.block _ l0).trans HXr.out))
            have hK9 : Hid (Keep2 b4 b5 w w9) := Lib.hid ((HKr.out.trans (.of_below Hb2.out)).trans ((Keep2.of_below ((Below.refl _ _).drew)).trans Hk9.out))
            go_wp2
            exact ⟨⟨n + 1, by omega, by simp, by rw [fold_range_succ, ← Hbl.out, hst.out]; exact HB9, hX9, hK9⟩, by simp [intOf]; omega⟩
          · have hst : Hid (F ((List.range n).foldl F ([(k : Int), c1, c2, c3, c4, c5, c6], least)) n = (List.range n).foldl F ([(k : Int), c1, c2, c3, c4, c5, c6], least)) := Lib.hid (by rw [HF.out]; unfold settleStep; rw [← Hsh.out, if_neg hfit])
            go_wp2
            exact ⟨⟨n + 1, by omega, by simp, by rw [fold_range_succ, hst.out]; exact HBr, HXr, HKr⟩, by simp [intOf]; omega⟩
        · obtain rfl : n = 6 := by omega
          go_wp2
          refine bodyPost_end (results_none rfl _ _ _) rfl ?_
          rw [hr.out]
          exact ⟨rfl, HBr.out, HKr.out⟩
end Go.Proofs.YtfnibmcenjiodaaGreatDoor.M
namespace Go.Proofs.YtfnibmcenjiodaaGreatDoor.M
open Go.Sort Go.Shelf Go.RowKit Go.Maps Go.Proofs.YtfnibmcenjiodaaGreatDoorW.PrintWords Go.Proofs.YtfnibmcenjiodaaGreatDoorW.PrintLast Go.Proofs.YtfnibmcenjiodaaGreatDoorW.PrintMore
attribute [local go_sem] Oper.semAt_some
set_option maxRecDepth 100000 in
set_option maxHeartbeats 4000000 in
theorem settle_s3 (l : List Int) (gb go : Nat) (c : Nat) (w0 : World) (b4 b5 b6 b7 : Nat) (f : Nat) (ih : SettleOk l (some ⟨gb, go, none⟩) c w0 b4 b5 b6 b7 f) (hC : Kd.C (Kd.int .i64) w0 (some ⟨gb, go, none⟩) l.length l) (hlm : ∀ x ∈ l, 0 ≤ x ∧ x ≤ 1000) (bl : List Int × Int) (s0 s1 s2 s3 s4 s5 s6 : Int) (cost left : Int) (w : World) (hif : 3 + (f + 1) = l.length) (h7 : l.length ≤ 7) (hc0 : 0 ≤ cost) (hc1 : cost ≤ 6000 * 3) (hl0 : 0 ≤ left) (hl1 : left ≤ 64) (hg : ∃ k t, [s0, s1, s2, s3, s4, s5, s6] = ((k : Nat) : Int) :: t ∧ 1 ≤ k ∧ k ≤ 6) (hB : SB l (some ⟨gb, go, none⟩) c w0 b4 b5 b6 b7 bl w) :
    Calls Tryz.prog 76 #[.agg (vs [s0, s1, s2, s3, s4, s5, s6]), .int .i64 3, .int .i64 cost, .int .i64 left, .pointer (some ⟨b4, 0, none⟩), .pointer (some ⟨b5, 0, none⟩), .pointer (some ⟨b6, 0, none⟩), .pointer (some ⟨b7, 0, none⟩)] w fun e w' =>
      e = .returned (.tuple #[]) ∧ SB l (some ⟨gb, go, none⟩) c w0 b4 b5 b6 b7 (settleF l (f + 1) bl [s0, s1, s2, s3, s4, s5, s6] 3 cost left) w' ∧ Keep2 b4 b5 w w' := by
  have HB := Lib.hid hB
  have hw1 := hB.carry (below1 w (.cells (vs [s0, s1, s2, s3, s4, s5, s6]) 138))
  obtain ⟨b, least⟩ := bl
  have hgd := hB.good
  dsimp only at hgd
  obtain ⟨hg7, hgd⟩ := hgd
  obtain ⟨c0, c1, c2, c3, c4, c5, c6, rfl⟩ := seven hg7
  have vse : vs [s0, s1, s2, s3, s4, s5, s6] = #[.int .i64 s0, .int .i64 s1, .int .i64 s2, .int .i64 s3, .int .i64 s4, .int .i64 s5, .int .i64 s6] := rfl
  obtain ⟨q0, q1, q2, q3, q4, q5, q6⟩ := cell_arr hw1.best
  have hle := box_cell hw1.least
  have hof := box_cell hw1.often
  have hil : ¬ (3 : Int) = l.length := by omega
  have HW := Lib.hid hw1
  have HX : Hid ((w.alloc (.cells (vs [s0, s1, s2, s3, s4, s5, s6]) 138)).heap[w.heap.size]? = some (.cells (vs [s0, s1, s2, s3, s4, s5, s6]) 138 (0, 0))) := Lib.hid (blk_new w _)
  rw [vse] at q0 q1 q2 q3 q4 q5 q6 hle hof
  have Hg := Lib.hid hg
  clear hw1 hB hg
  by_cases hq : [c0, c1, c2, c3, c4, c5, c6] ≠ zeros7 ∧ least ≤ cost
  · have hr : Hid (settleF l (f + 1) ([c0, c1, c2, c3, c4, c5, c6], least) [s0, s1, s2, s3, s4, s5, s6] 3 cost left = ([c0, c1, c2, c3, c4, c5, c6], least)) := Lib.hid (settle_none hq.1 hq.2)
    rcases hgd with hz | ⟨k, t, hk, hk1, hk6⟩
    · exact absurd hz hq.1
    · injection hk with z0 hk
      subst z0
      have hn := eq_no k hk1 hk6 c1 c2 c3 c4 c5 c6
      have hlc := hq.2
      clear hk hq
      rw [vse]
      go_enter Tryz.func76, Tryz.ntmps76
      go_wp2_with fail
      refine bodyPost_ret (results_none rfl _ _ _) rfl ?_
      rw [hr.out]
      exact ⟨rfl, HW.out, .of_below (below1 _ _)⟩
  · have hr := Lib.hid (settleF_succ l f ([c0, c1, c2, c3, c4, c5, c6], least) [s0, s1, s2, s3, s4, s5, s6] 3 cost left hq)
    obtain ⟨F, hF⟩ : ∃ F, F = settleStep l f [s0, s1, s2, s3, s4, s5, s6] 3 cost left := ⟨_, rfl⟩
    rw [← hF] at hr
    have HF := Lib.hid hF
    clear hF
    have main : Hid (∀ W1 : World, True) := Lib.hid (fun _ => trivial)
    rcases hgd with hz | ⟨k, t, hk, hk1, hk6⟩
    · injection hz with z0 hz; injection hz with z1 hz; injection hz with z2 hz; injection hz with z3 hz; injection hz with z4 hz; injection hz with z5 hz; injection hz with z6 hz
      subst z0 z1 z2 z3 z4 z5 z6
      clear hz hq
      have hy := eq_yes
      rw [vse]
      go_enter Tryz.func76, Tryz.ntmps76
      go_wp2_with fail
      go_loopw [31] (fun iv wr => ∃ n : Nat, n ≤ 6 ∧ iv = .int .i64 n ∧ Hid (SB l (some ⟨gb, go, none⟩) c w0 b4 b5 b6 b7 ((List.range n).foldl F ([0, 0, 0, 0, 0, 0, 0], least)) wr) ∧ Hid (wr.heap[w.heap.size]? = some (.cells (vs [s0, s1, s2, s3, s4, s5, s6]) 138 (0, 0))) ∧ Hid (Keep2 b4 b5 w wr)) (fun iv _ => 6 - (intOf iv).toNat)
      case atStart => exact ⟨0, by omega, rfl, HW, HX, Lib.hid (.of_below (below1 _ _))⟩
      case round =>
        obtain ⟨n, hn, rfl, HBr, HXr, HKr⟩ := hrel
        by_cases hlt : n < 6
        · obtain ⟨sh, hsh⟩ : ∃ sh, sh = shareN n := ⟨_, rfl⟩
          have hse : (64 : Int) / 2 ^ (n + 1) = sh := by rw [hsh]; exact shr_share n hlt
          have hs0 : 0 ≤ sh := by rw [hsh]; exact Int.natCast_nonneg _
          have Hsh := Lib.hid hsh
          clear hsh
          by_cases hfit : sh ≤ left
          · obtain ⟨ad, had, hcell⟩ := Kd.at_int (Kd.C_below hC HBr.out.below) 3 (by omega) (by omega)
            cases had
            have hlen1 : (3 : Int) < l.length := by omega
            obtain ⟨x, hx⟩ : ∃ x, x = rd l (3 : Nat) := ⟨_, rfl⟩
            have hxm := hlm x (by rw [hx, rd_nat _ _ (by omega)]; exact List.getElem_mem _)
            have hcx : wr.cell? ⟨gb, go + 3, none⟩ = some (.int .i64 x) := by rw [hx]; exact hcell
            have Hx := Lib.hid hx
            clear hcell hx
            have cc6 := box_cell HBr.out.often
            have cc7 := box_cell HBr.out.self
            obtain ⟨p0, p1, p2, p3, p4, p5, p6⟩ := cell_arr HXr.out
            obtain ⟨y, hy'⟩ : ∃ y, y = x * ((n : Int) + 1) := ⟨_, rfl⟩
            have hy0 : 0 ≤ y := by rw [hy']; exact Int.mul_nonneg hxm.1 (by omega)
            have hy6 : y ≤ 6000 := by rw [hy']; exact Int.le_trans (Int.mul_le_mul hxm.2 (show (n : Int) + 1 ≤ 6 by omega) (by omega) (by decide)) (by decide)
            have hye : x * ((n : Int) + 1) = y := hy'.symm
            have Hy := Lib.hid hy'
            clear hy'
            have e2 : IntKind.i64.wrap (cost + y) = cost + y := by rw [IntKind.wrap_i64]; omega
            have e3 : IntKind.i64.wrap (left - sh) = left - sh := by rw [IntKind.wrap_i64]; omega
            have e4 : IntKind.i64.wrap y = y := by rw [IntKind.wrap_i64]; omega
            have e5 : Hid (IntKind.i64.wrap ((n : Int) + 1) = n + 1) := Lib.hid (by rw [IntKind.wrap_i64]; omega)
            have e6 : Hid (IntKind.i64.wrap 4 = 4) := Lib.hid (by decide)
            have hc0x : w0.cell? ⟨gb, go + 3, none⟩ = some (.int .i64 x) := by
              obtain ⟨ad', e, h⟩ := Kd.at_int hC 3 (by omega) (by omega)
              cases e
              rw [Hx.out]; exact h
            obtain ⟨bl', hbl'⟩ : ∃ bl', bl' = (List.range n).foldl F ([0, 0, 0, 0, 0, 0, 0], least) := ⟨_, rfl⟩
            have HBr' : Hid (SB l (some ⟨gb, go, none⟩) c w0 b4 b5 b6 b7 bl' wr) := Lib.hid (by rw [hbl']; exact HBr.out)
            have Hbl := Lib.hid hbl'
            clear hbl'
            have HC : Hid (∀ W, SB l (some ⟨gb, go, none⟩) c w0 b4 b5 b6 b7 bl' W → Calls Tryz.prog 76 #[.agg #[.int .i64 s0, .int .i64 s1, .int .i64 s2, .int .i64 ((n : Int) + 1), .int .i64 s4, .int .i64 s5, .int .i64 s6], .int .i64 4, .int .i64 (cost + y), .int .i64 (left - sh), .pointer (some ⟨b4, 0, none⟩), .pointer (some ⟨b5, 0, none⟩), .pointer (some ⟨b6, 0, none⟩), .pointer (some ⟨b7, 0, none⟩)] W fun e w' =>
                e = .returned (.tuple #[]) ∧ SB l (some ⟨gb, go, none⟩) c w0 b4 b5 b6 b7 (settleF l f bl' [s0, s1, s2, (n : Int) + 1, s4, s5, s6] 4 (cost + y) (left - sh)) w' ∧ Keep2 b4 b5 W w') := Lib.hid (fun W hW =>
              ih 4 bl' [s0, s1, s2, (n : Int) + 1, s4, s5, s6] (cost + y) (left - sh) W (by omega) rfl (by omega) (by omega) (by omega) (by omega) (fun h => by omega) (fun _ => by obtain ⟨k, t, e, h1, h6⟩ := Hg.out; injection e with e _; subst e; exact ⟨k, _, rfl, h1, h6⟩) hW)
            have hst : Hid (F bl' n = settleF l f bl' [s0, s1, s2, (n : Int) + 1, s4, s5, s6] 4 (cost + y) (left - sh)) := Lib.hid (by rw [HF.out]; unfold settleStep; rw [← Hsh.out, if_pos hfit, ← Hx.out, ← Hy.out]; rfl)
            go_wp2_with fail
            obtain ⟨W2, hW2⟩ : ∃ W2, W2 = wr.alloc (.cells #[.int .i64 s0, .int .i64 s1, .int .i64 s2, .int .i64 ((n : Int) + 1), .int .i64 s4, .int .i64 s5, .int .i64 s6] 138) := ⟨_, rfl⟩
            have hb2 : Below wr.heap.size wr W2 := by rw [hW2]; exact below1 _ _
            have hK2 : W2.heap[wr.heap.size]? = some (.cells (vs [s0, s1, s2, (n : Int) + 1, s4, s5, s6]) 138 (0, 0)) := by rw [hW2]; exact blk_new wr _
            rw [← hW2]
            have HBd : Hid (SB l (some ⟨gb, go, none⟩) c w0 b4 b5 b6 b7 bl' W2.drew) := Lib.hid ((HBr'.out.carry hb2).carry ((Below.refl _ _).drew))
            have n4 := blk_lt HBr'.out.best
            have n5 := blk_lt HBr'.out.least
            obtain ⟨d1, d2, d3, d4, d5, d6, d7, d8, d9, d10⟩ := cell9 (HBr'.out.carry hb2) hK2 hc0x
            have HK2 := Lib.hid hK2
            have Hb2 := Lib.hid hb2
            clear hW2 cc6 cc7 p0 p1 p2 p3 p4 p5 p6 hcx hK2 hb2
            go_region_held3 (fun W => W.cell? ⟨b7, 0, none⟩ = some (.func (.func 76) #[] #[.pointer (some ⟨b4, 0, none⟩), .pointer (some ⟨b5, 0, none⟩), .pointer (some ⟨b6, 0, none⟩), .pointer (some ⟨b7, 0, none⟩)]) ∧ W.cell? ⟨b6, 0, none⟩ = some (.slice (some ⟨gb, go, none⟩) l.length c) ∧ W.cell? ⟨gb, go + 3, none⟩ = some (.int .i64 x) ∧
              W.cell? ⟨wr.heap.size, 0, none⟩ = some (.int .i64 s0) ∧ W.cell? ⟨wr.heap.size, 1, none⟩ = some (.int .i64 s1) ∧ W.cell? ⟨wr.heap.size, 2, none⟩ = some (.int .i64 s2) ∧ W.cell? ⟨wr.heap.size, 3, none⟩ = some (.int .i64 ((n : Int) + 1)) ∧ W.cell? ⟨wr.heap.size, 4, none⟩ = some (.int .i64 s4) ∧ W.cell? ⟨wr.heap.size, 5, none⟩ = some (.int .i64 s5) ∧ W.cell? ⟨wr.heap.size, 6, none⟩ = some (.int .i64 s6))
              (first | exact ⟨d1, d2, d3, d4, d5, d6, d7, d8, d9, d10⟩ | exact S9)
              ((go_at_call 76; rw [e6.out, e5.out, hye, e4, e2]; refine (HC.out _ HBd.out).mono ?_; rintro e w9 ⟨rfl, hB9, hk9⟩; have S9 := cell9 hB9 ((hk9.block _ (blk_lt HK2.out) (by omega) (by omega)).trans HK2.out) hc0x; have HB9 := Lib.hid hB9; have Hk9 := Lib.hid hk9; clear hB9 hk9))
            have hX9 : Hid (w9.heap[w.heap.size]? = some (.cells (vs [s0, s1, s2, s3, s4, s5, s6]) 138 (0, 0))) := Lib.hid (by
              have l0 := blk_lt HXr.out
              have l2 := Hb2.out.size
              have l4 := blk_lt HB.out.best
              have l5 := blk_lt HB.out.least
              exact (Hk9.out.block _ (Nat.lt_of_lt_of_le l0 l2) (by omega) (by omega)).trans ((Hb2.out.block _ l0).trans HXr.out))
            have hK9 : Hid (Keep2 b4 b5 w w9) := Lib.hid ((HKr.out.trans (.of_below Hb2.out)).trans ((Keep2.of_below ((Below.refl _ _).drew)).trans Hk9.out))
            go_wp2
            exact ⟨⟨n + 1, by omega, by simp, by rw [fold_range_succ, ← Hbl.out, hst.out]; exact HB9, hX9, hK9⟩, by simp [intOf]; omega⟩
          · have hst : Hid (F ((List.range n).foldl F ([0, 0, 0, 0, 0, 0, 0], least)) n = (List.range n).foldl F ([0, 0, 0, 0, 0, 0, 0], least)) := Lib.hid (by rw [HF.out]; unfold settleStep; rw [← Hsh.out, if_neg hfit])
            go_wp2
            exact ⟨⟨n + 1, by omega, by simp, by rw [fold_range_succ, hst.out]; exact HBr, HXr, HKr⟩, by simp [intOf]; omega⟩
        · obtain rfl : n = 6 := by omega
          go_wp2
          refine bodyPost_end (results_none rfl _ _ _) rfl ?_
          rw [hr.out]
          exact ⟨rfl, HBr.out, HKr.out⟩
    · injection hk with z0 hk
      subst z0
      have hn := eq_no k hk1 hk6 c1 c2 c3 c4 c5 c6
      have hlc : ¬ least ≤ cost := fun h => hq ⟨fun e => by injection e with e _; omega, h⟩
      clear hk hq
      rw [vse]
      go_enter Tryz.func76, Tryz.ntmps76
      go_wp2_with fail
      go_loopw [31] (fun iv wr => ∃ n : Nat, n ≤ 6 ∧ iv = .int .i64 n ∧ Hid (SB l (some ⟨gb, go, none⟩) c w0 b4 b5 b6 b7 ((List.range n).foldl F ([(k : Int), c1, c2, c3, c4, c5, c6], least)) wr) ∧ Hid (wr.heap[w.heap.size]? = some (.cells (vs [s0, s1, s2, s3, s4, s5, s6]) 138 (0, 0))) ∧ Hid (Keep2 b4 b5 w wr)) (fun iv _ => 6 - (intOf iv).toNat)
      case atStart => exact ⟨0, by omega, rfl, HW, HX, Lib.hid (.of_below (below1 _ _))⟩
      case round =>
        obtain ⟨n, hn6, rfl, HBr, HXr, HKr⟩ := hrel
        by_cases hlt : n < 6
        · obtain ⟨sh, hsh⟩ : ∃ sh, sh = shareN n := ⟨_, rfl⟩
          have hse : (64 : Int) / 2 ^ (n + 1) = sh := by rw [hsh]; exact shr_share n hlt
          have hs0 : 0 ≤ sh := by rw [hsh]; exact Int.natCast_nonneg _
          have Hsh := Lib.hid hsh
          clear hsh
          by_cases hfit : sh ≤ left
          · obtain ⟨ad, had, hcell⟩ := Kd.at_int (Kd.C_below hC HBr.out.below) 3 (by omega) (by omega)
            cases had
            have hlen1 : (3 : Int) < l.length := by omega
            obtain ⟨x, hx⟩ : ∃ x, x = rd l (3 : Nat) := ⟨_, rfl⟩
            have hxm := hlm x (by rw [hx, rd_nat _ _ (by omega)]; exact List.getElem_mem _)
            have hcx : wr.cell? ⟨gb, go + 3, none⟩ = some (.int .i64 x) := by rw [hx]; exact hcell
            have Hx := Lib.hid hx
            clear hcell hx
            have cc6 := box_cell HBr.out.often
            have cc7 := box_cell HBr.out.self
            obtain ⟨p0, p1, p2, p3, p4, p5, p6⟩ := cell_arr HXr.out
            obtain ⟨y, hy'⟩ : ∃ y, y = x * ((n : Int) + 1) := ⟨_, rfl⟩
            have hy0 : 0 ≤ y := by rw [hy']; exact Int.mul_nonneg hxm.1 (by omega)
            have hy6 : y ≤ 6000 := by rw [hy']; exact Int.le_trans (Int.mul_le_mul hxm.2 (show (n : Int) + 1 ≤ 6 by omega) (by omega) (by decide)) (by decide)
            have hye : x * ((n : Int) + 1) = y := hy'.symm
            have Hy := Lib.hid hy'
            clear hy'
            have e2 : IntKind.i64.wrap (cost + y) = cost + y := by rw [IntKind.wrap_i64]; omega
            have e3 : IntKind.i64.wrap (left - sh) = left - sh := by rw [IntKind.wrap_i64]; omega
            have e4 : IntKind.i64.wrap y = y := by rw [IntKind.wrap_i64]; omega
            have e5 : Hid (IntKind.i64.wrap ((n : Int) + 1) = n + 1) := Lib.hid (by rw [IntKind.wrap_i64]; omega)
            have e6 : Hid (IntKind.i64.wrap 4 = 4) := Lib.hid (by decide)
            have hc0x : w0.cell? ⟨gb, go + 3, none⟩ = some (.int .i64 x) := by
              obtain ⟨ad', e, h⟩ := Kd.at_int hC 3 (by omega) (by omega)
              cases e
              rw [Hx.out]; exact h
            obtain ⟨bl', hbl'⟩ : ∃ bl', bl' = (List.range n).foldl F ([(k : Int), c1, c2, c3, c4, c5, c6], least) := ⟨_, rfl⟩
            have HBr' : Hid (SB l (some ⟨gb, go, none⟩) c w0 b4 b5 b6 b7 bl' wr) := Lib.hid (by rw [hbl']; exact HBr.out)
            have Hbl := Lib.hid hbl'
            clear hbl'
            have HC : Hid (∀ W, SB l (some ⟨gb, go, none⟩) c w0 b4 b5 b6 b7 bl' W → Calls Tryz.prog 76 #[.agg #[.int .i64 s0, .int .i64 s1, .int .i64 s2, .int .i64 ((n : Int) + 1), .int .i64 s4, .int .i64 s5, .int .i64 s6], .int .i64 4, .int .i64 (cost + y), .int .i64 (left - sh), .pointer (some ⟨b4, 0, none⟩), .pointer (some ⟨b5, 0, none⟩), .pointer (some ⟨b6, 0, none⟩), .pointer (some ⟨b7, 0, none⟩)] W fun e w' =>
                e = .returned (.tuple #[]) ∧ SB l (some ⟨gb, go, none⟩) c w0 b4 b5 b6 b7 (settleF l f bl' [s0, s1, s2, (n : Int) + 1, s4, s5, s6] 4 (cost + y) (left - sh)) w' ∧ Keep2 b4 b5 W w') := Lib.hid (fun W hW =>
              ih 4 bl' [s0, s1, s2, (n : Int) + 1, s4, s5, s6] (cost + y) (left - sh) W (by omega) rfl (by omega) (by omega) (by omega) (by omega) (fun h => by omega) (fun _ => by obtain ⟨k, t, e, h1, h6⟩ := Hg.out; injection e with e _; subst e; exact ⟨k, _, rfl, h1, h6⟩) hW)
            have hst : Hid (F bl' n = settleF l f bl' [s0, s1, s2, (n : Int) + 1, s4, s5, s6] 4 (cost + y) (left - sh)) := Lib.hid (by rw [HF.out]; unfold settleStep; rw [← Hsh.out, if_pos hfit, ← Hx.out, ← Hy.out]; rfl)
            go_wp2_with fail
            obtain ⟨W2, hW2⟩ : ∃ W2, W2 = wr.alloc (.cells #[.int .i64 s0, .int .i64 s1, .int .i64 s2, .int .i64 ((n : Int) + 1), .int .i64 s4, .int .i64 s5, .int .i64 s6] 138) := ⟨_, rfl⟩
            have hb2 : Below wr.heap.size wr W2 := by rw [hW2]; exact below1 _ _
            have hK2 : W2.heap[wr.heap.size]? = some (.cells (vs [s0, s1, s2, (n : Int) + 1, s4, s5, s6]) 138 (0, 0)) := by rw [hW2]; exact blk_new wr _
            rw [← hW2]
            have HBd : Hid (SB l (some ⟨gb, go, none⟩) c w0 b4 b5 b6 b7 bl' W2.drew) := Lib.hid ((HBr'.out.carry hb2).carry ((Below.refl _ _).drew))
            have n4 := blk_lt HBr'.out.best
            have n5 := blk_lt HBr'.out.least
            obtain ⟨d1, d2, d3, d4, d5, d6, d7, d8, d9, d10⟩ := cell9 (HBr'.out.carry hb2) hK2 hc0x
            have HK2 := Lib.hid hK2
            have Hb2 := Lib.hid hb2
            clear hW2 cc6 cc7 p0 p1 p2 p3 p4 p5 p6 hcx hK2 hb2
            go_region_held3 (fun W => W.cell? ⟨b7, 0, none⟩ = some (.func (.func 76) #[] #[.pointer (some ⟨b4, 0, none⟩), .pointer (some ⟨b5, 0, none⟩), .pointer (some ⟨b6, 0, none⟩), .pointer (some ⟨b7, 0, none⟩)]) ∧ W.cell? ⟨b6, 0, none⟩ = some (.slice (some ⟨gb, go, none⟩) l.length c) ∧ W.cell? ⟨gb, go + 3, none⟩ = some (.int .i64 x) ∧
              W.cell? ⟨wr.heap.size, 0, none⟩ = some (.int .i64 s0) ∧ W.cell? ⟨wr.heap.size, 1, none⟩ = some (.int .i64 s1) ∧ W.cell? ⟨wr.heap.size, 2, none⟩ = some (.int .i64 s2) ∧ W.cell? ⟨wr.heap.size, 3, none⟩ = some (.int .i64 ((n : Int) + 1)) ∧ W.cell? ⟨wr.heap.size, 4, none⟩ = some (.int .i64 s4) ∧ W.cell? ⟨wr.heap.size, 5, none⟩ = some (.int .i64 s5) ∧ W.cell? ⟨wr.heap.size, 6, none⟩ = some (.int .i64 s6))
              (first | exact ⟨d1, d2, d3, d4, d5, d6, d7, d8, d9, d10⟩ | exact S9)
              ((go_at_call 76; rw [e6.out, e5.out, hye, e4, e2]; refine (HC.out _ HBd.out).mono ?_; rintro e w9 ⟨rfl, hB9, hk9⟩; have S9 := cell9 hB9 ((hk9.block _ (blk_lt HK2.out) (by omega) (by omega)).trans HK2.out) hc0x; have HB9 := Lib.hid hB9; have Hk9 := Lib.hid hk9; clear hB9 hk9))
            have hX9 : Hid (w9.heap[w.heap.size]? = some (.cells (vs [s0, s1, s2, s3, s4, s5, s6]) 138 (0, 0))) := Lib.hid (by
              have l0 := blk_lt HXr.out
              have l2 := Hb2.out.size
              have l4 := blk_lt HB.out.best
              have l5 := blk_lt HB.out.least
              exact (Hk9.out.block _ (Nat.lt_of_lt_of_le l0 l2) (by omega) (by omega)).trans ((Hb2.out.block _ l0).trans HXr.out))
            have hK9 : Hid (Keep2 b4 b5 w w9) := Lib.hid ((HKr.out.trans (.of_below Hb2.out)).trans ((Keep2.of_below ((Below.refl _ _).drew)).trans Hk9.out))
            go_wp2
            exact ⟨⟨n + 1, by omega, by simp, by rw [fold_range_succ, ← Hbl.out, hst.out]; exact HB9, hX9, hK9⟩, by simp [intOf]; omega⟩
          · have hst : Hid (F ((List.range n).foldl F ([(k : Int), c1, c2, c3, c4, c5, c6], least)) n = (List.range n).foldl F ([(k : Int), c1, c2, c3, c4, c5, c6], least)) := Lib.hid (by rw [HF.out]; unfold settleStep; rw [← Hsh.out, if_neg hfit])
            go_wp2
            exact ⟨⟨n + 1, by omega, by simp, by rw [fold_range_succ, hst.out]; exact HBr, HXr, HKr⟩, by simp [intOf]; omega⟩
        · obtain rfl : n = 6 := by omega
          go_wp2
          refine bodyPost_end (results_none rfl _ _ _) rfl ?_
          rw [hr.out]
          exact ⟨rfl, HBr.out, HKr.out⟩
set_option maxRecDepth 100000 in
set_option maxHeartbeats 4000000 in
theorem settle_s4 (l : List Int) (gb go : Nat) (c : Nat) (w0 : World) (b4 b5 b6 b7 : Nat) (f : Nat) (ih : SettleOk l (some ⟨gb, go, none⟩) c w0 b4 b5 b6 b7 f) (hC : Kd.C (Kd.int .i64) w0 (some ⟨gb, go, none⟩) l.length l) (hlm : ∀ x ∈ l, 0 ≤ x ∧ x ≤ 1000) (bl : List Int × Int) (s0 s1 s2 s3 s4 s5 s6 : Int) (cost left : Int) (w : World) (hif : 4 + (f + 1) = l.length) (h7 : l.length ≤ 7) (hc0 : 0 ≤ cost) (hc1 : cost ≤ 6000 * 4) (hl0 : 0 ≤ left) (hl1 : left ≤ 64) (hg : ∃ k t, [s0, s1, s2, s3, s4, s5, s6] = ((k : Nat) : Int) :: t ∧ 1 ≤ k ∧ k ≤ 6) (hB : SB l (some ⟨gb, go, none⟩) c w0 b4 b5 b6 b7 bl w) :
    Calls Tryz.prog 76 #[.agg (vs [s0, s1, s2, s3, s4, s5, s6]), .int .i64 4, .int .i64 cost, .int .i64 left, .pointer (some ⟨b4, 0, none⟩), .pointer (some ⟨b5, 0, none⟩), .pointer (some ⟨b6, 0, none⟩), .pointer (some ⟨b7, 0, none⟩)] w fun e w' =>
      e = .returned (.tuple #[]) ∧ SB l (some ⟨gb, go, none⟩) c w0 b4 b5 b6 b7 (settleF l (f + 1) bl [s0, s1, s2, s3, s4, s5, s6] 4 cost left) w' ∧ Keep2 b4 b5 w w' := by
  have HB := Lib.hid hB
  have hw1 := hB.carry (below1 w (.cells (vs [s0, s1, s2, s3, s4, s5, s6]) 138))
  obtain ⟨b, least⟩ := bl
  have hgd := hB.good
  dsimp only at hgd
  obtain ⟨hg7, hgd⟩ := hgd
  obtain ⟨c0, c1, c2, c3, c4, c5, c6, rfl⟩ := seven hg7
  have vse : vs [s0, s1, s2, s3, s4, s5, s6] = #[.int .i64 s0, .int .i64 s1, .int .i64 s2, .int .i64 s3, .int .i64 s4, .int .i64 s5, .int .i64 s6] := rfl
  obtain ⟨q0, q1, q2, q3, q4, q5, q6⟩ := cell_arr hw1.best
  have hle := box_cell hw1.least
  have hof := box_cell hw1.often
  have hil : ¬ (4 : Int) = l.length := by omega
  have HW := Lib.hid hw1
  have HX : Hid ((w.alloc (.cells (vs [s0, s1, s2, s3, s4, s5, s6]) 138)).heap[w.heap.size]? = some (.cells (vs [s0, s1, s2, s3, s4, s5, s6]) 138 (0, 0))) := Lib.hid (blk_new w _)
  rw [vse] at q0 q1 q2 q3 q4 q5 q6 hle hof
  have Hg := Lib.hid hg
  clear hw1 hB hg
  by_cases hq : [c0, c1, c2, c3, c4, c5, c6] ≠ zeros7 ∧ least ≤ cost
  · have hr : Hid (settleF l (f + 1) ([c0, c1, c2, c3, c4, c5, c6], least) [s0, s1, s2, s3, s4, s5, s6] 4 cost left = ([c0, c1, c2, c3, c4, c5, c6], least)) := Lib.hid (settle_none hq.1 hq.2)
    rcases hgd with hz | ⟨k, t, hk, hk1, hk6⟩
    · exact absurd hz hq.1
    · injection hk with z0 hk
      subst z0
      have hn := eq_no k hk1 hk6 c1 c2 c3 c4 c5 c6
      have hlc := hq.2
      clear hk hq
      rw [vse]
      go_enter Tryz.func76, Tryz.ntmps76
      go_wp2_with fail
      refine bodyPost_ret (results_none rfl _ _ _) rfl ?_
      rw [hr.out]
      exact ⟨rfl, HW.out, .of_below (below1 _ _)⟩
  · have hr := Lib.hid (settleF_succ l f ([c0, c1, c2, c3, c4, c5, c6], least) [s0, s1, s2, s3, s4, s5, s6] 4 cost left hq)
    obtain ⟨F, hF⟩ : ∃ F, F = settleStep l f [s0, s1, s2, s3, s4, s5, s6] 4 cost left := ⟨_, rfl⟩
    rw [← hF] at hr
    have HF := Lib.hid hF
    clear hF
    have main : Hid (∀ W1 : World, True) := Lib.hid (fun _ => trivial)
    rcases hgd with hz | ⟨k, t, hk, hk1, hk6⟩
    · injection hz with z0 hz; injection hz with z1 hz; injection hz with z2 hz; injection hz with z3 hz; injection hz with z4 hz; injection hz with z5 hz; injection hz with z6 hz
      subst z0 z1 z2 z3 z4 z5 z6
      clear hz hq
      have hy := eq_yes
      rw [vse]
      go_enter Tryz.func76, Tryz.ntmps76
      go_wp2_with fail
      go_loopw [31] (fun iv wr => ∃ n : Nat, n ≤ 6 ∧ iv = .int .i64 n ∧ Hid (SB l (some ⟨gb, go, none⟩) c w0 b4 b5 b6 b7 ((List.range n).foldl F ([0, 0, 0, 0, 0, 0, 0], least)) wr) ∧ Hid (wr.heap[w.heap.size]? = some (.cells (vs [s0, s1, s2, s3, s4, s5, s6]) 138 (0, 0))) ∧ Hid (Keep2 b4 b5 w wr)) (fun iv _ => 6 - (intOf iv).toNat)
      case atStart => exact ⟨0, by omega, rfl, HW, HX, Lib.hid (.of_below (below1 _ _))⟩
      case round =>
        obtain ⟨n, hn, rfl, HBr, HXr, HKr⟩ := hrel
        by_cases hlt : n < 6
        · obtain ⟨sh, hsh⟩ : ∃ sh, sh = shareN n := ⟨_, rfl⟩
          have hse : (64 : Int) / 2 ^ (n + 1) = sh := by rw [hsh]; exact shr_share n hlt
          have hs0 : 0 ≤ sh := by rw [hsh]; exact Int.natCast_nonneg _
          have Hsh := Lib.hid hsh
          clear hsh
          by_cases hfit : sh ≤ left
          · obtain ⟨ad, had, hcell⟩ := Kd.at_int (Kd.C_below hC HBr.out.below) 4 (by omega) (by omega)
            cases had
            have hlen1 : (4 : Int) < l.length := by omega
            obtain ⟨x, hx⟩ : ∃ x, x = rd l (4 : Nat) := ⟨_, rfl⟩
            have hxm := hlm x (by rw [hx, rd_nat _ _ (by omega)]; exact List.getElem_mem _)
            have hcx : wr.cell? ⟨gb, go + 4, none⟩ = some (.int .i64 x) := by rw [hx]; exact hcell
            have Hx := Lib.hid hx
            clear hcell hx
            have cc6 := box_cell HBr.out.often
            have cc7 := box_cell HBr.out.self
            obtain ⟨p0, p1, p2, p3, p4, p5, p6⟩ := cell_arr HXr.out
            obtain ⟨y, hy'⟩ : ∃ y, y = x * ((n : Int) + 1) := ⟨_, rfl⟩
            have hy0 : 0 ≤ y := by rw [hy']; exact Int.mul_nonneg hxm.1 (by omega)
            have hy6 : y ≤ 6000 := by rw [hy']; exact Int.le_trans (Int.mul_le_mul hxm.2 (show (n : Int) + 1 ≤ 6 by omega) (by omega) (by decide)) (by decide)
            have hye : x * ((n : Int) + 1) = y := hy'.symm
            have Hy := Lib.hid hy'
            clear hy'
            have e2 : IntKind.i64.wrap (cost + y) = cost + y := by rw [IntKind.wrap_i64]; omega
            have e3 : IntKind.i64.wrap (left - sh) = left - sh := by rw [IntKind.wrap_i64]; omega
            have e4 : IntKind.i64.wrap y = y := by rw [IntKind.wrap_i64]; omega
            have e5 : Hid (IntKind.i64.wrap ((n : Int) + 1) = n + 1) := Lib.hid (by rw [IntKind.wrap_i64]; omega)
            have e6 : Hid (IntKind.i64.wrap 5 = 5) := Lib.hid (by decide)
            have hc0x : w0.cell? ⟨gb, go + 4, none⟩ = some (.int .i64 x) := by
              obtain ⟨ad', e, h⟩ := Kd.at_int hC 4 (by omega) (by omega)
              cases e
              rw [Hx.out]; exact h
            obtain ⟨bl', hbl'⟩ : ∃ bl', bl' = (List.range n).foldl F ([0, 0, 0, 0, 0, 0, 0], least) := ⟨_, rfl⟩
            have HBr' : Hid (SB l (some ⟨gb, go, none⟩) c w0 b4 b5 b6 b7 bl' wr) := Lib.hid (by rw [hbl']; exact HBr.out)
            have Hbl := Lib.hid hbl'
            clear hbl'
            have HC : Hid (∀ W, SB l (some ⟨gb, go, none⟩) c w0 b4 b5 b6 b7 bl' W → Calls Tryz.prog 76 #[.agg #[.int .i64 s0, .int .i64 s1, .int .i64 s2, .int .i64 s3, .int .i64 ((n : Int) + 1), .int .i64 s5, .int .i64 s6], .int .i64 5, .int .i64 (cost + y), .int .i64 (left - sh), .pointer (some ⟨b4, 0, none⟩), .pointer (some ⟨b5, 0, none⟩), .pointer (some ⟨b6, 0, none⟩), .pointer (some ⟨b7, 0, none⟩)] W fun e w' =>
                e = .returned (.tuple #[]) ∧ SB l (some ⟨gb, go, none⟩) c w0 b4 b5 b6 b7 (settleF l f bl' [s0, s1, s2, s3, (n : Int) + 1, s5, s6] 5 (cost + y) (left - sh)) w' ∧ Keep2 b4 b5 W w') := Lib.hid (fun W hW =>
              ih 5 bl' [s0, s1, s2, s3, (n : Int) + 1, s5, s6] (cost + y) (left - sh) W (by omega) rfl (by omega) (by omega) (by omega) (by omega) (fun h => by omega) (fun _ => by obtain ⟨k, t, e, h1, h6⟩ := Hg.out; injection e with e _; subst e; exact ⟨k, _, rfl, h1, h6⟩) hW)
            have hst : Hid (F bl' n = settleF l f bl' [s0, s1, s2, s3, (n : Int) + 1, s5, s6] 5 (cost + y) (left - sh)) := Lib.hid (by rw [HF.out]; unfold settleStep; rw [← Hsh.out, if_pos hfit, ← Hx.out, ← Hy.out]; rfl)
            go_wp2_with fail
            obtain ⟨W2, hW2⟩ : ∃ W2, W2 = wr.alloc (.cells #[.int .i64 s0, .int .i64 s1, .int .i64 s2, .int .i64 s3, .int .i64 ((n : Int) + 1), .int .i64 s5, .int .i64 s6] 138) := ⟨_, rfl⟩
            have hb2 : Below wr.heap.size wr W2 := by rw [hW2]; exact below1 _ _
            have hK2 : W2.heap[wr.heap.size]? = some (.cells (vs [s0, s1, s2, s3, (n : Int) + 1, s5, s6]) 138 (0, 0)) := by rw [hW2]; exact blk_new wr _
            rw [← hW2]
            have HBd : Hid (SB l (some ⟨gb, go, none⟩) c w0 b4 b5 b6 b7 bl' W2.drew) := Lib.hid ((HBr'.out.carry hb2).carry ((Below.refl _ _).drew))
            have n4 := blk_lt HBr'.out.best
            have n5 := blk_lt HBr'.out.least
            obtain ⟨d1, d2, d3, d4, d5, d6, d7, d8, d9, d10⟩ := cell9 (HBr'.out.carry hb2) hK2 hc0x
            have HK2 := Lib.hid hK2
            have Hb2 := Lib.hid hb2
            clear hW2 cc6 cc7 p0 p1 p2 p3 p4 p5 p6 hcx hK2 hb2
            go_region_held3 (fun W => W.cell? ⟨b7, 0, none⟩ = some (.func (.func 76) #[] #[.pointer (some ⟨b4, 0, none⟩), .pointer (some ⟨b5, 0, none⟩), .pointer (some ⟨b6, 0, none⟩), .pointer (some ⟨b7, 0, none⟩)]) ∧ W.cell? ⟨b6, 0, none⟩ = some (.slice (some ⟨gb, go, none⟩) l.length c) ∧ W.cell? ⟨gb, go + 4, none⟩ = some (.int .i64 x) ∧
              W.cell? ⟨wr.heap.size, 0, none⟩ = some (.int .i64 s0) ∧ W.cell? ⟨wr.heap.size, 1, none⟩ = some (.int .i64 s1) ∧ W.cell? ⟨wr.heap.size, 2, none⟩ = some (.int .i64 s2) ∧ W.cell? ⟨wr.heap.size, 3, none⟩ = some (.int .i64 s3) ∧ W.cell? ⟨wr.heap.size, 4, none⟩ = some (.int .i64 ((n : Int) + 1)) ∧ W.cell? ⟨wr.heap.size, 5, none⟩ = some (.int .i64 s5) ∧ W.cell? ⟨wr.heap.size, 6, none⟩ = some (.int .i64 s6))
              (first | exact ⟨d1, d2, d3, d4, d5, d6, d7, d8, d9, d10⟩ | exact S9)
              ((go_at_call 76; rw [e6.out, e5.out, hye, e4, e2]; refine (HC.out _ HBd.out).mono ?_; rintro e w9 ⟨rfl, hB9, hk9⟩; have S9 := cell9 hB9 ((hk9.block _ (blk_lt HK2.out) (by omega) (by omega)).trans HK2.out) hc0x; have HB9 := Lib.hid hB9; have Hk9 := Lib.hid hk9; clear hB9 hk9))
            have hX9 : Hid (w9.heap[w.heap.size]? = some (.cells (vs [s0, s1, s2, s3, s4, s5, s6]) 138 (0, 0))) := Lib.hid (by
              have l0 := blk_lt HXr.out
              have l2 := Hb2.out.size
              have l4 := blk_lt HB.out.best
              have l5 := blk_lt HB.out.least
              exact (Hk9.out.block _ (Nat.lt_of_lt_of_le l0 l2) (by omega) (by omega)).trans ((Hb2.out.block _ l0).trans HXr.out))
            have hK9 : Hid (Keep2 b4 b5 w w9) := Lib.hid ((HKr.out.trans (.of_below Hb2.out)).trans ((Keep2.of_below ((Below.refl _ _).drew)).trans Hk9.out))
            go_wp2
            exact ⟨⟨n + 1, by omega, by simp, by rw [fold_range_succ, ← Hbl.out, hst.out]; exact HB9, hX9, hK9⟩, by simp [intOf]; omega⟩
          · have hst : Hid (F ((List.range n).foldl F ([0, 0, 0, 0, 0, 0, 0], least)) n = (List.range n).foldl F ([0, 0, 0, 0, 0, 0, 0], least)) := Lib.hid (by rw [HF.out]; unfold settleStep; rw [← Hsh.out, if_neg hfit])
            go_wp2
            exact ⟨⟨n + 1, by omega, by simp, by rw [fold_range_succ, hst.out]; exact HBr, HXr, HKr⟩, by simp [intOf]; omega⟩
        · obtain rfl : n = 6 := by omega
          go_wp2
          refine bodyPost_end (results_none rfl _ _ _) rfl ?_
          rw [hr.out]
          exact ⟨rfl, HBr.out, HKr.out⟩
    · injection hk with z0 hk
      subst z0
      have hn := eq_no k hk1 hk6 c1 c2 c3 c4 c5 c6
      have hlc : ¬ least ≤ cost := fun h => hq ⟨fun e => by injection e with e _; omega, h⟩
      clear hk hq
      rw [vse]
      go_enter Tryz.func76, Tryz.ntmps76
      go_wp2_with fail
      go_loopw [31] (fun iv wr => ∃ n : Nat, n ≤ 6 ∧ iv = .int .i64 n ∧ Hid (SB l (some ⟨gb, go, none⟩) c w0 b4 b5 b6 b7 ((List.range n).foldl F ([(k : Int), c1, c2, c3, c4, c5, c6], least)) wr) ∧ Hid (wr.heap[w.heap.size]? = some (.cells (vs [s0, s1, s2, s3, s4, s5, s6]) 138 (0, 0))) ∧ Hid (Keep2 b4 b5 w wr)) (fun iv _ => 6 - (intOf iv).toNat)
      case atStart => exact ⟨0, by omega, rfl, HW, HX, Lib.hid (.of_below (below1 _ _))⟩
      case round =>
        obtain ⟨n, hn6, rfl, HBr, HXr, HKr⟩ := hrel
        by_cases hlt : n < 6
        · obtain ⟨sh, hsh⟩ : ∃ sh, sh = shareN n := ⟨_, rfl⟩
          have hse : (64 : Int) / 2 ^ (n + 1) = sh := by rw [hsh]; exact shr_share n hlt
          have hs0 : 0 ≤ sh := by rw [hsh]; exact Int.natCast_nonneg _
          have Hsh := Lib.hid hsh
          clear hsh
          by_cases hfit : sh ≤ left
          · obtain ⟨ad, had, hcell⟩ := Kd.at_int (Kd.C_below hC HBr.out.below) 4 (by omega) (by omega)
            cases had
            have hlen1 : (4 : Int) < l.length := by omega
            obtain ⟨x, hx⟩ : ∃ x, x = rd l (4 : Nat) := ⟨_, rfl⟩
            have hxm := hlm x (by rw [hx, rd_nat _ _ (by omega)]; exact List.getElem_mem _)
            have hcx : wr.cell? ⟨gb, go + 4, none⟩ = some (.int .i64 x) := by rw [hx]; exact hcell
            have Hx := Lib.hid hx
            clear hcell hx
            have cc6 := box_cell HBr.out.often
            have cc7 := box_cell HBr.out.self
            obtain ⟨p0, p1, p2, p3, p4, p5, p6⟩ := cell_arr HXr.out
            obtain ⟨y, hy'⟩ : ∃ y, y = x * ((n : Int) + 1) := ⟨_, rfl⟩
            have hy0 : 0 ≤ y := by rw [hy']; exact Int.mul_nonneg hxm.1 (by omega)
            have hy6 : y ≤ 6000 := by rw [hy']; exact Int.le_trans (Int.mul_le_mul hxm.2 (show (n : Int) + 1 ≤ 6 by omega) (by omega) (by decide)) (by decide)
            have hye : x * ((n : Int) + 1) = y := hy'.symm
            have Hy := Lib.hid hy'
            clear hy'
            have e2 : IntKind.i64.wrap (cost + y) = cost + y := by rw [IntKind.wrap_i64]; omega
            have e3 : IntKind.i64.wrap (left - sh) = left - sh := by rw [IntKind.wrap_i64]; omega
            have e4 : IntKind.i64.wrap y = y := by rw [IntKind.wrap_i64]; omega
            have e5 : Hid (IntKind.i64.wrap ((n : Int) + 1) = n + 1) := Lib.hid (by rw [IntKind.wrap_i64]; omega)
            have e6 : Hid (IntKind.i64.wrap 5 = 5) := Lib.hid (by decide)
            have hc0x : w0.cell? ⟨gb, go + 4, none⟩ = some (.int .i64 x) := by
              obtain ⟨ad', e, h⟩ := Kd.at_int hC 4 (by omega) (by omega)
              cases e
              rw [Hx.out]; exact h
            obtain ⟨bl', hbl'⟩ : ∃ bl', bl' = (List.range n).foldl F ([(k : Int), c1, c2, c3, c4, c5, c6], least) := ⟨_, rfl⟩
            have HBr' : Hid (SB l (some ⟨gb, go, none⟩) c w0 b4 b5 b6 b7 bl' wr) := Lib.hid (by rw [hbl']; exact HBr.out)
            have Hbl := Lib.hid hbl'
            clear hbl'
            have HC : Hid (∀ W, SB l (some ⟨gb, go, none⟩) c w0 b4 b5 b6 b7 bl' W → Calls Tryz.prog 76 #[.agg #[.int .i64 s0, .int .i64 s1, .int .i64 s2, .int .i64 s3, .int .i64 ((n : Int) + 1), .int .i64 s5, .int .i64 s6], .int .i64 5, .int .i64 (cost + y), .int .i64 (left - sh), .pointer (some ⟨b4, 0, none⟩), .pointer (some ⟨b5, 0, none⟩), .pointer (some ⟨b6, 0, none⟩), .pointer (some ⟨b7, 0, none⟩)] W fun e w' =>
                e = .returned (.tuple #[]) ∧ SB l (some ⟨gb, go, none⟩) c w0 b4 b5 b6 b7 (settleF l f bl' [s0, s1, s2, s3, (n : Int) + 1, s5, s6] 5 (cost + y) (left - sh)) w' ∧ Keep2 b4 b5 W w') := Lib.hid (fun W hW =>
              ih 5 bl' [s0, s1, s2, s3, (n : Int) + 1, s5, s6] (cost + y) (left - sh) W (by omega) rfl (by omega) (by omega) (by omega) (by omega) (fun h => by omega) (fun _ => by obtain ⟨k, t, e, h1, h6⟩ := Hg.out; injection e with e _; subst e; exact ⟨k, _, rfl, h1, h6⟩) hW)
            have hst : Hid (F bl' n = settleF l f bl' [s0, s1, s2, s3, (n : Int) + 1, s5, s6] 5 (cost + y) (left - sh)) := Lib.hid (by rw [HF.out]; unfold settleStep; rw [← Hsh.out, if_pos hfit, ← Hx.out, ← Hy.out]; rfl)
            go_wp2_with fail
            obtain ⟨W2, hW2⟩ : ∃ W2, W2 = wr.alloc (.cells #[.int .i64 s0, .int .i64 s1, .int .i64 s2, .int .i64 s3, .int .i64 ((n : Int) + 1), .int .i64 s5, .int .i64 s6] 138) := ⟨_, rfl⟩
            have hb2 : Below wr.heap.size wr W2 := by rw [hW2]; exact below1 _ _
            have hK2 : W2.heap[wr.heap.size]? = some (.cells (vs [s0, s1, s2, s3, (n : Int) + 1, s5, s6]) 138 (0, 0)) := by rw [hW2]; exact blk_new wr _
            rw [← hW2]
            have HBd : Hid (SB l (some ⟨gb, go, none⟩) c w0 b4 b5 b6 b7 bl' W2.drew) := Lib.hid ((HBr'.out.carry hb2).carry ((Below.refl _ _).drew))
            have n4 := blk_lt HBr'.out.best
            have n5 := blk_lt HBr'.out.least
            obtain ⟨d1, d2, d3, d4, d5, d6, d7, d8, d9, d10⟩ := cell9 (HBr'.out.carry hb2) hK2 hc0x
            have HK2 := Lib.hid hK2
            have Hb2 := Lib.hid hb2
            clear hW2 cc6 cc7 p0 p1 p2 p3 p4 p5 p6 hcx hK2 hb2
            go_region_held3 (fun W => W.cell? ⟨b7, 0, none⟩ = some (.func (.func 76) #[] #[.pointer (some ⟨b4, 0, none⟩), .pointer (some ⟨b5, 0, none⟩), .pointer (some ⟨b6, 0, none⟩), .pointer (some ⟨b7, 0, none⟩)]) ∧ W.cell? ⟨b6, 0, none⟩ = some (.slice (some ⟨gb, go, none⟩) l.length c) ∧ W.cell? ⟨gb, go + 4, none⟩ = some (.int .i64 x) ∧
              W.cell? ⟨wr.heap.size, 0, none⟩ = some (.int .i64 s0) ∧ W.cell? ⟨wr.heap.size, 1, none⟩ = some (.int .i64 s1) ∧ W.cell? ⟨wr.heap.size, 2, none⟩ = some (.int .i64 s2) ∧ W.cell? ⟨wr.heap.size, 3, none⟩ = some (.int .i64 s3) ∧ W.cell? ⟨wr.heap.size, 4, none⟩ = some (.int .i64 ((n : Int) + 1)) ∧ W.cell? ⟨wr.heap.size, 5, none⟩ = some (.int .i64 s5) ∧ W.cell? ⟨wr.heap.size, 6, none⟩ = some (.int .i64 s6))
              (first | exact ⟨d1, d2, d3, d4, d5, d6, d7, d8, d9, d10⟩ | exact S9)
              ((go_at_call 76; rw [e6.out, e5.out, hye, e4, e2]; refine (HC.out _ HBd.out).mono ?_; rintro e w9 ⟨rfl, hB9, hk9⟩; have S9 := cell9 hB9 ((hk9.block _ (blk_lt HK2.out) (by omega) (by omega)).trans HK2.out) hc0x; have HB9 := Lib.hid hB9; have Hk9 := Lib.hid hk9; clear hB9 hk9))
            have hX9 : Hid (w9.heap[w.heap.size]? = some (.cells (vs [s0, s1, s2, s3, s4, s5, s6]) 138 (0, 0))) := Lib.hid (by
              have l0 := blk_lt HXr.out
              have l2 := Hb2.out.size
              have l4 := blk_lt HB.out.best
              have l5 := blk_lt HB.out.least
              exact (Hk9.out.block _ (Nat.lt_of_lt_of_le l0 l2) (by omega) (by omega)).trans ((Hb2.out.block _ l0).trans HXr.out))
            have hK9 : Hid (Keep2 b4 b5 w w9) := Lib.hid ((HKr.out.trans (.of_below Hb2.out)).trans ((Keep2.of_below ((Below.refl _ _).drew)).trans Hk9.out))
            go_wp2
            exact ⟨⟨n + 1, by omega, by simp, by rw [fold_range_succ, ← Hbl.out, hst.out]; exact HB9, hX9, hK9⟩, by simp [intOf]; omega⟩
          · have hst : Hid (F ((List.range n).foldl F ([(k : Int), c1, c2, c3, c4, c5, c6], least)) n = (List.range n).foldl F ([(k : Int), c1, c2, c3, c4, c5, c6], least)) := Lib.hid (by rw [HF.out]; unfold settleStep; rw [← Hsh.out, if_neg hfit])
            go_wp2
            exact ⟨⟨n + 1, by omega, by simp, by rw [fold_range_succ, hst.out]; exact HBr, HXr, HKr⟩, by simp [intOf]; omega⟩
        · obtain rfl : n = 6 := by omega
          go_wp2
          refine bodyPost_end (results_none rfl _ _ _) rfl ?_
          rw [hr.out]
          exact ⟨rfl, HBr.out, HKr.out⟩
end Go.Proofs.YtfnibmcenjiodaaGreatDoor.M
