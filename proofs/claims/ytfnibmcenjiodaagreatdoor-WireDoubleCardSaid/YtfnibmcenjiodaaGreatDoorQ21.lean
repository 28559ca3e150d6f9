/- Contracts and plain laws that the claim's card stands on (texts R5 M45 M46 of the work, put together). No statement of the seat is proved here. -/
import Derived.Deep.LoopGhost
import Derived.BigQuiet
import Derived.Deep.CutRange
import Derived.Test.YtfnibmcenjiodaaGreatDoorQ14
import Derived.Test.YtfnibmcenjiodaaGreatDoorQ15
import Derived.Test.YtfnibmcenjiodaaGreatDoorQ16
import Derived.Test.YtfnibmcenjiodaaGreatDoorQ17
import Derived.Test.YtfnibmcenjiodaaGreatDoorQ20
set_option linter.unusedVariables false
set_option linter.unusedSimpArgs false
namespace Go.Proofs.YtfnibmcenjiodaaGreatDoor.R
open Go.RowKit Go.Proofs.YtfnibmcenjiodaaGreatDoorW.PrintWords Go.Proofs.YtfnibmcenjiodaaGreatDoorW.PrintLast Go.Proofs.YtfnibmcenjiodaaGreatDoorW.PrintMore
attribute [local go_sem] max2_int min2_int max_two min_two max_three min_three max_four min_four   -- for this text's walks alone
def oilcakelaw11_orders.l0 : Nat → Int → List Int → Int → List Int → Int → Int → List ByteArray → Option (List Int)
  | 0, _, _, _, _, _, _, _ => none
  | k + 1, x2, x7, x8, x12, x13, x14, x182000 => if x14 < x13 then (if 0 ≤ x14 then (if x14 < (x12.length : Int) then (if (x182000.length : Int) = 0 then (none) else (if 0 ≤ (Int.tmod (wrap64 (rd x12 x14)) (x182000.length : Int)) then (if (Int.tmod (wrap64 (rd x12 x14)) (x182000.length : Int)) < (x182000.length : Int) then (if (wrap64 (x8 + ((rdOf ByteArray.empty x182000 (Int.tmod (wrap64 (rd x12 x14)) (x182000.length : Int))).size : Int))) > x2 then (some x7) else (if x7.length < 17592186044416 then (oilcakelaw11_orders.l0 k x2 (x7 ++ [wrap64 ((Int.tmod (wrap64 (rd x12 x14)) (x182000.length : Int)) + 1)]) (wrap64 (x8 + ((rdOf ByteArray.empty x182000 (Int.tmod (wrap64 (rd x12 x14)) (x182000.length : Int))).size : Int))) x12 x13 (wrap64 (x14 + 1)) x182000) else (none))) else (none)) else (none))) else (none)) else (none)) else (some x7)
def oilcakelaw11_orders.f (k : Nat) (l0_0 : List ByteArray) (l1 : List Int) (a2 : Int) : Option (List Int) := oilcakelaw11_orders.l0 k a2 ([] : List Int) 0 l1 (l1.length : Int) 0 l0_0
set_option maxHeartbeats 8000000 in
set_option maxRecDepth 100000 in
theorem oilcakelaw11_orders.calls (k : Nat) (A0_0 : Option Addr) (c0_0 : Nat) (l0_0 : List ByteArray) (A1 : Option Addr) (c1 : Nat) (l1 : List Int) (a2 : Int) (r : List Int) (w : World) (hr0_0 : Kd.C Kd.string w A0_0 l0_0.length l0_0) (hc0_0 : l0_0.length ≤ c0_0) (hr1 : Kd.C (Kd.int .u8) w A1 l1.length l1) (hc1 : l1.length ≤ c1) (h : oilcakelaw11_orders.f k l0_0 l1 a2 = some r) :
    Calls Tryz.prog 28 #[.agg #[.slice A0_0 l0_0.length c0_0], .slice A1 l1.length c1, .int .i64 a2] w fun e w' => ∃ v0_ : Value, e = .returned (v0_) ∧ Kd.R (Kd.int .i64) 3 w' w.heap.size (fun _ => True) v0_ r ∧ Below w.heap.size w w' := by
  have hu24 := Tryz.underlying24
  have HR0_0 := Aside0.mk hr0_0
  have HC0_0 := Aside0.mk hc0_0
  clear hr0_0 hc0_0
  have HR1 := Aside0.mk hr1
  have HC1 := Aside0.mk hc1
  clear hr1 hc1
  have HB := Aside0.mk (Below.refl w.heap.size w)
  have H : (oilcakelaw11_orders.l0 k a2 ([] : List Int) 0 l1 (l1.length : Int) 0 l0_0) = some r := h
  clear h
  have H' := Aside0.mk H
  clear H
  go_enter Tryz.func28, Tryz.ntmps28
  go_wp2_with (first | ((with_reducible refine gate_dst (N := 3) rfl ?_); refine box_event ?hg (N := 3) ?hd (cs := #[.slice A0_0 l0_0.length c0_0]) (t := 24) ?hr ?_; (case hd => rfl); (case hg => rfl); (case hr => first | (go_simp; done) | (go_simp; rfl)); intro gb181 hg w4 hbox hb; have n0_ := Aside0.mk (below_step (by repeat (first | (with_reducible first | exact HB.out | apply below_alloc | apply pw_below_drewN | apply below_drew1) | exact HB.out)) hb); have n1_ := Aside0.mk (hbox); have n2_ := Aside0.mk ((by rw [hg]; exact (below_size (by repeat (first | (with_reducible first | exact HB.out | apply below_alloc | apply pw_below_drewN | apply below_drew1) | exact HB.out))) : w.heap.size ≤ gb181)); have n3_ := Aside0.mk ((by rw [hg]; exact (below_size (by repeat (first | (with_reducible first | exact HB.out | apply below_alloc | apply pw_below_drewN | apply below_drew1) | exact HB.out))) : w.heap.size ≤ gb181)); clear HB; have HB := n0_; have BK181 := n1_; have GW181 := n2_; have GE181 := n3_; clear n0_ n1_ n2_ n3_; clear hb hbox hg))
  go_loopg [7, 8, 14] k (fun kq v7 v8 v14 w' => ∃ (x7_1 : List Int) (x8_1 : Int) (x14_1 : Int), v8 = .int .i64 x8_1 ∧ v14 = .int .i64 x14_1 ∧ Aside0 (oilcakelaw11_orders.l0 kq a2 x7_1 x8_1 l1 (l1.length : Int) x14_1 l0_0 = some r) ∧ Aside0 (kq ≤ k) ∧ Aside0 (Kd.R (Kd.int .i64) 3 w' w.heap.size (fun _ => True) v7 x7_1) ∧ Aside0 (w'.heap[gb181]? = some (.cells #[(.slice A0_0 l0_0.length c0_0)] 24 (0, 0))) ∧ Aside0 (Below w.heap.size w w'))
  case atStart => exact ⟨(([] : List Int)), (0), (0), (by first | rfl | (simp; done) | (simp [*]; done)), (by first | rfl | (simp; done) | (simp [*]; done)), H', ⟨Nat.le_refl _⟩, ⟨by first | exact Kd.R_nil _ _ _ _ _ | exact Kd.N_nil _ _ _ _ _ | exact Kd.V_nil _ _ _ _ _ | exact Kd.Q_nil _ _ _ _ _ | exact Kd.S_nil _ _ _ _ _⟩, ⟨by (with_reducible repeat (first | refine blk_drewN ?_ _ | refine blk_drew ?_ | refine blk_alloc ?_ _)); exact BK181.out⟩, ⟨by repeat (first | (with_reducible first | exact HB.out | apply below_alloc | apply pw_below_drewN | apply below_drew1 | refine below_set ?_ GE181.out) | exact HB.out)⟩⟩
  case round =>
    clear H'
    try clear c1
    try clear c2
    try clear p2
    obtain ⟨x7_1, x8_1, x14_1, rfl, rfl, HA, HK1, HO_7, BK181, HB⟩ := hrel
    cases gk with
    | zero => exact absurd HA.out (by simp [oilcakelaw11_orders.l0])
    | succ k1 =>
      have H := HA.out
      clear HA
      simp only [oilcakelaw11_orders.l0] at H
      by_cases c5 : x14_1 < (l1.length : Int)
      · rw [if_pos c5] at H
        have c5b0 : decide (x14_1 < (l1.length : Int)) = true := decide_eq_true c5
        clear c5
        by_cases c6 : 0 ≤ x14_1
        · rw [if_pos c6] at H
          have c6b0 : decide (0 ≤ x14_1) = true := decide_eq_true c6
          clear c6
          by_cases c7 : x14_1 < (l1.length : Int)
          · rw [if_pos c7] at H
            have c7b0 : decide (x14_1 < (l1.length : Int)) = true := decide_eq_true c7
            clear c7
            by_cases c8 : (l0_0.length : Int) = 0
            · rw [if_pos c8] at H
              exact absurd H (by simp)
            · rw [if_neg c8] at H
              have c8b0 : ((l0_0.length : Int) == 0) = false := beq_eq_false_iff_ne.mpr c8
              have c8b1 : ((l0_0.length : Int) != 0) = true := bne_iff_ne.mpr c8
              have c8b2 : ¬ (l0_0 = []) := fun h_ => c8 (by rw [h_]; rfl)
              obtain ⟨ji9, hji9⟩ : ∃ j_ : Int, (Int.tmod (wrap64 (rd l1 x14_1)) (l0_0.length : Int)) = j_ := ⟨_, rfl⟩
              replace H : (if 0 ≤ (ji9) then (if (ji9) < (l0_0.length : Int) then (if (wrap64 (x8_1 + ((rdOf ByteArray.empty l0_0 (ji9)).size : Int))) > a2 then (some x7_1) else (if x7_1.length < 17592186044416 then (oilcakelaw11_orders.l0 k1 a2 (x7_1 ++ [wrap64 ((ji9) + 1)]) (wrap64 (x8_1 + ((rdOf ByteArray.empty l0_0 (ji9)).size : Int))) l1 (l1.length : Int) (wrap64 (x14_1 + 1)) l0_0) else (none))) else (none)) else (none)) = some r := by first | (rw [hji9] at H; exact H) | (simp only [hji9] at H ⊢; exact H)
              by_cases c10 : 0 ≤ (ji9)
              · rw [if_pos c10] at H
                have c10b0 : decide (0 ≤ (ji9)) = true := decide_eq_true c10
                clear c10
                by_cases c11 : (ji9) < (l0_0.length : Int)
                · rw [if_pos c11] at H
                  have c11b0 : decide ((ji9) < (l0_0.length : Int)) = true := decide_eq_true c11
                  clear c11
                  by_cases c12 : (wrap64 (x8_1 + ((rdOf ByteArray.empty l0_0 (ji9)).size : Int))) > a2
                  · rw [if_pos c12] at H
                    have c12b0 : decide (a2 < (wrap64 (x8_1 + ((rdOf ByteArray.empty l0_0 (ji9)).size : Int)))) = true := decide_eq_true c12
                    clear c12
                    obtain rfl := Option.some.inj H
                    have p182 : 0 ≤ (x14_1 : Int) := of_decide_eq_true (by first | (with_reducible assumption) | assumption)
                    have q182 : x14_1 < (l1.length : Int) := of_decide_eq_true (by first | (with_reducible assumption) | assumption)
                    obtain ⟨ad182, e182, hx182_0⟩ := Kd.at_int HR1.out x14_1 p182 q182
                    cases e182
                    replace hx182_0 := (HB.out.cell (World.block_lt_of_cell? w _ hx182_0)).trans hx182_0
                    replace p182 := eq_true p182
                    replace q182 := eq_true q182
                    have hcz13_0 : wr.cell? ⟨gb181, 0, none⟩ = some (.slice A0_0 l0_0.length c0_0) := (blk_cell BK181.out 0).trans rfl
                    have hfz13_0 := blk_frozen BK181.out 0
                    have p183 : 0 ≤ ((ji9) : Int) := of_decide_eq_true (by first | (with_reducible assumption) | assumption)
                    have q183 : (ji9) < (l0_0.length : Int) := of_decide_eq_true (by first | (with_reducible assumption) | assumption)
                    obtain ⟨ad183, e183, hx183_0⟩ := Kd.at_string HR0_0.out (ji9) p183 q183
                    cases e183
                    replace hx183_0 := (HB.out.cell (World.block_lt_of_cell? w _ hx183_0)).trans hx183_0
                    replace p183 := eq_true p183
                    replace q183 := eq_true q183
                    go_wp2
                    go_ret
                    exact ⟨_, by first | rfl | (simp [errW_none, errW_some] <;> rfl) | (simp only [← hji9]; first | rfl | (simp [errW_none, errW_some] <;> rfl)) | (simp [*, errW_none, errW_some] <;> rfl), by (with_reducible repeat (first | apply Kd.R_alloc | apply Kd.R_drewN | apply Kd.R_drew)); exact HO_7.out, by repeat (first | (with_reducible first | exact HB.out | apply below_alloc | apply pw_below_drewN | apply below_drew1 | refine below_set ?_ GE181.out) | exact HB.out)⟩
                  · rw [if_neg c12] at H
                    have c12b0 : decide (a2 < (wrap64 (x8_1 + ((rdOf ByteArray.empty l0_0 (ji9)).size : Int)))) = false := decide_eq_false c12
                    clear c12
                    by_cases c14 : x7_1.length < 17592186044416
                    · rw [if_pos c14] at H
                      have LMc14 := Aside0.mk c14
                      clear c14
                      obtain ⟨y184, hy184⟩ : ∃ y_ : List Int, y_ = (x7_1 ++ [wrap64 ((ji9) + 1)]) := ⟨_, rfl⟩
                      replace H : (oilcakelaw11_orders.l0 k1 a2 y184 (wrap64 (x8_1 + ((rdOf ByteArray.empty l0_0 (ji9)).size : Int))) l1 (l1.length : Int) (wrap64 (x14_1 + 1)) l0_0) = some r := by first | (rw [hy184]; with_reducible exact H) | (have H2_ := (Option.bind_some _ _).symm.trans H; rw [hy184]; with_reducible exact H2_) | (have H2_ := (Option.bind_some _ _).symm.trans H; with_reducible exact H2_) | with_reducible exact H | (rw [hy184]; exact H) | exact H
                      have Ny184 := Aside0.mk hy184
                      clear hy184
                      have H' := Aside0.mk H
                      clear H
                      have p182 : 0 ≤ (x14_1 : Int) := of_decide_eq_true (by first | (with_reducible assumption) | assumption)
                      have q182 : x14_1 < (l1.length : Int) := of_decide_eq_true (by first | (with_reducible assumption) | assumption)
                      obtain ⟨ad182, e182, hx182_0⟩ := Kd.at_int HR1.out x14_1 p182 q182
                      cases e182
                      replace hx182_0 := (HB.out.cell (World.block_lt_of_cell? w _ hx182_0)).trans hx182_0
                      replace p182 := eq_true p182
                      replace q182 := eq_true q182
                      have hcz15_0 : wr.cell? ⟨gb181, 0, none⟩ = some (.slice A0_0 l0_0.length c0_0) := (blk_cell BK181.out 0).trans rfl
                      have hfz15_0 := blk_frozen BK181.out 0
                      have p183 : 0 ≤ ((ji9) : Int) := of_decide_eq_true (by first | (with_reducible assumption) | assumption)
                      have q183 : (ji9) < (l0_0.length : Int) := of_decide_eq_true (by first | (with_reducible assumption) | assumption)
                      obtain ⟨ad183, e183, hx183_0⟩ := Kd.at_string HR0_0.out (ji9) p183 q183
                      cases e183
                      replace hx183_0 := (HB.out.cell (World.block_lt_of_cell? w _ hx183_0)).trans hx183_0
                      replace p183 := eq_true p183
                      replace q183 := eq_true q183
                      go_wp2_with (first | ((with_reducible refine gate_builtin (b := .append) (xs := #[.tmp 35, .tmp 38]) rfl ?_); at_builtin; refine Kd.R_append (Kd.int .i64) (w0 := w) w.heap.size rfl (.tmp 35) (.tmp 38) 25 3 (.int .i64 0) 8 rfl Tryz.underlying25 info3 rfl (by decide) (by omega) u7 x7_1 (wrap64 ((ji9) + 1)) [.int .i64 (wrap64 ((ji9) + 1))] (fun _ => True) (fun _ => False) rfl rfl ?aP (fun _ hk => hk.elim) ?aF ?aO ?aB ?aS ?aL ?_; (case aP => exact rfl); (case aB => exact (by repeat (first | (with_reducible first | exact HB.out | apply below_alloc | apply pw_below_drewN | apply below_drew1 | refine below_set ?_ GE181.out) | exact HB.out))); (case aF => exact (fun _ _ => trivial)); (case aO => exact (by (with_reducible repeat (first | apply Kd.R_alloc | apply Kd.R_drewN | apply Kd.R_drew)); exact HO_7.out)); (case aS => exact (below_size (by repeat (first | (with_reducible first | exact HB.out | apply below_alloc | apply pw_below_drewN | apply below_drew1 | refine below_set ?_ GE181.out) | exact HB.out)))); (case aL => have := LMc14.out; omega); intro v185 w16 ho hb hg hat; rw [← Ny184.out] at ho; have n0_ := Aside0.mk (blk_grown (g := gb181) (o := .cells #[.slice (some ad183) l0_0.length c0_0] 24 (0, 0)) (by (with_reducible repeat (first | refine blk_drewN ?_ _ | refine blk_drew ?_ | refine blk_alloc ?_ _)); exact BK181.out) hg (Kd.R_ne HO_7.out BK181.out (by decide))); have n1_ := Aside0.mk (hb); have n2_ := Aside0.mk (ho); clear BK181; clear HB; clear HO_7; have BK181 := n0_; have HB := n1_; have HO186 := n2_; clear n0_ n1_ n2_; clear ho hb hg hat))
                      go_roundg k1
                      case measure => have := HK1.out; omega
                      case rel => exact ⟨(y184), (wrap64 (x8_1 + ((rdOf ByteArray.empty l0_0 (ji9)).size : Int))), (wrap64 (x14_1 + 1)), (by first | rfl | (simp; done) | (simp only [← hji9] <;> (first | rfl | simp)) | (simp [*]; done)), (by first | rfl | (simp; done) | (simp [*]; done)), H', ⟨by have := HK1.out; omega⟩, ⟨by (with_reducible repeat (first | apply Kd.R_alloc | apply Kd.R_drewN | apply Kd.R_drew)); exact HO186.out⟩, ⟨by (with_reducible repeat (first | refine blk_drewN ?_ _ | refine blk_drew ?_ | refine blk_alloc ?_ _)); exact BK181.out⟩, ⟨by repeat (first | (with_reducible first | exact HB.out | apply below_alloc | apply pw_below_drewN | apply below_drew1 | refine below_set ?_ GE181.out) | exact HB.out)⟩⟩
                    · rw [if_neg c14] at H
                      exact absurd H (by simp)
                · rw [if_neg c11] at H
                  exact absurd H (by simp)
              · rw [if_neg c10] at H
                exact absurd H (by simp)
          · rw [if_neg c7] at H
            exact absurd H (by simp)
        · rw [if_neg c6] at H
          exact absurd H (by simp)
      · rw [if_neg c5] at H
        have c5b0 : decide (x14_1 < (l1.length : Int)) = false := decide_eq_false c5
        clear c5
        obtain rfl := Option.some.inj H
        go_wp2
        go_ret
        exact ⟨_, by first | rfl | (simp [errW_none, errW_some] <;> rfl) | (simp [*, errW_none, errW_some] <;> rfl), by (with_reducible repeat (first | apply Kd.R_alloc | apply Kd.R_drewN | apply Kd.R_drew)); exact HO_7.out, by repeat (first | (with_reducible first | exact HB.out | apply below_alloc | apply pw_below_drewN | apply below_drew1 | refine below_set ?_ GE181.out) | exact HB.out)⟩
def oilcakeref11_Before.f (a0 : ByteArray) (a1 : ByteArray) : Option (Bool) := if (a0.size : Int) < (a1.size : Int) then (some true) else (if (a0.size : Int) = (a1.size : Int) then (some (Op.bytesLess a0.toList a1.toList)) else (some false))
set_option maxHeartbeats 8000000 in
set_option maxRecDepth 100000 in
theorem oilcakeref11_Before.calls (a0 : ByteArray) (a1 : ByteArray) (r : Bool) (w : World) (h : oilcakeref11_Before.f a0 a1 = some r) :
    Calls Tryz.prog 44 #[.string a0, .string a1] w fun e w' => e = .returned (.bool r) ∧ Drawn0 w w' := by
  have H : (if (a0.size : Int) < (a1.size : Int) then (some true) else (if (a0.size : Int) = (a1.size : Int) then (some (Op.bytesLess a0.toList a1.toList)) else (some false))) = some r := h
  clear h
  by_cases c3 : (a0.size : Int) < (a1.size : Int)
  · rw [if_pos c3] at H
    have c3b0 : decide ((a0.size : Int) < (a1.size : Int)) = true := decide_eq_true c3
    have c3b1 : decide (a0.size < a1.size) = true := decide_eq_true (Int.ofNat_lt.mp c3)
    clear c3
    obtain rfl := Option.some.inj H
    go_enter Tryz.func44, Tryz.ntmps44
    go_wp2
    go_ret
    exact ⟨by first | rfl | (simp; done) | (simp [*]; done), by repeat (first | exact Drawn0.refl _ | apply Drawn0.step)⟩
  · rw [if_neg c3] at H
    have c3b0 : decide ((a0.size : Int) < (a1.size : Int)) = false := decide_eq_false c3
    have c3b1 : decide (a0.size < a1.size) = false := decide_eq_false (fun h => c3 (Int.ofNat_lt.mpr h))
    clear c3
    by_cases c4 : (a0.size : Int) = (a1.size : Int)
    · rw [if_pos c4] at H
      have c4b0 : ((a0.size : Int) == (a1.size : Int)) = true := beq_iff_eq.mpr c4
      have c4b1 : ((a0.size : Int) != (a1.size : Int)) = false := bne_eq_false_iff_eq.mpr c4
      have c4b2 : (a0.size == a1.size) = true := by first | simpa using c4 | (simp at c4 ⊢; omega)
      clear c4
      obtain rfl := Option.some.inj H
      go_enter Tryz.func44, Tryz.ntmps44
      go_wp2
      go_ret
      exact ⟨by first | rfl | (simp; done) | (simp [*]; done), by repeat (first | exact Drawn0.refl _ | apply Drawn0.step)⟩
    · rw [if_neg c4] at H
      have c4b0 : ((a0.size : Int) == (a1.size : Int)) = false := beq_eq_false_iff_ne.mpr c4
      have c4b1 : ((a0.size : Int) != (a1.size : Int)) = true := bne_iff_ne.mpr c4
      have c4b2 : (a0.size == a1.size) = false := by first | simpa using c4 | (simp at c4 ⊢; omega)
      obtain rfl := Option.some.inj H
      go_enter Tryz.func44, Tryz.ntmps44
      go_wp2
      go_ret
      exact ⟨by first | rfl | (simp; done) | (simp [*]; done), by repeat (first | exact Drawn0.refl _ | apply Drawn0.step)⟩
def oilcakelaw11_is.f (k : Nat) (l0 : List Int) (a1 : Int) (l2 : List Int) : Option (Bool) := if a1 = 0 then ((oilcakeref01_SameInts.f k l0 l2).bind fun t190 => (some t190)) else (some false)
set_option maxHeartbeats 8000000 in
set_option maxRecDepth 100000 in
theorem oilcakelaw11_is.calls (k : Nat) (A0 : Option Addr) (c0 : Nat) (l0 : List Int) (a1 : Int) (A2 : Option Addr) (c2 : Nat) (l2 : List Int) (r : Bool) (w : World) (hr0 : Kd.C (Kd.int .i64) w A0 l0.length l0) (hc0 : l0.length ≤ c0) (hr2 : Kd.C (Kd.int .i64) w A2 l2.length l2) (hc2 : l2.length ≤ c2) (h : oilcakelaw11_is.f k l0 a1 l2 = some r) :
    Calls Tryz.prog 41 #[.slice A0 l0.length c0, .int .i64 a1, .slice A2 l2.length c2] w fun e w' => e = .returned (.bool r) ∧ Drawn0 w w' := by
  have HR0 := Aside0.mk hr0
  have HC0 := Aside0.mk hc0
  clear hr0 hc0
  have HR2 := Aside0.mk hr2
  have HC2 := Aside0.mk hc2
  clear hr2 hc2
  have H : (if a1 = 0 then ((oilcakeref01_SameInts.f k l0 l2).bind fun t190 => (some t190)) else (some false)) = some r := h
  clear h
  by_cases c4 : a1 = 0
  · rw [if_pos c4] at H
    have c4b0 : (a1 == 0) = true := beq_iff_eq.mpr c4
    have c4b1 : (a1 != 0) = false := bne_eq_false_iff_eq.mpr c4
    clear c4
    replace H := Option.bind_eq_some_iff.mp H
    obtain ⟨t190, A50, H⟩ := H
    replace H : (some t190) = some r := H
    have A5 := Aside0.mk A50
    clear A50
    obtain rfl := Option.some.inj H
    go_enter Tryz.func41, Tryz.ntmps41
    go_wp2_with (first | (go_at_call 24; (with_reducible refine (oilcakeref01_SameInts.calls k _ _ l0 _ _ l2 t190 _ ?side1 ?side2 ?side3 ?side4 A5.out).mono ?_); (case side1 => repeat (first | exact HR0.out | (with_reducible refine Kd.C_alloc ?_ _) | (with_reducible refine Kd.C_drewN ?_ _) | (with_reducible refine Kd.C_drew ?_))); (case side2 => exact HC0.out); (case side3 => repeat (first | exact HR2.out | (with_reducible refine Kd.C_alloc ?_ _) | (with_reducible refine Kd.C_drewN ?_ _) | (with_reducible refine Kd.C_drew ?_))); (case side4 => exact HC2.out); rintro e w' ⟨rfl, ⟨nd, rfl⟩⟩))
    go_ret
    exact ⟨by first | rfl | (simp; done) | (simp [*]; done), by repeat (first | exact Drawn0.refl _ | apply Drawn0.step)⟩
  · rw [if_neg c4] at H
    have c4b0 : (a1 == 0) = false := beq_eq_false_iff_ne.mpr c4
    have c4b1 : (a1 != 0) = true := bne_iff_ne.mpr c4
    obtain rfl := Option.some.inj H
    go_enter Tryz.func41, Tryz.ntmps41
    go_wp2
    go_ret
    exact ⟨by first | rfl | (simp; done) | (simp [*]; done), by repeat (first | exact Drawn0.refl _ | apply Drawn0.step)⟩
def oilcakelaw11_texts.f (k : Nat) (l0 : List ByteArray) (a1 : Int) (l2 : List ByteArray) : Option (Bool) := if a1 = 0 then ((oilcakeref11_SameTexts.f k l0 l2).bind fun t191 => (some t191)) else (some false)
set_option maxHeartbeats 8000000 in
set_option maxRecDepth 100000 in
theorem oilcakelaw11_texts.calls (k : Nat) (A0 : Option Addr) (c0 : Nat) (l0 : List ByteArray) (a1 : Int) (A2 : Option Addr) (c2 : Nat) (l2 : List ByteArray) (r : Bool) (w : World) (hr0 : Kd.C Kd.string w A0 l0.length l0) (hc0 : l0.length ≤ c0) (hr2 : Kd.C Kd.string w A2 l2.length l2) (hc2 : l2.length ≤ c2) (h : oilcakelaw11_texts.f k l0 a1 l2 = some r) :
    Calls Tryz.prog 48 #[.slice A0 l0.length c0, .int .i64 a1, .slice A2 l2.length c2] w fun e w' => e = .returned (.bool r) ∧ Drawn0 w w' := by
  have HR0 := Aside0.mk hr0
  have HC0 := Aside0.mk hc0
  clear hr0 hc0
  have HR2 := Aside0.mk hr2
  have HC2 := Aside0.mk hc2
  clear hr2 hc2
  have H : (if a1 = 0 then ((oilcakeref11_SameTexts.f k l0 l2).bind fun t191 => (some t191)) else (some false)) = some r := h
  clear h
  by_cases c4 : a1 = 0
  · rw [if_pos c4] at H
    have c4b0 : (a1 == 0) = true := beq_iff_eq.mpr c4
    have c4b1 : (a1 != 0) = false := bne_eq_false_iff_eq.mpr c4
    clear c4
    replace H := Option.bind_eq_some_iff.mp H
    obtain ⟨t191, A50, H⟩ := H
    replace H : (some t191) = some r := H
    have A5 := Aside0.mk A50
    clear A50
    obtain rfl := Option.some.inj H
    go_enter Tryz.func48, Tryz.ntmps48
    go_wp2_with (first | (go_at_call 25; (with_reducible refine (oilcakeref11_SameTexts.calls k _ _ l0 _ _ l2 t191 _ ?side1 ?side2 ?side3 ?side4 A5.out).mono ?_); (case side1 => repeat (first | exact HR0.out | (with_reducible refine Kd.C_alloc ?_ _) | (with_reducible refine Kd.C_drewN ?_ _) | (with_reducible refine Kd.C_drew ?_))); (case side2 => exact HC0.out); (case side3 => repeat (first | exact HR2.out | (with_reducible refine Kd.C_alloc ?_ _) | (with_reducible refine Kd.C_drewN ?_ _) | (with_reducible refine Kd.C_drew ?_))); (case side4 => exact HC2.out); rintro e w' ⟨rfl, ⟨nd, rfl⟩⟩))
    go_ret
    exact ⟨by first | rfl | (simp; done) | (simp [*]; done), by repeat (first | exact Drawn0.refl _ | apply Drawn0.step)⟩
  · rw [if_neg c4] at H
    have c4b0 : (a1 == 0) = false := beq_eq_false_iff_ne.mpr c4
    have c4b1 : (a1 != 0) = true := bne_iff_ne.mpr c4
    obtain rfl := Option.some.inj H
    go_enter Tryz.func48, Tryz.ntmps48
    go_wp2
    go_ret
    exact ⟨by first | rfl | (simp; done) | (simp [*]; done), by repeat (first | exact Drawn0.refl _ | apply Drawn0.step)⟩
def oilcakelaw11_code.f (l0 : List ByteArray) : Option (List ByteArray) := some l0
set_option maxHeartbeats 8000000 in
set_option maxRecDepth 100000 in
theorem oilcakelaw11_code.calls (P0_ : Nat → Prop) (u9000_ : Value) (l0 : List ByteArray) (r : List ByteArray) (w0 w : World) (hB : Below w0.heap.size w0 w) (ho0 : Kd.R Kd.string 9 w w0.heap.size P0_ u9000_ l0) (h : oilcakelaw11_code.f l0 = some r) :
    Calls Tryz.prog 49 #[u9000_] w fun e w' => ∃ v0_ : Value, e = .returned (.agg #[v0_]) ∧ Kd.R Kd.string 9 w' w0.heap.size (fun k_ => (P0_ k_ ∨ w.heap.size ≤ k_)) v0_ r ∧ Below w0.heap.size w0 w' ∧ Kept w w' (fun k_ => P0_ k_) := by
  have hu24 := Tryz.underlying24
  have HO0 := Aside0.mk (show Kd.R Kd.string 9 w w0.heap.size (fun k_ => (P0_ k_ ∨ w.heap.size ≤ k_)) u9000_ l0 from Kd.R_mono ho0 (fun k_ hk => (.inl hk)))
  have HK := Aside0.mk (Kept.refl w (fun k_ => P0_ k_))
  have HW0 := Aside0.mk hB.size
  have HB := Aside0.mk hB
  clear hB
  have H : (some l0) = some r := h
  clear h
  obtain rfl := Option.some.inj H
  go_enter Tryz.func49, Tryz.ntmps49
  go_wp2_with (first | ((with_reducible refine gate_dst (N := 2) rfl ?_); refine box_event ?hg (N := 2) ?hd (cs := #[.slice none 0 0]) (t := 24) ?hr ?_; (case hd => rfl); (case hg => rfl); (case hr => first | (go_simp; done) | (go_simp; rfl)); intro gb192 hg w2 hbox hb; have n0_ := Aside0.mk (Kd.R_below (by (with_reducible repeat (first | apply Kd.R_alloc | apply Kd.R_drewN | apply Kd.R_drew)); exact HO0.out) hb); have n1_ := Aside0.mk (Kept.below (S := (fun k_ => P0_ k_)) (by repeat (first | (with_reducible first | exact HK.out | apply Kept.alloc | apply Kept.drewN | apply Kept.drew) | exact HK.out)) hb); have n2_ := Aside0.mk (below_step (by repeat (first | (with_reducible first | exact HB.out | apply below_alloc | apply pw_below_drewN | apply below_drew1) | exact HB.out)) hb); have n3_ := Aside0.mk (hbox); have n4_ := Aside0.mk ((by rw [hg]; exact (by first | exact HK.out.1 | exact (show Kept w _ (fun k_ => P0_ k_) from by repeat (first | (with_reducible first | exact HK.out | apply Kept.alloc | apply Kept.drewN | apply Kept.drew) | exact HK.out)).1) : w.heap.size ≤ gb192)); have n5_ := Aside0.mk ((by rw [hg]; exact (below_size (by repeat (first | (with_reducible first | exact HB.out | apply below_alloc | apply pw_below_drewN | apply below_drew1) | exact HB.out))) : w0.heap.size ≤ gb192)); clear HO0; clear HK; clear HB; have HO0 := n0_; have HK := n1_; have HB := n2_; have BK192 := n3_; have GW192 := n4_; have GE192 := n5_; clear n0_ n1_ n2_ n3_ n4_ n5_; clear hb hbox hg; obtain ⟨Ao3, co3, eo3⟩ := Kd.R_slice HO0.out; subst eo3; have hcz4_0 : w2.cell? ⟨gb192, 0, none⟩ = some (.slice none 0 0) := (blk_cell BK192.out 0).trans rfl; have hfz4_0 := blk_frozen BK192.out 0))
  refine bodyPost_ret (results_cell_row rfl _ _ gb192 24 #[.slice Ao3 l0.length co3] (0, 0) _ rfl (by (with_reducible repeat (first | refine blk_drewN ?_ _ | refine blk_drew ?_ | refine blk_alloc ?_ _)); refine blk_put (cs := #[.slice none 0 0]) ?_ 0 _ rfl; (with_reducible repeat (first | refine blk_drewN ?_ _ | refine blk_drew ?_ | refine blk_alloc ?_ _)); exact BK192.out) Tryz.underlying24 rfl (by kernel_rfl)) rfl ?_
  exact ⟨_, by first | rfl | (simp [errW_none, errW_some] <;> rfl) | (simp [*, errW_none, errW_some] <;> rfl), by (with_reducible repeat (first | apply Kd.R_alloc | apply Kd.R_drewN | apply Kd.R_drew)); exact Kd.R_mono (Kd.R_far (p := ⟨gb192, 0, none⟩) (Kd.R_types HO0.out BK192.out (by decide)) (fun _ hk => hk.2) (.slice Ao3 l0.length co3)) (fun _ hk => hk.1), by repeat (first | (with_reducible first | exact HB.out | apply below_alloc | apply pw_below_drewN | apply below_drew1 | refine below_set ?_ GE192.out) | exact HB.out), by repeat (first | (with_reducible first | exact HK.out | apply Kept.alloc | apply Kept.drewN | apply Kept.drew | refine Kept.setCell ?_ (.inr GW192.out) _) | exact HK.out)⟩
def oilcakelaw11_one.f  : Option (List ByteArray) := (oilcakelaw11_code.f (([(⟨#[46]⟩ : ByteArray), (⟨#[45, 46]⟩ : ByteArray), (⟨#[45, 45]⟩ : ByteArray)] : List ByteArray))).bind fun t197 => (some t197)
set_option maxHeartbeats 8000000 in
set_option maxRecDepth 100000 in
theorem oilcakelaw11_one.calls  (r : List ByteArray) (w : World) (h : oilcakelaw11_one.f  = some r) :
    Calls Tryz.prog 45 #[] w fun e w' => ∃ v0_ : Value, e = .returned (.agg #[v0_]) ∧ Kd.R Kd.string 9 w' w.heap.size (fun _ => True) v0_ r ∧ Below w.heap.size w w' := by
  have hu24 := Tryz.underlying24
  have HB := Aside0.mk (Below.refl w.heap.size w)
  have H : ((oilcakelaw11_code.f (([(⟨#[46]⟩ : ByteArray), (⟨#[45, 46]⟩ : ByteArray), (⟨#[45, 45]⟩ : ByteArray)] : List ByteArray))).bind fun t197 => (some t197)) = some r := h
  clear h
  obtain ⟨y194, hy194⟩ : ∃ y_ : List ByteArray, y_ = (([(⟨#[46]⟩ : ByteArray), (⟨#[45, 46]⟩ : ByteArray), (⟨#[45, 45]⟩ : ByteArray)] : List ByteArray)) := ⟨_, rfl⟩
  replace H : ((oilcakelaw11_code.f y194).bind fun t197 => (some t197)) = some r := by first | (rw [hy194]; with_reducible exact H) | (have H2_ := (Option.bind_some _ _).symm.trans H; rw [hy194]; with_reducible exact H2_) | (have H2_ := (Option.bind_some _ _).symm.trans H; with_reducible exact H2_) | with_reducible exact H | (rw [hy194]; exact H) | exact H
  have Ny194 := Aside0.mk hy194
  clear hy194
  replace H := Option.bind_eq_some_iff.mp H
  obtain ⟨t197, A10, H⟩ := H
  replace H : (some t197) = some r := H
  have A1 := Aside0.mk A10
  clear A10
  obtain rfl := Option.some.inj H
  go_enter Tryz.func45, Tryz.ntmps45
  go_wp2_with (first | ((with_reducible refine gate_dst (N := 0) rfl ?_); refine box_event ?hg (N := 0) ?hd (cs := #[.slice none 0 0]) (t := 24) ?hr ?_; (case hd => rfl); (case hg => rfl); (case hr => first | (go_simp; done) | (go_simp; rfl)); intro gb193 hg w2 hbox hb; have n0_ := Aside0.mk (below_step (by repeat (first | (with_reducible first | exact HB.out | apply below_alloc | apply pw_below_drewN | apply below_drew1) | exact HB.out)) hb); have n1_ := Aside0.mk (hbox); have n2_ := Aside0.mk ((by rw [hg]; exact (below_size (by repeat (first | (with_reducible first | exact HB.out | apply below_alloc | apply pw_below_drewN | apply below_drew1) | exact HB.out))) : w.heap.size ≤ gb193)); have n3_ := Aside0.mk ((by rw [hg]; exact (below_size (by repeat (first | (with_reducible first | exact HB.out | apply below_alloc | apply pw_below_drewN | apply below_drew1) | exact HB.out))) : w.heap.size ≤ gb193)); clear HB; have HB := n0_; have BK193 := n1_; have GW193 := n2_; have GE193 := n3_; clear n0_ n1_ n2_ n3_; clear hb hbox hg) | ((with_reducible refine gate_dst (N := 1) rfl ?_); refine Kd.R_lit Kd.string _ 9 ?hg (N := 1) ?hd (xs := ([(⟨#[46]⟩ : ByteArray), (⟨#[45, 46]⟩ : ByteArray), (⟨#[45, 45]⟩ : ByteArray)] : List ByteArray)) (inner := [.string (⟨#[46]⟩ : ByteArray), .string (⟨#[45, 46]⟩ : ByteArray), .string (⟨#[45, 45]⟩ : ByteArray)]) (ok := fun _ => True) (okp := fun _ => True) ?hr ?hp (fun _ hk => hk) trivial (Below.refl _ _) (Nat.le_refl _) (by simp) ?_; (case hd => rfl); (case hg => rfl); (case hr => first | (go_simp; done) | (go_simp; rfl)); (case hp => exact (Reps.one (show Kd.M Kd.string _ _ _ (⟨#[46]⟩ : ByteArray) [.string (⟨#[46]⟩ : ByteArray)] from rfl) (Reps.one (show Kd.M Kd.string _ _ _ (⟨#[45, 46]⟩ : ByteArray) [.string (⟨#[45, 46]⟩ : ByteArray)] from rfl) (Reps.one (show Kd.M Kd.string _ _ _ (⟨#[45, 45]⟩ : ByteArray) [.string (⟨#[45, 45]⟩ : ByteArray)] from rfl) (Reps.none _ _))))); intro v195 w3 ho4 hb hg_ hnew_; clear hg_ hnew_; (first | rw [← Ny194.out] at ho4 | (simp only [Int.reduceToNat] at ho4; rw [← Ny194.out] at ho4)); have n0_ := Aside0.mk (Kd.R_lower ho4 (below_size (by repeat (first | (with_reducible first | exact HB.out | apply below_alloc | apply pw_below_drewN | apply below_drew1 | refine below_set ?_ GE193.out) | exact HB.out)))); have n1_ := Aside0.mk (blk_below (g := gb193) (o := .cells #[.slice none 0 0] 24 (0, 0)) (by (with_reducible repeat (first | refine blk_drewN ?_ _ | refine blk_drew ?_ | refine blk_alloc ?_ _)); exact BK193.out) hb); have n2_ := Aside0.mk (below_step (by repeat (first | (with_reducible first | exact HB.out | apply below_alloc | apply pw_below_drewN | apply below_drew1 | refine below_set ?_ GE193.out) | exact HB.out)) hb); clear BK193; clear HB; have HO196 := n0_; have BK193 := n1_; have HB := n2_; clear n0_ n1_ n2_; clear hb ho4; obtain ⟨Ao5, co5, eo5⟩ := Kd.R_slice HO196.out; subst eo5) | ((with_reducible refine gate_callee (f := 49) rfl ?_); refine goesL_ (some 2) rfl rfl Tryz.func49 (by kernel_rfl) rfl #[.slice Ao5 y194.length co5] rfl (by (try simp only [List.map_toArray, List.map_cons, List.map_nil]); first | done | rfl | (simp only [List.length_drop, List.length_take]; rfl)) ?_; (with_reducible refine (oilcakelaw11_code.calls (fun k_ => some k_ = (.slice Ao5 y194.length co5 : Value).ownBlock) (.slice Ao5 y194.length co5) y194 t197 w _ ?side1 ?side2 A1.out).mono ?_); (case side1 => repeat (first | (with_reducible first | exact HB.out | apply below_alloc | apply pw_below_drewN | apply below_drew1 | refine below_set ?_ GE193.out) | exact HB.out)); (case side2 => exact Kd.R_tight rfl HO196.out); rintro e w6 ⟨v198, rfl, ho0, hb, hkp⟩; refine ⟨_, rfl, ?_⟩; have n0_ := Aside0.mk (blk_kept (by (with_reducible repeat (first | refine blk_drewN ?_ _ | refine blk_drew ?_ | refine blk_alloc ?_ _)); exact BK193.out) hkp (fun hs_ => (fun e_ => (Kd.R_ne HO196.out BK193.out (by decide)) e_) hs_)); have n1_ := Aside0.mk (Kd.R_mono (ok' := fun k_ => True) ho0 (fun k_ hk_ => trivial)); have n2_ := Aside0.mk (hb); clear BK193; clear HB; clear HO196; have BK193 := n0_; have HO199 := n1_; have HB := n2_; clear n0_ n1_ n2_; (try clear hb); (try clear hkp); (try clear ho0); obtain ⟨Ao7, co7, eo7⟩ := Kd.R_slice HO199.out; subst eo7; have hcz8_0 : w6.cell? ⟨gb193, 0, none⟩ = some (.slice none 0 0) := (blk_cell BK193.out 0).trans rfl; have hfz8_0 := blk_frozen BK193.out 0))
  refine bodyPost_ret (results_cell_row rfl _ _ gb193 24 #[.slice Ao7 t197.length co7] (0, 0) _ rfl (by (with_reducible repeat (first | refine blk_drewN ?_ _ | refine blk_drew ?_ | refine blk_alloc ?_ _)); refine blk_put (cs := #[.slice none 0 0]) ?_ 0 _ rfl; (with_reducible repeat (first | refine blk_drewN ?_ _ | refine blk_drew ?_ | refine blk_alloc ?_ _)); exact BK193.out) Tryz.underlying24 rfl (by kernel_rfl)) rfl ?_
  exact ⟨_, by first | rfl | (simp [errW_none, errW_some] <;> rfl) | (simp [*, errW_none, errW_some] <;> rfl), by (with_reducible repeat (first | apply Kd.R_alloc | apply Kd.R_drewN | apply Kd.R_drew)); exact Kd.R_mono (Kd.R_far (p := ⟨gb193, 0, none⟩) (Kd.R_types HO199.out BK193.out (by decide)) (fun _ hk => hk.2) (.slice Ao7 t197.length co7)) (fun _ hk => trivial), by repeat (first | (with_reducible first | exact HB.out | apply below_alloc | apply pw_below_drewN | apply below_drew1 | refine below_set ?_ GE193.out) | exact HB.out)⟩
def oilcakelaw11_two.f  : Option (List ByteArray) := (oilcakelaw11_code.f (([(⟨#[46]⟩ : ByteArray), (⟨#[46, 45]⟩ : ByteArray), (⟨#[45, 46]⟩ : ByteArray)] : List ByteArray))).bind fun t204 => (some t204)
set_option maxHeartbeats 8000000 in
set_option maxRecDepth 100000 in
theorem oilcakelaw11_two.calls  (r : List ByteArray) (w : World) (h : oilcakelaw11_two.f  = some r) :
    Calls Tryz.prog 46 #[] w fun e w' => ∃ v0_ : Value, e = .returned (.agg #[v0_]) ∧ Kd.R Kd.string 9 w' w.heap.size (fun _ => True) v0_ r ∧ Below w.heap.size w w' := by
  have hu24 := Tryz.underlying24
  have HB := Aside0.mk (Below.refl w.heap.size w)
  have H : ((oilcakelaw11_code.f (([(⟨#[46]⟩ : ByteArray), (⟨#[46, 45]⟩ : ByteArray), (⟨#[45, 46]⟩ : ByteArray)] : List ByteArray))).bind fun t204 => (some t204)) = some r := h
  clear h
  obtain ⟨y201, hy201⟩ : ∃ y_ : List ByteArray, y_ = (([(⟨#[46]⟩ : ByteArray), (⟨#[46, 45]⟩ : ByteArray), (⟨#[45, 46]⟩ : ByteArray)] : List ByteArray)) := ⟨_, rfl⟩
  replace H : ((oilcakelaw11_code.f y201).bind fun t204 => (some t204)) = some r := by first | (rw [hy201]; with_reducible exact H) | (have H2_ := (Option.bind_some _ _).symm.trans H; rw [hy201]; with_reducible exact H2_) | (have H2_ := (Option.bind_some _ _).symm.trans H; with_reducible exact H2_) | with_reducible exact H | (rw [hy201]; exact H) | exact H
  have Ny201 := Aside0.mk hy201
  clear hy201
  replace H := Option.bind_eq_some_iff.mp H
  obtain ⟨t204, A10, H⟩ := H
  replace H : (some t204) = some r := H
  have A1 := Aside0.mk A10
  clear A10
  obtain rfl := Option.some.inj H
  go_enter Tryz.func46, Tryz.ntmps46
  go_wp2_with (first | ((with_reducible refine gate_dst (N := 0) rfl ?_); refine box_event ?hg (N := 0) ?hd (cs := #[.slice none 0 0]) (t := 24) ?hr ?_; (case hd => rfl); (case hg => rfl); (case hr => first | (go_simp; done) | (go_simp; rfl)); intro gb200 hg w2 hbox hb; have n0_ := Aside0.mk (below_step (by repeat (first | (with_reducible first | exact HB.out | apply below_alloc | apply pw_below_drewN | apply below_drew1) | exact HB.out)) hb); have n1_ := Aside0.mk (hbox); have n2_ := Aside0.mk ((by rw [hg]; exact (below_size (by repeat (first | (with_reducible first | exact HB.out | apply below_alloc | apply pw_below_drewN | apply below_drew1) | exact HB.out))) : w.heap.size ≤ gb200)); have n3_ := Aside0.mk ((by rw [hg]; exact (below_size (by repeat (first | (with_reducible first | exact HB.out | apply below_alloc | apply pw_below_drewN | apply below_drew1) | exact HB.out))) : w.heap.size ≤ gb200)); clear HB; have HB := n0_; have BK200 := n1_; have GW200 := n2_; have GE200 := n3_; clear n0_ n1_ n2_ n3_; clear hb hbox hg) | ((with_reducible refine gate_dst (N := 1) rfl ?_); refine Kd.R_lit Kd.string _ 9 ?hg (N := 1) ?hd (xs := ([(⟨#[46]⟩ : ByteArray), (⟨#[46, 45]⟩ : ByteArray), (⟨#[45, 46]⟩ : ByteArray)] : List ByteArray)) (inner := [.string (⟨#[46]⟩ : ByteArray), .string (⟨#[46, 45]⟩ : ByteArray), .string (⟨#[45, 46]⟩ : ByteArray)]) (ok := fun _ => True) (okp := fun _ => True) ?hr ?hp (fun _ hk => hk) trivial (Below.refl _ _) (Nat.le_refl _) (by simp) ?_; (case hd => rfl); (case hg => rfl); (case hr => first | (go_simp; done) | (go_simp; rfl)); (case hp => exact (Reps.one (show Kd.M Kd.string _ _ _ (⟨#[46]⟩ : ByteArray) [.string (⟨#[46]⟩ : ByteArray)] from rfl) (Reps.one (show Kd.M Kd.string _ _ _ (⟨#[46, 45]⟩ : ByteArray) [.string (⟨#[46, 45]⟩ : ByteArray)] from rfl) (Reps.one (show Kd.M Kd.string _ _ _ (⟨#[45, 46]⟩ : ByteArray) [.string (⟨#[45, 46]⟩ : ByteArray)] from rfl) (Reps.none _ _))))); intro v202 w3 ho4 hb hg_ hnew_; clear hg_ hnew_; (first | rw [← Ny201.out] at ho4 | (simp only [Int.reduceToNat] at ho4; rw [← Ny201.out] at ho4)); have n0_ := Aside0.mk (Kd.R_lower ho4 (below_size (by repeat (first | (with_reducible first | exact HB.out | apply below_alloc | apply pw_below_drewN | apply below_drew1 | refine below_set ?_ GE200.out) | exact HB.out)))); have n1_ := Aside0.mk (blk_below (g := gb200) (o := .cells #[.slice none 0 0] 24 (0, 0)) (by (with_reducible repeat (first | refine blk_drewN ?_ _ | refine blk_drew ?_ | refine blk_alloc ?_ _)); exact BK200.out) hb); have n2_ := Aside0.mk (below_step (by repeat (first | (with_reducible first | exact HB.out | apply below_alloc | apply pw_below_drewN | apply below_drew1 | refine below_set ?_ GE200.out) | exact HB.out)) hb); clear BK200; clear HB; have HO203 := n0_; have BK200 := n1_; have HB := n2_; clear n0_ n1_ n2_; clear hb ho4; obtain ⟨Ao5, co5, eo5⟩ := Kd.R_slice HO203.out; subst eo5) | ((with_reducible refine gate_callee (f := 49) rfl ?_); refine goesL_ (some 2) rfl rfl Tryz.func49 (by kernel_rfl) rfl #[.slice Ao5 y201.length co5] rfl (by (try simp only [List.map_toArray, List.map_cons, List.map_nil]); first | done | rfl | (simp only [List.length_drop, List.length_take]; rfl)) ?_; (with_reducible refine (oilcakelaw11_code.calls (fun k_ => some k_ = (.slice Ao5 y201.length co5 : Value).ownBlock) (.slice Ao5 y201.length co5) y201 t204 w _ ?side1 ?side2 A1.out).mono ?_); (case side1 => repeat (first | (with_reducible first | exact HB.out | apply below_alloc | apply pw_below_drewN | apply below_drew1 | refine below_set ?_ GE200.out) | exact HB.out)); (case side2 => exact Kd.R_tight rfl HO203.out); rintro e w6 ⟨v205, rfl, ho0, hb, hkp⟩; refine ⟨_, rfl, ?_⟩; have n0_ := Aside0.mk (blk_kept (by (with_reducible repeat (first | refine blk_drewN ?_ _ | refine blk_drew ?_ | refine blk_alloc ?_ _)); exact BK200.out) hkp (fun hs_ => (fun e_ => (Kd.R_ne HO203.out BK200.out (by decide)) e_) hs_)); have n1_ := Aside0.mk (Kd.R_mono (ok' := fun k_ => True) ho0 (fun k_ hk_ => trivial)); have n2_ := Aside0.mk (hb); clear BK200; clear HB; clear HO203; have BK200 := n0_; have HO206 := n1_; have HB := n2_; clear n0_ n1_ n2_; (try clear hb); (try clear hkp); (try clear ho0); obtain ⟨Ao7, co7, eo7⟩ := Kd.R_slice HO206.out; subst eo7; have hcz8_0 : w6.cell? ⟨gb200, 0, none⟩ = some (.slice none 0 0) := (blk_cell BK200.out 0).trans rfl; have hfz8_0 := blk_frozen BK200.out 0))
  refine bodyPost_ret (results_cell_row rfl _ _ gb200 24 #[.slice Ao7 t204.length co7] (0, 0) _ rfl (by (with_reducible repeat (first | refine blk_drewN ?_ _ | refine blk_drew ?_ | refine blk_alloc ?_ _)); refine blk_put (cs := #[.slice none 0 0]) ?_ 0 _ rfl; (with_reducible repeat (first | refine blk_drewN ?_ _ | refine blk_drew ?_ | refine blk_alloc ?_ _)); exact BK200.out) Tryz.underlying24 rfl (by kernel_rfl)) rfl ?_
  exact ⟨_, by first | rfl | (simp [errW_none, errW_some] <;> rfl) | (simp [*, errW_none, errW_some] <;> rfl), by (with_reducible repeat (first | apply Kd.R_alloc | apply Kd.R_drewN | apply Kd.R_drew)); exact Kd.R_mono (Kd.R_far (p := ⟨gb200, 0, none⟩) (Kd.R_types HO206.out BK200.out (by decide)) (fun _ hk => hk.2) (.slice Ao7 t204.length co7)) (fun _ hk => trivial), by repeat (first | (with_reducible first | exact HB.out | apply below_alloc | apply pw_below_drewN | apply below_drew1 | refine below_set ?_ GE200.out) | exact HB.out)⟩
end Go.Proofs.YtfnibmcenjiodaaGreatDoor.R
namespace Go.Proofs.YtfnibmcenjiodaaGreatDoor.M
open Go.Sort Go.Shelf Go.RowKit Go.Maps Go.Proofs.YtfnibmcenjiodaaGreatDoorW.PrintWords Go.Proofs.YtfnibmcenjiodaaGreatDoorW.PrintLast Go.Proofs.YtfnibmcenjiodaaGreatDoorW.PrintMore
attribute [local go_sem] Oper.semAt_some
structure SW (ws : List ByteArray) (A : Option Addr) (c : Nat) (w0 : World) (kb db : Nat) (E D : DataW Unit) (W : World) : Prop where
  key : W.heap[kb]? = some (.cells #[.slice A ws.length c] 126 (0, 0))
  was : BMap W (kb + 1) (Maps.size E) E
  now : NMap W db (Maps.size D) D
  below : Below w0.heap.size w0 W
  lo : w0.heap.size ≤ kb ∧ kb + 1 < db
structure SR (ws : List ByteArray) (A : Option Addr) (c : Nat) (w0 : World) (kb db nb it : Nat) (E D : DataW Unit) (left : Lit → Bool) (cnt : Nat) (D' : DataW Unit) (W : World) : Prop where
  key : W.heap[kb]? = some (.cells #[.slice A ws.length c] 126 (0, 0))
  was : BMap W (kb + 1) (Maps.size E) E
  rg : W.ranges Tryz.prog 150 rT db it (Maps.size D) D left cnt
  next : NMap W nb (Maps.size D') D'
  below : Below w0.heap.size w0 W
  lo : w0.heap.size ≤ kb ∧ kb + 1 < db ∧ db < nb ∧ nb < it
theorem SR.carry {ws : List ByteArray} {A : Option Addr} {c : Nat} {w0 W W' : World} {kb db nb it : Nat} {E D D' D'' : DataW Unit} {left : Lit → Bool} {cnt : Nat} (h : SR ws A c w0 kb db nb it E D left cnt D' W) (hk : Keep W.heap.size (some nb) W W') (hN : NMap W' nb (Maps.size D'') D'') : SR ws A c w0 kb db nb it E D left cnt D'' W' := by
  have lo := h.lo
  refine ⟨hk.blk h.key (blk_lt h.key) (by intro e; have := Option.some.inj e; omega), h.was.kept (row := some nb) ⟨hk.os, hk.tape, hk.output, hk.size, hk.block⟩ (by intro e; have := Option.some.inj e; omega), h.rg.kept (row := some nb) ⟨hk.os, hk.tape, hk.output, hk.size, hk.block⟩ (by intro e; have := Option.some.inj e; omega) (by intro e; have := Option.some.inj e; omega), hN, ?_, lo⟩
  exact ⟨hk.os.trans h.below.os, hk.tape.trans h.below.tape, hk.output.trans h.below.output, Nat.le_trans h.below.size hk.size, fun k hk1 => (hk.block k (Nat.lt_of_lt_of_le hk1 h.below.size) (by intro e; have := Option.some.inj e; omega)).trans (h.below.block k hk1)⟩
theorem SR.below' {ws : List ByteArray} {A : Option Addr} {c : Nat} {w0 W W' : World} {kb db nb it : Nat} {E D D' : DataW Unit} {left : Lit → Bool} {cnt : Nat} (h : SR ws A c w0 kb db nb it E D left cnt D' W) (hk : Below W.heap.size W W') : SR ws A c w0 kb db nb it E D left cnt D' W' :=
  h.carry (.of_below hk _) (h.next.kept (row := none) ⟨hk.os, hk.tape, hk.output, hk.size, fun k hk1 _ => hk.block k hk1⟩ (by simp))
theorem SR.cells {ws : List ByteArray} {A : Option Addr} {c : Nat} {w0 W W' : World} {kb db nb it : Nat} {E D D' : DataW Unit} {left : Lit → Bool} {cnt : Nat} (h : SR ws A c w0 kb db nb it E D left cnt D' W) (hk : Keep W.heap.size (some nb) W W') {b : Nat} {cs : Array Value} {t : TypeId} {f : Nat × Nat} (hb : W.heap[b]? = some (.cells cs t f)) : W'.heap[b]? = some (.cells cs t f) := by
  refine hk.blk hb (blk_lt hb) (fun e => ?_)
  obtain ⟨es, ck, hm, _⟩ := h.next
  rw [← Option.some.inj e, hb] at hm
  cases hm
theorem SR.texts {ws : List ByteArray} {A : Option Addr} {c : Nat} {w0 W W' : World} {kb db nb it : Nat} {E D D' : DataW Unit} {left : Lit → Bool} {cnt : Nat} (h : SR ws A c w0 kb db nb it E D left cnt D' W) (hk : Keep W.heap.size (some nb) W W') {A' : Option Addr} {n : Nat} {xs : List ByteArray} (hC : Kd.C Kd.string W A' n xs) : Kd.C Kd.string W' A' n xs := by
  obtain ⟨es, ck, hm, _⟩ := h.next
  exact C_keep_map hC hm hk
theorem size_fold {ws : List ByteArray} (hok : ∀ n ∈ allSt ws, okS n) {w : World} {b n : Nat} {D : DataW Unit} (h : NMap w b n D) (hk : ∀ kl, has D kl = true → ∃ m ∈ allSt ws, kl = kL m) : Maps.size D ≤ (allSt ws).length := by
  have := size_keys (h.tidy lawS) ((allSt ws).map kL) (fun kl hh => by obtain ⟨m, hm, e⟩ := hk kl hh; exact List.mem_map.2 ⟨m, hm, e.symm⟩) (keys_lit h)
  simpa using this
theorem fold_keys {ws : List ByteArray} (hok : ∀ n ∈ allSt ws, okS n) (E : DataW Unit) (C : List (St × Tx)) (hC : ∀ p ∈ C, p.1 ∈ allSt ws) : ∀ kl, has (C.foldl (putS E) (.map [])) kl = true → ∃ m ∈ allSt ws, kl = kL m := by
  have G := got_all E C [] (.map []) (got_nil E) (fun _ h => (by cases h)) (fun p hp => hok _ (hC p hp))
  intro kl h
  obtain ⟨p, hp, e⟩ := G.keys kl h
  exact ⟨p.1, hC p (by simpa using hp), e⟩
theorem put_next {ws : List ByteArray} {A : Option Addr} {c : Nat} {w0 W W' : World} {kb db nb it : Nat} {E D D' : DataW Unit} {left : Lit → Bool} {cnt n : Nat} (h : SR ws A c w0 kb db nb it E D left cnt D' W) {D'' : DataW Unit} (hg : W.grownBy W' (some nb)) (hN : NMap W' nb n D'') : SR ws A c w0 kb db nb it E D left cnt D'' W' :=
  h.carry (.of_grown hg) (map_tight hN)
def DoneI (ws : List ByteArray) (D : DataW Unit) (left : Lit → Bool) (done : List (St × Tx)) : Prop := (∀ p ∈ done, p.1 ∈ allSt ws ∧ has D (kL p.1) = true ∧ p.2 = txOf D p.1) ∧ ∀ n, okS n → has D (kL n) = true → left (kL n) = false → (n, txOf D n) ∈ done
theorem DoneI.done {ws : List ByteArray} {D : DataW Unit} {left : Lit → Bool} {done : List (St × Tx)} (h : DoneI ws D left done) (h0 : ∀ kl, left kl = false) : Done ws D done := ⟨h.1, fun n hn hh => h.2 n hn hh (h0 _)⟩
set_option maxRecDepth 100000 in
theorem DoneI.step {ws : List ByteArray} (hok : ∀ n ∈ allSt ws, okS n) {r : Nat} {E D : DataW Unit} (S : SlipI ws r E D) {left : Lit → Bool} {done : List (St × Tx)} (h : DoneI ws D left done) {s : St} {t : Tx} {kl : Lit} {y : DataW Unit × List MemPlace} (hkey : keyOf Tryz.prog 150 (stV s) = some kl) (hv : rT (txV t) = some y) (hat : ∀ zd, D.atKey kl zd = y.1) :
    s ∈ allSt ws ∧ kl = kL s ∧ t = txOf D s ∧ DoneI ws D (fun z => left z && !z.sameKey kl) (done ++ [(s, t)]) := by
  obtain ⟨s', hs', e, rfl⟩ := keyOf_inv hkey
  have e : s = s' := by
    obtain ⟨a, b, c⟩ := s
    obtain ⟨a', b', c'⟩ := s'
    simp only [stV, Value.agg.injEq, Array.mk.injEq, List.cons.injEq, Value.string.injEq, Value.bool.injEq] at e
    obtain ⟨rfl, rfl, rfl, _⟩ := e
    rfl
  subst e
  have hh : has D (kL s) = true := Maps.has_true_of_atKey hat
  have hall : s ∈ allSt ws := by
    obtain ⟨n, hn, e⟩ := S.keys _ hh
    rw [kL_inj hs' (hok n hn) e]; exact hn
  have ht : t = txOf D s := by
    rw [rT_mk] at hv
    have := (Option.some.inj hv)
    rw [← this] at hat
    exact (txOf_eq (hat _)).symm
  refine ⟨hall, rfl, ht, fun p hp => ?_, fun n hn h1 h2 => ?_⟩
  · rcases List.mem_append.1 hp with hp | hp
    · exact h.1 p hp
    · rw [List.mem_singleton] at hp; subst hp; exact ⟨hall, hh, ht⟩
  · cases hl : left (kL n)
    · exact List.mem_append.2 (.inl (h.2 n hn h1 hl))
    · simp only [hl, Bool.true_and, Bool.not_eq_false'] at h2
      have e := kL_inj hn hs' (WideAt.sameKey_eq h2)
      subst e
      exact List.mem_append.2 (.inr (by rw [List.mem_singleton, ht]))
theorem roundD_append (ws : List ByteArray) (E : DataW Unit) (done : List (St × Tx)) (p : St × Tx) : roundD ws E (done ++ [p]) = (nexts ws p).foldl (putS E) (roundD ws E done) := by
  unfold roundD
  rw [List.flatMap_append, List.foldl_append]
  simp
theorem sgn_both (j : Nat) (h : j < 2) : (((bothS)[j]'h).toNat : Int) = sgn j := by
  match j, h with
  | 0, _ => rfl
  | 1, _ => rfl
end Go.Proofs.YtfnibmcenjiodaaGreatDoor.M
namespace Go.Proofs.YtfnibmcenjiodaaGreatDoor.M
open Go.Sort Go.Shelf Go.RowKit Go.Maps Go.Proofs.YtfnibmcenjiodaaGreatDoorW.PrintWords Go.Proofs.YtfnibmcenjiodaaGreatDoorW.PrintLast Go.Proofs.YtfnibmcenjiodaaGreatDoorW.PrintMore
attribute [local go_sem] Oper.semAt_some
structure KX where
  k : St
structure EX where
  e : Tx
theorem SR.drawn {ws : List ByteArray} {A : Option Addr} {c : Nat} {w0 W W' : World} {kb db nb it : Nat} {E D D' : DataW Unit} {left left' : Lit → Bool} {cnt cnt' : Nat} (h : SR ws A c w0 kb db nb it E D left cnt D' W) (hg : W.grownBy W' (some it)) (hr : W'.ranges Tryz.prog 150 rT db it (Maps.size D) D left' cnt') : SR ws A c w0 kb db nb it E D left' cnt' D' W' := by
  have lo := h.lo
  refine ⟨(hg.block _ (blk_lt h.key) (by intro e; have := Option.some.inj e; omega)).trans h.key, h.was.kept hg (by intro e; have := Option.some.inj e; omega), hr, h.next.kept hg (by intro e; have := Option.some.inj e; omega), ?_, lo⟩
  exact below_grownBy' h.below hg (fun r e => by have := Option.some.inj e; omega)
noncomputable def fD (E : DataW Unit) (L : List (St × Tx)) : DataW Unit := L.foldl (putS E) (.map [])
structure SI (ws : List ByteArray) (A : Option Addr) (c : Nat) (w0 : World) (kb db nb it : Nat) (E D : DataW Unit) (left : Lit → Bool) (cnt : Nat) (bs bt : Nat) (s : St) (t : Tx) (D' : DataW Unit) (W : World) : Prop where
  sr : SR ws A c w0 kb db nb it E D left cnt D' W
  sb : W.heap[bs]? = some (.cells #[.string s.1, .string s.2.1, .bool s.2.2] 150 (0, 0))
  tb : W.heap[bt]? = some (.cells #[.string t.1, .string t.2] 152 (0, 0))
theorem SI.below' {ws : List ByteArray} {A : Option Addr} {c : Nat} {w0 W W' : World} {kb db nb it : Nat} {E D D' : DataW Unit} {left : Lit → Bool} {cnt bs bt : Nat} {s : St} {t : Tx} (h : SI ws A c w0 kb db nb it E D left cnt bs bt s t D' W) (hk : Below W.heap.size W W') : SI ws A c w0 kb db nb it E D left cnt bs bt s t D' W' :=
  ⟨h.sr.below' hk, (hk.block _ (blk_lt h.sb)).trans h.sb, (hk.block _ (blk_lt h.tb)).trans h.tb⟩
theorem SI.put {ws : List ByteArray} {A : Option Addr} {c : Nat} {w0 W W' : World} {kb db nb it : Nat} {E D D' D'' : DataW Unit} {left : Lit → Bool} {cnt bs bt n : Nat} {s : St} {t : Tx} (h : SI ws A c w0 kb db nb it E D left cnt bs bt s t D' W) (hg : W.grownBy W' (some nb)) (hN : NMap W' nb n D'') : SI ws A c w0 kb db nb it E D left cnt bs bt s t D'' W' :=
  ⟨put_next h.sr hg hN, h.sr.cells (.of_grown hg) h.sb, h.sr.cells (.of_grown hg) h.tb⟩
structure MarkI (ws : List ByteArray) (E N : DataW Unit) (left : Lit → Bool) (E2 : DataW Unit) : Prop where
  mapE : IsMap E2
  fl : ∀ n, okS n → flS E2 n = (flS E n || (has N (kL n) && !left (kL n)))
  keys : ∀ kl, has E2 kl = true → ∃ n ∈ allSt ws, kl = kL n
theorem MarkI.start {ws : List ByteArray} {E N : DataW Unit} (hE : IsMap E) (hk : ∀ kl, has E kl = true → ∃ n ∈ allSt ws, kl = kL n) : MarkI ws E N (has N) E :=
  ⟨hE, fun n _ => by cases has N (kL n) <;> simp, hk⟩
set_option maxRecDepth 100000 in
theorem MarkI.step {ws : List ByteArray} (hok : ∀ n ∈ allSt ws, okS n) {E N E2 : DataW Unit} {left : Lit → Bool} (h : MarkI ws E N left E2) (hN : ∀ kl, has N kl = true → ∃ n ∈ allSt ws, kl = kL n) {s : St} {kl : Lit} {d : DataW Unit} (hkey : keyOf Tryz.prog 150 (stV s) = some kl) (hat : ∀ zd, N.atKey kl zd = d) :
    okS s ∧ kl = kL s ∧ MarkI ws E N (fun z => left z && !z.sameKey kl) (E2.put (kL s) (.lit (.bool true))) := by
  obtain ⟨s', hs', e, rfl⟩ := keyOf_inv hkey
  have e : s = s' := by
    obtain ⟨a, b, c⟩ := s
    obtain ⟨a', b', c'⟩ := s'
    simp only [stV, Value.agg.injEq, Array.mk.injEq, List.cons.injEq, Value.string.injEq, Value.bool.injEq] at e
    obtain ⟨rfl, rfl, rfl, _⟩ := e
    rfl
  subst e
  have hh : has N (kL s) = true := Maps.has_true_of_atKey hat
  obtain ⟨n0, hn0, e0⟩ := hN _ hh
  obtain rfl := kL_inj hs' (hok n0 hn0) e0
  refine ⟨hs', rfl, isMap_put h.mapE _ _, fun n hn => ?_, fun k hk => ?_⟩
  · rw [flS_put h.mapE hs' hn]
    by_cases e : n = s
    · subst e
      rw [hh, WideAt.sameKey_self (kL_key hs')]; simp
    · have : (kL n).sameKey (kL s) = false := by
        cases hc : (kL n).sameKey (kL s)
        · rfl
        · exact absurd (kL_inj hn hs' (WideAt.sameKey_eq hc)) e
      rw [this, h.fl n hn]; simp [e]
  · by_cases e : k = kL s
    · exact ⟨s, hn0, e⟩
    · rw [has_put_other e] at hk
      exact h.keys k hk
structure SV (ws : List ByteArray) (A : Option Addr) (c : Nat) (w0 : World) (kb nb it : Nat) (N E2 : DataW Unit) (left : Lit → Bool) (cnt : Nat) (W : World) : Prop where
  key : W.heap[kb]? = some (.cells #[.slice A ws.length c] 126 (0, 0))
  was : BMap W (kb + 1) (Maps.size E2) E2
  rg : W.ranges Tryz.prog 150 rT nb it (Maps.size N) N left cnt
  below : Below w0.heap.size w0 W
  lo : w0.heap.size ≤ kb ∧ kb + 1 < nb ∧ nb < it
theorem enc_sgn (p : Nat) (hp : p < 2) : Utf8.encode (wrap32 (sgn p)) = sgT p := by
  have h : p = 0 ∨ p = 1 := by omega
  rcases h with rfl | rfl
  · decide +kernel
  · decide +kernel
theorem fD_snoc (E : DataW Unit) (L : List (St × Tx)) (p : St × Tx) : fD E (L ++ [p]) = putS E (fD E L) p := by
  unfold fD; rw [List.foldl_append]; rfl
theorem take_rd (xs : List ByteArray) (k : Nat) (h : k < xs.length) : xs.take (k + 1) = xs.take k ++ [rdOf ByteArray.empty xs k] := by
  rw [List.take_add_one, List.getElem?_eq_getElem h]
  have : rdOf ByteArray.empty xs k = xs[k] := by simp [rdOf, h]
  rw [this]; rfl
set_option maxRecDepth 100000 in
set_option maxHeartbeats 4000000 in
theorem wire_Slip (A : Option Addr) (c : Nat) (ws : List ByteArray) (w : World) (hr : Kd.C Kd.string w A ws.length ws) (hsz : ∀ x ∈ ws, x.size ≤ 9223372036854775807) :
    Calls Tryz.prog 38 #[.agg #[.slice A ws.length c]] w fun e w' => ∃ t n, e = .returned (.tuple #[.string t.1, .string t.2, .int .i64 n]) ∧ SlipIs ws t n ∧ Below w.heap.size w w' := by
  have hmm := @run_makeMap Tryz.prog
  have Hr0 := Lib.hid hr
  go_enter Tryz.func38, Tryz.ntmps38
  go_wp2_with fail
  refine (wire_Check A c ws _ (Kd.C_alloc hr _) hsz).mono ?_
  rintro e w1 ⟨rfl, hb⟩
  have HX := Lib.hid (blk_below (blk_new w (.cells #[.slice A ws.length c] 24)) hb)
  have HB := Lib.hid (below_step (below1 w (.cells #[.slice A ws.length c] 24)) hb)
  have HR := Lib.hid (Kd.C_below hr HB.out)
  have hcx := box_cell HX.out
  clear hb hr
  cases hok : codeOk ws
  · have hE : checkE ws = 110 := by simp [checkE, hok]
    rw [hE]
    clear hE
    go_wp2
    exact ⟨rfl, .tuple #[.string ⟨#[]⟩, .string ⟨#[]⟩, .int .i64 110], by simp [results, Tryz.results38, go_sem], (⟨#[]⟩, ⟨#[]⟩), 110, rfl, .inl ⟨hok, rfl, rfl⟩, HB.out⟩
  have hE : checkE ws = 0 := by simp [checkE, hok]
  rw [hE]
  clear hE
  have Hok := Lib.hid hok
  clear hok
  have hw := Lib.hid (codeOk_words Hok.out)
  have hl := Lib.hid (codeOk_len Hok.out)
  obtain ⟨W1, hW1⟩ : ∃ W1, W1 = (((w1.alloc (.cells #[.slice A ws.length c] 126)).alloc (.map #[] 0)).alloc (.map #[] 0)) := ⟨_, rfl⟩
  have hm3 : NMap W1 (w1.heap.size + 1 + 1) 0 (.map []) := by
    rw [hW1]
    have := World.ownsMap_made ((w1.alloc (.cells #[.slice A ws.length c] 126)).alloc (.map #[] 0)) Tryz.prog 150 rT
    simpa using this
  have hm2 : BMap W1 (w1.heap.size + 1) 0 (.map []) := by
    rw [hW1]
    have := (World.ownsMap_made (w1.alloc (.cells #[.slice A ws.length c] 126)) Tryz.prog 150 (plainElem (H := Unit) Tryz.prog 4)).alloc (.map #[] 0)
    simpa using this
  have hm1 : W1.heap[w1.heap.size]? = some (.cells #[.slice A ws.length c] 126 (0, 0)) := by
    rw [hW1]; exact blk_alloc (blk_alloc (blk_new w1 _) _) _
  have hb1 : Below w1.heap.size w1 W1 := by rw [hW1]; exact (below2 _ _ _).alloc (by simp; omega) _
  obtain ⟨W2, hrun, hown2, hg2⟩ := hm3.update lawS Tryz.underlying153 (by decide) (keyOf_st fin0 okS_fin0) (rT_mk (⟨#[]⟩, ⟨#[]⟩))
  have hrun' : (Instr.mapUpdate 153 (.map (some (w1.heap.size + 1 + 1))) (.agg #[.string ⟨#[]⟩, .string ⟨#[]⟩, .bool false]) (.agg #[.string ⟨#[]⟩, .string ⟨#[]⟩])).run Tryz.prog W1 = .ok () W2 := hrun
  have HSW : Hid (SW ws A c w w1.heap.size (w1.heap.size + 1 + 1) (.map []) ((DataW.map []).put (kL fin0) (txD (⟨#[]⟩, ⟨#[]⟩))) W2) := Lib.hid (by
    refine ⟨(hg2.block _ (blk_lt hm1) (by intro e; have := Option.some.inj e; omega)).trans hm1, hm2.kept hg2 (by intro e; have := Option.some.inj e; omega), map_tight hown2, ?_, HB.out.size, by omega⟩
    have := HB.out.size
    exact below_grownBy' (HB.out.trans (hb1.mono HB.out.size)) hg2 (fun r e => by have := Option.some.inj e; omega))
  clear hrun hown2 hg2 hm1 hm2 hm3 hb1
  rw [hW1] at hrun'
  have hws0 : Hid (∀ x ∈ ws, 0 < x.size) := Lib.hid (fun x hx => (hw.out x hx).1)
  have hokS : Hid (∀ n ∈ allSt ws, okS n) := Lib.hid (fun n hn => by
    have h := mem_allSt.1 hn
    have key : ∀ x ∈ lefts ws, x.size ≤ maxLen := fun x hx => by
      rcases List.mem_cons.1 hx with rfl | hx
      · decide
      · have := sufs_size hx (fun x hx => (hw.out x hx).2)
        unfold maxLen; omega
    exact ⟨key _ h.1, key _ h.2⟩)
  have hall : Hid ((allSt ws).length ≤ 1000000) := Lib.hid (by
    have h1 := sufs_length ws 6 (fun x hx => (hw.out x hx).2)
    have h2 := hl.out
    have h3 : (lefts ws).length ≤ 50 := by unfold lefts; simp; omega
    have h4 : (allSt ws).length = (lefts ws).length * ((lefts ws).length * 2) := by
      unfold allSt
      rw [List.length_flatMap]
      simp [List.length_flatMap, List.map_const', List.sum_replicate_nat]
    rw [h4]
    have h5 : (lefts ws).length * ((lefts ws).length * 2) ≤ 50 * (50 * 2) := Nat.mul_le_mul h3 (Nat.mul_le_mul_right 2 h3)
    omega)
  have HSI := Lib.hid (slip_start ws)
  go_wp2_with fail
  clear hcx
  go_loopg [8] (2 * (allSt ws).length + 2) (fun g v wr => ∃ (db r : Nat) (E D : DataW Unit), v = .map (some db) ∧ 2 * openS ws E + (if Maps.size D = 0 then 0 else 1) ≤ g ∧ (Maps.size D ≠ 0 → r + openS ws E ≤ (allSt ws).length) ∧ Hid (SW ws A c w w1.heap.size db E D wr) ∧ Hid (SlipI ws r E D) ∧ Hid (∀ kl, has E kl = true → ∃ n ∈ allSt ws, kl = kL n))
  case atStart =>
    refine ⟨_, 0, _, _, rfl, ?_, fun _ => ?_, HSW, HSI, Lib.hid (fun kl h => by cases h)⟩
    · have := openS_le ws (.map [])
      split <;> omega
    · have := openS_le ws (.map []); omega
  case round =>
    clear HSW HSI
    obtain ⟨wq, rfl⟩ : ∃ wq, wq = wr := ⟨_, rfl⟩
    obtain ⟨db, r, E, D, rfl, hg, hro, HSW, HSI, HEK⟩ := hrel
    have Hg := Lib.hid (And.intro hg hro)
    clear hg hro
    have hlen := HSW.out.now.len Tryz.underlying153 3
    by_cases h0 : Maps.size D = 0
    · rw [h0] at hlen
      have hno : ∀ n, okS n → has D (kL n) = false := fun n _ => by
        obtain ⟨es, rfl⟩ := HSI.out.mapD
        have : es = [] := List.length_eq_zero_iff.1 h0
        subst this; rfl
      have hnev := Lib.hid (slip_never hokS.out hws0.out HSI.out hno)
      clear hno
      go_wp2
      exact ⟨rfl, .tuple #[.string ⟨#[]⟩, .string ⟨#[]⟩, .int .i64 6], by simp [results, Tryz.results38, go_sem], (⟨#[]⟩, ⟨#[]⟩), 6, rfl, .inr ⟨Hok.out, .inr ⟨rfl, rfl, hnev.out⟩⟩, HSW.out.below⟩
    · have hpos : (0 : Int) < (Maps.size D : Nat) := by omega
      go_wp2_with (first
        | (at_range; refine wpList_range_own _ rfl _ 153 rfl 150 152 lawS Tryz.underlying153 rT db (Maps.size D) D rfl (HSW.out.now.alloc _) ?_; intro w0 hrg0 hg0 hs0)
        | go_in)
      go_frame
      simp only [World.size_alloc]
      have hdp : decide (0 < Maps.size D) = true := decide_eq_true (by omega)
      try rw [hdp]
      clear hdp
      have hlo := HSW.out.lo
      have hdb := HSW.out.now.lt
      have hbn : Below wq.heap.size wq w0 := ⟨hg0.os, hg0.tape, hg0.output, by have := hg0.size; simp at this; omega, fun k hk => (hg0.block k (by simp; omega) (by simp)).trans (Below.heap_alloc _ _ _ hk)⟩
      have HSR : Hid (SR ws A c w w1.heap.size db wq.heap.size (wq.heap.size + 1) E D (has D) (Maps.size D) (roundD ws E []) w0) := Lib.hid (by
        refine ⟨(hbn.block _ (blk_lt HSW.out.key)).trans HSW.out.key, HSW.out.was.kept (row := none) ⟨hbn.os, hbn.tape, hbn.output, hbn.size, fun k hk1 _ => hbn.block k hk1⟩ (by simp), ?_, ?_, HSW.out.below.trans (hbn.mono HSW.out.below.size), by omega⟩
        · rw [World.size_alloc] at hrg0
          exact hrg0
        · exact (World.ownsMap_made wq Tryz.prog 150 rT).kept hg0 (by simp))
      have hs1 : w0.heap.size = wq.heap.size + 1 + 1 := by rw [hs0, World.size_alloc]
      clear hrg0 hg0 hs0 hbn hlen
      go_loopw [44] (fun _ w2 => ∃ (left : Lit → Bool) (cnt : Nat) (done : List (St × Tx)), Hid (SR ws A c w w1.heap.size db wq.heap.size (wq.heap.size + 1) E D left cnt (roundD ws E done) w2) ∧ Hid (DoneI ws D left done)) (fun _ w2 => w2.rangeLeft db (wq.heap.size + 1))
      case atStart => exact ⟨_, _, [], HSR, Lib.hid ⟨fun p h => (by cases h), fun n _ h1 h2 => by rw [h1] at h2; cases h2⟩⟩
      case round =>
        clear HSR
        obtain ⟨wv, rfl⟩ : ∃ wv, wv = wr := ⟨_, rfl⟩
        obtain ⟨left, cnt, done, HSR, HDI⟩ := hrel
        have hle0 := Lib.hid HSR.out.rg.left_eq
        go_wp2_with (first
          | (at_next; refine wpList_next_ranges _ rfl _ rfl 150 lawS rT (fun x : KX => stV x.k) (fun x : EX => txV x.e) (fun key kl hk => by obtain ⟨s, _, e, _⟩ := keyOf_inv hk; exact ⟨⟨s⟩, e⟩) (fun v y hv => by obtain ⟨t, e, _⟩ := rT_inv hv; exact ⟨⟨t⟩, e⟩) db (wq.heap.size + 1) (Maps.size D) D left cnt rfl HSR.out.rg ?_ ?_)
          | go_in)
        · intro hc0 hl0
          have HDn := Lib.hid (HDI.out.done hl0)
          clear HDI hle0 hl0
          obtain ⟨N, hN⟩ : ∃ N, N = roundD ws E done := ⟨_, rfl⟩
          rw [← hN] at HSR
          have HN := Lib.hid hN
          have HNK : Hid (∀ kl, has N kl = true → ∃ n ∈ allSt ws, kl = kL n) := Lib.hid (by
            rw [hN]
            exact fold_keys hokS.out E _ (fun z hz => by
              obtain ⟨q, hq, hz⟩ := List.mem_flatMap.1 hz
              exact nexts_all hws0.out (HDn.out.1 q hq).1 hz))
          clear hN
          have hlk1 := look_tx HSR.out.next okS_fin1
          obtain ⟨⟨v0, v1⟩, hv⟩ : ∃ v, v = txOf N fin1 := ⟨_, rfl⟩
          obtain ⟨is, his⟩ : ∃ is, is = has N (kL fin1) := ⟨_, rfl⟩
          rw [← hv, ← his] at hlk1
          dsimp only [stV, txV, fin1] at hlk1
          have Hv := Lib.hid (And.intro hv his)
          clear hv his
          have hlo9 := HSR.out.lo
          cases is
          · go_upto_region 34 with fail
            obtain ⟨wx, hwx⟩ : ∃ wx, wx = wv.alloc (.cells #[.string v0, .string v1] 152) := ⟨_, rfl⟩
            have hbx : Below wv.heap.size wv wx := by rw [hwx]; exact below1 _ _
            have HSX := Lib.hid (HSR.out.below' hbx)
            have hsx : wx.heap.size = wv.heap.size + 1 := by rw [hwx, World.size_alloc]
            have hit := HSR.out.next.lt
            have hlx : wq.heap.size < wx.heap.size := by omega
            clear hsx
            rw [← hwx]
            clear hwx hbx HSR hlk1
            go_wp2_with (first
              | (at_range; refine wpList_range_own _ rfl _ 153 rfl 150 152 lawS Tryz.underlying153 rT wq.heap.size (Maps.size N) N rfl HSX.out.next ?_; intro wy hrg0 hg0 hs0)
              | go_in)
            go_frame
            have HSV : Hid (SV ws A c w w1.heap.size wq.heap.size wx.heap.size N E (has N) (Maps.size N) wy) := Lib.hid (by
              have hbn : Below wx.heap.size wx wy := ⟨hg0.os, hg0.tape, hg0.output, hg0.size, fun k hk => hg0.block k hk (by simp)⟩
              refine ⟨(hbn.block _ (blk_lt HSX.out.key)).trans HSX.out.key, HSX.out.was.kept hg0 (by simp), hrg0, HSX.out.below.trans (hbn.mono HSX.out.below.size), by omega⟩)
            have HMK := Lib.hid (MarkI.start (ws := ws) (E := E) (N := N) HSI.out.mapE HEK.out)
            have hsy : wy.heap.size = wx.heap.size + 1 := hs0
            clear hrg0 hg0 hs0 HSX
            go_loopw [147] (fun _ w2 => ∃ (left : Lit → Bool) (cnt : Nat) (E2 : DataW Unit), Hid (SV ws A c w w1.heap.size wq.heap.size wx.heap.size N E2 left cnt w2) ∧ Hid (MarkI ws E N left E2)) (fun _ w2 => w2.rangeLeft wq.heap.size wx.heap.size)
            case atStart => exact ⟨_, _, _, HSV, HMK⟩
            case round =>
              clear HSV HMK
              obtain ⟨wz, rfl⟩ : ∃ wz, wz = wr := ⟨_, rfl⟩
              obtain ⟨left2, cnt2, E2, HSV, HMK⟩ := hrel
              have hle2 := Lib.hid HSV.out.rg.left_eq
              go_wp2_with (first
                | (at_next; refine wpList_next_ranges _ rfl _ rfl 150 lawS rT (fun x : KX => stV x.k) (fun x : EX => txV x.e) (fun key kl hk => by obtain ⟨s, _, e, _⟩ := keyOf_inv hk; exact ⟨⟨s⟩, e⟩) (fun v y hv => by obtain ⟨t, e, _⟩ := rT_inv hv; exact ⟨⟨t⟩, e⟩) wq.heap.size wx.heap.size (Maps.size N) N left2 cnt2 rfl HSV.out.rg ?_ ?_)
                | go_in)
              · intro hc2 hl2
                have hfl : ∀ n, okS n → flS E2 n = (flS E n || has (roundD ws E done) (kL n)) := fun n hn => by
                  rw [HMK.out.fl n hn, hl2, ← HN.out]; simp
                have Hfl := Lib.hid hfl
                have hfin : has (roundD ws E done) (kL fin1) = false := by rw [← HN.out]; exact Hv.out.2.symm
                have HS2 := Lib.hid (slip_on hokS.out hws0.out HSI.out HDn.out HMK.out.mapE hfl hfin)
                rw [← HN.out] at HS2
                have Hmk := Lib.hid HMK.out.keys
                have HW2 : Hid (SW ws A c w w1.heap.size wq.heap.size E2 N wz) := Lib.hid ⟨HSV.out.key, HSV.out.was, HSV.out.rg.owns, HSV.out.below, HSV.out.lo.1, HSV.out.lo.2.1⟩
                have hop : Hid (openS ws E2 ≤ openS ws E ∧ (Maps.size N ≠ 0 → openS ws E2 < openS ws E)) := Lib.hid (by
                  have hmono : ∀ m, okS m → flS E m = true → flS E2 m = true := fun m hm h => by rw [hfl m hm, h]; rfl
                  refine ⟨?_, fun hne => ?_⟩
                  · by_cases hx : ∃ n ∈ allSt ws, flS E n = false ∧ flS E2 n = true
                    · obtain ⟨n, h1, h2, h3⟩ := hx
                      exact Nat.le_of_lt (openS_lt hokS.out h1 h2 h3 hmono)
                    · unfold openS
                      refine Nat.le_of_eq (congrArg List.length (List.filter_congr (fun n hn => ?_)))
                      cases h1 : flS E n
                      · cases h2 : flS E2 n
                        · rfl
                        · exact absurd ⟨n, hn, h1, h2⟩ hx
                      · rw [hmono n (hokS.out n hn) h1]
                  · have hmap : IsMap N := HS2.out.mapD
                    obtain ⟨kl, hk⟩ := has_of_size hmap hne (keys_lit HSV.out.rg.owns)
                    obtain ⟨n, hn, rfl⟩ := HNK.out kl hk
                    have G := round_got hokS.out hws0.out E done (fun p hp => (HDn.out.1 p hp).1)
                    rw [← HN.out] at G
                    exact openS_lt hokS.out hn (G.from_ n (hokS.out n hn) hk).1 (by rw [hfl n (hokS.out n hn), ← HN.out, hk]; simp) hmono)
                clear hfl hfin hl2 HMK HSV
                go_wp2_with fail
                go_roundg (2 * openS ws E2 + (if Maps.size N = 0 then 0 else 1))
                case rel =>
                  refine ⟨wq.heap.size, r + 1, E2, N, rfl, Nat.le_refl _, fun hne => ?_, HW2, HS2, Hmk⟩
                  have h1 := hop.out.2 hne
                  have h2 := Hg.out.2 h0
                  omega
                case measure =>
                  have h1 := Hg.out.1
                  rw [if_neg h0] at h1
                  have h2 := hop.out
                  by_cases hz : Maps.size N = 0
                  · rw [if_pos hz]; omega
                  · rw [if_neg hz]; have := h2.2 hz; omega
              · rintro ⟨s⟩ ⟨t⟩ kl yd yp w3 cnt3 hkey hlk hv hat hrg3 hlt3 hg3 hs3 hen
                dsimp only at hkey hv hen
                obtain ⟨hsk, rfl, hMK3⟩ := HMK.out.step hokS.out HNK.out hkey hat
                have HM3 := Lib.hid hMK3
                obtain ⟨a0, b0, g0⟩ := s
                have HSV3 : Hid (SV ws A c w w1.heap.size wq.heap.size wx.heap.size N E2 (fun z => left2 z && !z.sameKey (kL (a0, b0, g0))) cnt3 w3) := Lib.hid (by
                  have lo := HSV.out.lo
                  exact ⟨(hg3.block _ (blk_lt HSV.out.key) (by intro e; have := Option.some.inj e; omega)).trans HSV.out.key, HSV.out.was.kept hg3 (by intro e; have := Option.some.inj e; omega), hrg3, below_grownBy' HSV.out.below hg3 (fun r e => by have := Option.some.inj e; omega), lo⟩)
                have hK := Lib.hid hsk
                clear hMK3 hkey hlk hv hat hrg3 hg3 hsk
                obtain ⟨t0, t1⟩ := t
                go_upto_region 37 with fail
                obtain ⟨w4, hw4⟩ : ∃ w4, w4 = w3.alloc (.cells #[.string a0, .string b0, .bool g0] 150) := ⟨_, rfl⟩
                have hb4 : Below w3.heap.size w3 w4 := by rw [hw4]; exact below1 _ _
                have hn4 : w4.heap[wz.heap.size]? = some (.cells #[.string a0, .string b0, .bool g0] 150 (0, 0)) := by rw [← hs3, hw4]; exact blk_new w3 _
                have HSV4 : Hid (SV ws A c w w1.heap.size wq.heap.size wx.heap.size N E2 (fun z => left2 z && !z.sameKey (kL (a0, b0, g0))) cnt3 w4) := Lib.hid (by
                  have hgb : w3.grownBy w4 none := ⟨hb4.os, hb4.tape, hb4.output, hb4.size, fun k hk _ => hb4.block k hk⟩
                  exact ⟨(hb4.block _ (blk_lt HSV3.out.key)).trans HSV3.out.key, HSV3.out.was.kept hgb (by simp), HSV3.out.rg.kept hgb (by simp) (by simp), HSV3.out.below.trans (hb4.mono HSV3.out.below.size), HSV3.out.lo⟩)
                rw [← hw4]
                clear hw4 hb4 HSV3 hen
                have cn0 : w4.cell? ⟨wz.heap.size, 0, none⟩ = some (.string a0) := blk_cell hn4 0
                have cn1 : w4.cell? ⟨wz.heap.size, 1, none⟩ = some (.string b0) := blk_cell hn4 1
                have cn2 : w4.cell? ⟨wz.heap.size, 2, none⟩ = some (.bool g0) := blk_cell hn4 2
                clear hn4
                have hbound : Maps.size E2 < maxLen := by
                  have h1 := size_keys (HSV4.out.was.tidy lawS) ((allSt ws).map kL) (fun kl hh => by obtain ⟨m, hm, e⟩ := HMK.out.keys kl hh; exact List.mem_map.2 ⟨m, hm, e.symm⟩) (keys_lit HSV4.out.was)
                  rw [List.length_map] at h1
                  have h2 := hall.out
                  unfold maxLen; omega
                obtain ⟨w5, hrun, hown, hg⟩ := HSV4.out.was.update lawS Tryz.underlying148 hbound (keyOf_st (a0, b0, g0) hK.out) (plainElem_bool Tryz.underlying4 true)
                have hrun2 : (Instr.mapUpdate 148 (.map (some (w1.heap.size + 1))) (.agg #[.string a0, .string b0, .bool g0]) (.bool true)).run Tryz.prog w4 = .ok () w5 := hrun
                have HSV5 : Hid (SV ws A c w w1.heap.size wq.heap.size wx.heap.size N (E2.put (kL (a0, b0, g0)) (.lit (.bool true))) (fun z => left2 z && !z.sameKey (kL (a0, b0, g0))) cnt3 w5) := Lib.hid (by
                  have lo := HSV4.out.lo
                  exact ⟨(hg.block _ (blk_lt HSV4.out.key) (by intro e; have := Option.some.inj e; omega)).trans HSV4.out.key, map_tight hown, HSV4.out.rg.kept hg (by intro e; have := Option.some.inj e; omega) (by intro e; have := Option.some.inj e; omega), below_grownBy' HSV4.out.below hg (fun r e => by have := Option.some.inj e; omega), lo⟩)
                clear hrun hown hg hbound HSV4
                go_wp2_with fail
                go_roundw
                case rel => exact ⟨_, cnt3, _, HSV5, HM3⟩
                case measure => rw [HSV5.out.rg.left_eq, hle2.out]; exact hlt3
          · go_upto_region 33 with fail
            go_quiet (fail)
            go_wp2
            have hf := slip_found hokS.out hws0.out HSI.out HDn.out (by rw [← HN.out]; exact Hv.out.2.symm)
            rw [← HN.out, ← Hv.out.1] at hf
            exact ⟨rfl, .tuple #[.string v0, .string v1, .int .i64 0], by simp [results, Tryz.results38, go_sem], (v0, v1), 0, rfl, .inr ⟨Hok.out, .inl ⟨rfl, r + 1, by have h1 := Hg.out.2 h0; have h2 := hall.out; omega, hf.1, hf.2.1, fun r' hr' => hf.2.2 r' (by omega)⟩⟩, HSR.out.below.trans (((below1 wv (.cells #[.string v0, .string v1] 152)).trans (⟨rfl, rfl, rfl, Nat.le_refl _, fun _ _ => rfl⟩ : RowKit.Below wv.heap.size (wv.alloc (.cells #[.string v0, .string v1] 152)) ((wv.alloc (.cells #[.string v0, .string v1] 152)).drewN nq))).mono HSR.out.below.size)⟩
        · rintro ⟨s⟩ ⟨t⟩ kl yd yp w3 cnt3 hkey hlk hv hat hrg3 hlt3 hg3 hs3 hen
          dsimp only at hkey hv hen
          obtain ⟨hs, rfl, ht, hDI⟩ := HDI.out.step hokS.out HSI.out hkey hv hat
          have HS := Lib.hid hs
          have HT := Lib.hid ht
          have HDI2 := Lib.hid hDI
          have HSR2 := Lib.hid (HSR.out.drawn hg3 hrg3)
          have hlo3 := HSR2.out.lo
          have hdb3 := HSR2.out.rg
          clear hs ht hDI hkey hv hat hrg3 hg3 hlk HSR HDI
          obtain ⟨a0, b0, g0⟩ := s
          obtain ⟨t0, t1⟩ := t
          have HZ : Hid (t0.size ≤ 1000000 ∧ t1.size ≤ 1000000) := Lib.hid (by
            have h1 := HDI2.out.1 ((a0, b0, g0), (t0, t1)) (by simp)
            have h2 := HSI.out.sound _ (hokS.out _ HS.out) h1.2.1
            rw [← HT.out] at h2
            have h3 := paths_size _ _ h2
            have h4 := Hg.out.2 h0
            have h5 := hall.out
            dsimp only at h3
            omega)
          go_wp2_with fail
          obtain ⟨L0, hL0⟩ : ∃ L0, L0 = done.flatMap (nexts ws) := ⟨_, rfl⟩
          have hD0 : roundD ws E done = fD E L0 := by rw [hL0]; rfl
          rw [hD0] at HSR2
          have HL0 := Lib.hid hL0
          have HM0 : Hid (∀ p ∈ L0, p.1 ∈ allSt ws) := Lib.hid (by
            rw [hL0]; intro p hp
            obtain ⟨q, hq, hp⟩ := List.mem_flatMap.1 hp
            exact nexts_all hws0.out (HDI2.out.1 q (by simp [hq])).1 hp)
          clear hD0 hL0
          go_loopw [49] (fun v w4 => ∃ i : Nat, i ≤ 4 ∧ v = .int .i64 i ∧ Hid (SI ws A c w w1.heap.size db wq.heap.size (wq.heap.size + 1) E D (fun z => left z && !z.sameKey (kL (a0, b0, g0))) cnt3 wv.heap.size (wv.heap.size + 1) (a0, b0, g0) (t0, t1) (fD E (L0 ++ (List.range i).flatMap (nextI ws ((a0, b0, g0), (t0, t1))))) w4)) (fun v _ => 4 - (intOf v).toNat)
          case atStart =>
            refine ⟨0, by omega, rfl, Lib.hid ⟨?_, ?_, ?_⟩⟩
            · simpa using HSR2.out.below' (below2 _ _ _)
            · rw [← hs3]; exact blk_alloc (blk_new w3 _) _
            · rw [← hs3]; exact blk_new1 w3 _ _
          case round =>
            clear HSR2 hen hdb3
            obtain ⟨w5, rfl⟩ : ∃ w5, w5 = wr := ⟨_, rfl⟩
            obtain ⟨i, hi, rfl, H⟩ := hrel
            by_cases hlt : i < 4
            · have hlt' : (i : Int) < 4 := by omega
              obtain ⟨p, hp⟩ : ∃ p, p = i / 2 := ⟨_, rfl⟩
              obtain ⟨q, hq⟩ : ∃ q, q = i % 2 := ⟨_, rfl⟩
              have f1 : IntKind.i64.wrap ((i : Int) / 2) = (p : Int) := by rw [IntKind.wrap_i64]; omega
              have f2 : IntKind.i64.wrap ((i : Int) % 2) = (q : Int) := by rw [IntKind.wrap_i64]; omega
              have f3 : (i : Int) / 2 = (p : Int) := by omega
              have f4 : (i : Int) % 2 = (q : Int) := by omega
              have hp2 : p < 2 := by omega
              have hq2 : q < 2 := by omega
              have hpi : (p : Int) < 2 := by omega
              have hqi : (q : Int) < 2 := by omega
              have Hpq := Lib.hid (And.intro hp hq)
              clear hp hq
              go_wp2_with fail
              go_quiet (fail)
              rw [sgn_both p hp2, sgn_both q hq2]
              have hdr : Below w5.heap.size w5 (w5.drewN nq) := (Below.refl _ _).trans ⟨rfl, rfl, rfl, Nat.le_refl _, fun _ _ => rfl⟩
              obtain ⟨w6, hw6⟩ : ∃ w6, w6 = w5.drewN nq := ⟨_, rfl⟩
              rw [← hw6] at hdr ⊢
              have H6 := Lib.hid (H.out.below' hdr)
              clear hdr hw6 H
              obtain ⟨a, ha⟩ : ∃ a, a = sgn p := ⟨_, rfl⟩
              obtain ⟨b, hb⟩ : ∃ b, b = sgn q := ⟨_, rfl⟩
              have hab : (a = b ↔ p = q) := by
                have h1 : p = 0 ∨ p = 1 := by omega
                have h2 : q = 0 ∨ q = 1 := by omega
                rcases h1 with rfl | rfl <;> rcases h2 with rfl | rfl <;> subst ha hb <;> decide
              rw [← ha, ← hb]
              have Hab := Lib.hid (And.intro ha hb)
              clear ha hb
              have hs6 := H6.out.sb
              have cb0 : w6.cell? ⟨wv.heap.size, 0, none⟩ = some (.string a0) := blk_cell hs6 0
              have cb1 : w6.cell? ⟨wv.heap.size, 1, none⟩ = some (.string b0) := blk_cell hs6 1
              have cb2 : w6.cell? ⟨wv.heap.size, 2, none⟩ = some (.bool g0) := blk_cell hs6 2
              clear hs6
              go_upto_region 16 with fail
              go_cut [49, 64] from 49 to 133 (fun ix g wx => ix = .int .i64 (i : Int) ∧ g = .bool (decide (p ≠ q) && g0) ∧ wx = w6)
              case first =>
                by_cases e : p = q
                · have e1 := hab.2 e
                  have e2 : (a == b) = true := by rw [e1]; simp
                  go_wp2_with fail
                  go_meet
                  exact ⟨rfl, by simp [e], rfl⟩
                · have e1 : ¬ a = b := fun h => e (hab.1 h)
                  have e2 : (a == b) = false := by simp [e1]
                  go_wp2_with fail
                  go_meet
                  exact ⟨rfl, by simp [e, e1], rfl⟩
              case rest =>
                obtain ⟨rfl, rfl, rfl⟩ := hcut
                cases hg1 : (decide (p ≠ q) && g0)
                rotate_left
                · go_wp2_with fail
                  go_roundw
                  case rel =>
                    refine ⟨i + 1, by omega, by simp, ?_⟩
                    have e : L0 ++ (List.range (i + 1)).flatMap (nextI ws ((a0, b0, g0), (t0, t1))) = L0 ++ (List.range i).flatMap (nextI ws ((a0, b0, g0), (t0, t1))) := by
                      rw [List.range_succ, List.flatMap_append, List.flatMap_singleton]
                      have : nextI ws ((a0, b0, g0), (t0, t1)) i = [] := by
                        unfold nextI
                        dsimp only
                        rw [← Hpq.out.1, ← Hpq.out.2, if_pos]
                        simpa using hg1
                      rw [this, List.append_nil]
                    rw [e]
                    exact H6
                  case measure => simp [intOf]; omega
                · have ck6 := box_cell H6.out.sr.key
                  have HC6 := Lib.hid (Kd.C_below Hr0.out H6.out.sr.below)
                  go_wp2_with fail
                  refine (on_calls A c ws a0 a _ HC6.out hws0.out (by have := hl.out; omega)).mono ?_
                  rintro e w7 ⟨A7, c7, rfl, hC7, hb7⟩
                  have H7 := Lib.hid (H6.out.below' hb7)
                  have HC7 := Lib.hid hC7
                  clear hC7 hb7 ck6 HC6 H6
                  obtain ⟨xs, hxs⟩ : ∃ xs, xs = onL (onW ws a0) a := ⟨_, rfl⟩
                  rw [← hxs] at HC7 ⊢
                  have Hxs := Lib.hid hxs
                  clear hxs
                  go_wp2_with fail
                  obtain ⟨ys, hys⟩ : ∃ ys, ys = onL (onW ws b0) b := ⟨_, rfl⟩
                  have Hys := Lib.hid hys
                  obtain ⟨g1, hgg⟩ : ∃ g1, g1 = (g0 || decide (p ≠ q)) := ⟨_, rfl⟩
                  have Hgg := Lib.hid hgg
                  obtain ⟨u0, hu0⟩ : ∃ u0, u0 = t0 ++ sgT p := ⟨_, rfl⟩
                  obtain ⟨u1, hu1⟩ : ∃ u1, u1 = t1 ++ sgT q := ⟨_, rfl⟩
                  have Hu := Lib.hid (And.intro hu0 hu1)
                  obtain ⟨L1, hL1⟩ : ∃ L1, L1 = L0 ++ (List.range i).flatMap (nextI ws ((a0, b0, g0), (t0, t1))) := ⟨_, rfl⟩
                  rw [← hL1] at H7
                  have HL1 := Lib.hid hL1
                  have HM1 : Hid (∀ p ∈ L1, p.1 ∈ allSt ws) := Lib.hid (by
                    rw [hL1]; intro z hz
                    rcases List.mem_append.1 hz with hz | hz
                    · exact HM0.out z hz
                    · obtain ⟨m, hm, hz⟩ := List.mem_flatMap.1 hz
                      exact nexts_all hws0.out (p := ((a0, b0, g0), (t0, t1))) HS.out (List.mem_flatMap.2 ⟨m, List.mem_range.2 (by have := List.mem_range.1 hm; omega), hz⟩))
                  have HXY : Hid (∀ x ∈ xs, ∀ y ∈ ys, (x, y, g1) ∈ allSt ws) := Lib.hid (fun x hx y hy => mem_allSt.2 ⟨onL_left hws0.out (mem_allSt.1 HS.out).1 (by rw [← Hxs.out]; exact hx), onL_left hws0.out (mem_allSt.1 HS.out).2 (by rw [← Hys.out]; exact hy)⟩)
                  clear hys hgg hu0 hu1 hL1 cb0 cb2
                  have hmx := Kd.C_max HC7.out
                  go_loopw [71] (fun v w8 => ∃ j : Nat, j ≤ xs.length ∧ v = .int .i64 j ∧ Hid (SI ws A c w w1.heap.size db wq.heap.size (wq.heap.size + 1) E D (fun z => left z && !z.sameKey (kL (a0, b0, g0))) cnt3 wv.heap.size (wv.heap.size + 1) (a0, b0, g0) (t0, t1) (fD E (L1 ++ (xs.take j).flatMap (fun x => ys.map (fun y => ((x, y, g1), (u0, u1)))))) w8) ∧ Hid (Kd.C Kd.string w8 A7 xs.length xs)) (fun v _ => xs.length - (intOf v).toNat)
                  case atStart => exact ⟨0, by omega, rfl, by simpa using H7, HC7⟩
                  case round =>
                    clear H7 HC7
                    obtain ⟨w8, rfl⟩ : ∃ w8, w8 = wr := ⟨_, rfl⟩
                    obtain ⟨j, hj, rfl, H8, HC8⟩ := hrel
                    by_cases hlj : j < xs.length
                    · obtain ⟨ad, rfl, hcell⟩ := Kd.at_string HC8.out j (by omega) (by omega)
                      rw [show ((j : Int).toNat) = j from by omega] at hcell
                      obtain ⟨x, hx⟩ : ∃ x, x = rdOf ByteArray.empty xs j := ⟨_, rfl⟩
                      rw [← hx] at hcell
                      have Hx := Lib.hid hx
                      have Hxm : Hid (x ∈ xs) := Lib.hid (by rw [hx]; exact rdOf_mem _ _ hlj)
                      clear hx
                      have ck8 := box_cell H8.out.sr.key
                      have cb8 : w8.cell? ⟨wv.heap.size, 1, none⟩ = some (.string b0) := blk_cell H8.out.sb 1
                      have HC6 := Lib.hid (Kd.C_below Hr0.out H8.out.sr.below)
                      go_wp2_with fail
                      refine (on_calls A c ws b0 b _ HC6.out hws0.out (by have := hl.out; omega)).mono ?_
                      rintro e w9 ⟨A9, c9, rfl, hC9, hb9⟩
                      have H9 := Lib.hid (H8.out.below' hb9)
                      have HC9 := Lib.hid (Kd.C_below HC8.out hb9)
                      rw [← Hys.out] at hC9 ⊢
                      have HY9 := Lib.hid hC9
                      clear hC9 hb9 ck8 cb8 HC6 H8 HC8 hcell
                      obtain ⟨L2, hL2⟩ : ∃ L2, L2 = L1 ++ (xs.take j).flatMap (fun x => ys.map (fun y => ((x, y, g1), (u0, u1)))) := ⟨_, rfl⟩
                      rw [← hL2] at H9
                      have HL2 := Lib.hid hL2
                      have HM2 : Hid (∀ p ∈ L2, p.1 ∈ allSt ws) := Lib.hid (by
                        rw [hL2]; intro z hz
                        rcases List.mem_append.1 hz with hz | hz
                        · exact HM1.out z hz
                        · obtain ⟨x', hx', hz⟩ := List.mem_flatMap.1 hz
                          obtain ⟨y', hy', rfl⟩ := List.mem_map.1 hz
                          exact HXY.out x' (List.mem_of_mem_take hx') y' hy')
                      clear hL2
                      have hmy := Kd.C_max HY9.out
                      go_wp2_with fail
                      go_loopw [81] (fun v w10 => ∃ k : Nat, k ≤ ys.length ∧ v = .int .i64 k ∧ Hid (SI ws A c w w1.heap.size db wq.heap.size (wq.heap.size + 1) E D (fun z => left z && !z.sameKey (kL (a0, b0, g0))) cnt3 wv.heap.size (wv.heap.size + 1) (a0, b0, g0) (t0, t1) (fD E (L2 ++ (ys.take k).map (fun y => ((x, y, g1), (u0, u1))))) w10) ∧ Hid (Kd.C Kd.string w10 (some ad) xs.length xs) ∧ Hid (Kd.C Kd.string w10 A9 ys.length ys)) (fun v _ => ys.length - (intOf v).toNat)
                      case atStart => exact ⟨0, by omega, rfl, by simpa using H9, HC9, HY9⟩
                      case round =>
                        clear H9 HC9 HY9
                        obtain ⟨wa, rfl⟩ : ∃ wa, wa = wr := ⟨_, rfl⟩
                        obtain ⟨k, hk, rfl, HA, HCA, HYA⟩ := hrel
                        by_cases hlk : k < ys.length
                        · obtain ⟨ad2, rfl, hcell⟩ := Kd.at_string HYA.out k (by omega) (by omega)
                          rw [show ((k : Int).toNat) = k from by omega] at hcell
                          obtain ⟨y, hy⟩ : ∃ y, y = rdOf ByteArray.empty ys k := ⟨_, rfl⟩
                          rw [← hy] at hcell
                          have Hy := Lib.hid hy
                          have Hym : Hid (y ∈ ys) := Lib.hid (by rw [hy]; exact rdOf_mem _ _ hlk)
                          clear hy
                          have cb2 : wa.cell? ⟨wv.heap.size, 2, none⟩ = some (.bool g0) := blk_cell HA.out.sb 2
                          go_upto_region 23 with fail
                          go_cut [19, 81] from 81 to 131 (fun pn kx wx => pn = .pointer (some ⟨wa.heap.size, 0, none⟩) ∧ kx = .int .i64 (k : Int) ∧ wx = wa.alloc (.cells #[.string x, .string y, .bool g1] 150))
                          case first =>
                            cases g0
                            · by_cases e : p = q
                              · have e1 := hab.2 e
                                have e2 : (a == b) = true := by rw [e1]; simp
                                obtain rfl : g1 = false := by rw [Hgg.out]; simp [e]
                                go_wp2_with fail
                                go_meet
                                exact ⟨rfl, rfl, rfl⟩
                              · have e1 : ¬ a = b := fun h => e (hab.1 h)
                                have e2 : (a == b) = false := by simp [e1]
                                obtain rfl : g1 = true := by rw [Hgg.out]; simp [e]
                                go_wp2_with fail
                                go_meet
                                exact ⟨rfl, rfl, by rw [show (a != b) = true by simp [bne, e2]]⟩
                            · obtain rfl : g1 = true := by rw [Hgg.out]; rfl
                              go_wp2_with fail
                              go_meet
                              exact ⟨rfl, rfl, rfl⟩
                          case rest =>
                            obtain ⟨rfl, rfl, rfl⟩ := hcut
                            clear cb2 hcell
                            obtain ⟨wb, hwb⟩ : ∃ wb, wb = wa.alloc (.cells #[.string x, .string y, .bool g1] 150) := ⟨_, rfl⟩
                            have hbb : Below wa.heap.size wa wb := by rw [hwb]; exact below1 _ _
                            have hnb : wb.heap[wa.heap.size]? = some (.cells #[.string x, .string y, .bool g1] 150 (0, 0)) := by rw [hwb]; exact blk_new wa _
                            have HB := Lib.hid (HA.out.below' hbb)
                            have HCB := Lib.hid (Kd.C_below HCA.out hbb)
                            have HYB := Lib.hid (Kd.C_below HYA.out hbb)
                            rw [← hwb]
                            clear hwb hbb HA HCA HYA
                            have Hnb := Lib.hid hnb
                            have cn0 : wb.cell? ⟨wa.heap.size, 0, none⟩ = some (.string x) := blk_cell hnb 0
                            have cn1 : wb.cell? ⟨wa.heap.size, 1, none⟩ = some (.string y) := blk_cell hnb 1
                            have cn2 : wb.cell? ⟨wa.heap.size, 2, none⟩ = some (.bool g1) := blk_cell hnb 2
                            have ct0 : wb.cell? ⟨wv.heap.size + 1, 0, none⟩ = some (.string t0) := blk_cell HB.out.tb 0
                            have ct1 : wb.cell? ⟨wv.heap.size + 1, 1, none⟩ = some (.string t1) := blk_cell HB.out.tb 1
                            clear hnb
                            have he0 : t0 ++ Utf8.encode (wrap32 a) = u0 := by rw [Hu.out.1, Hab.out.1, enc_sgn _ hp2]
                            have he1 : t1 ++ Utf8.encode (wrap32 b) = u1 := by rw [Hu.out.2, Hab.out.2, enc_sgn _ hq2]
                            have hz0 : ¬ 9223372036854775807 < t0.size + (Utf8.encode (wrap32 a)).size := by
                              rw [Hab.out.1, enc_sgn _ hp2, sgT_size]; have := HZ.out.1; omega
                            have hz1 : ¬ 9223372036854775807 < t1.size + (Utf8.encode (wrap32 b)).size := by
                              rw [Hab.out.2, enc_sgn _ hq2, sgT_size]; have := HZ.out.2; omega
                            go_upto_region 25 with fail
                            obtain ⟨wc, hwc⟩ : ∃ wc, wc = wb.alloc (.cells #[.string u0, .string u1] 152) := ⟨_, rfl⟩
                            have hbc : Below wb.heap.size wb wc := by rw [hwc]; exact below1 _ _
                            have hnc : wc.heap[wb.heap.size]? = some (.cells #[.string u0, .string u1] 152 (0, 0)) := by rw [hwc]; exact blk_new wb _
                            have HC' := Lib.hid (HB.out.below' hbc)
                            have HCC := Lib.hid (Kd.C_below HCB.out hbc)
                            have HYC := Lib.hid (Kd.C_below HYB.out hbc)
                            have Hnb2 := Lib.hid ((hbc.block _ (blk_lt Hnb.out)).trans Hnb.out)
                            try rw [← hwc]
                            clear hwc hbc HB HCB HYB Hnb cn0 cn1 cn2 ct0 ct1 he0 he1 hz0 hz1
                            have Hnc := Lib.hid hnc
                            clear hnc
                            have cn0 : wc.cell? ⟨wa.heap.size, 0, none⟩ = some (.string x) := blk_cell Hnb2.out 0
                            have cn1 : wc.cell? ⟨wa.heap.size, 1, none⟩ = some (.string y) := blk_cell Hnb2.out 1
                            have cn2 : wc.cell? ⟨wa.heap.size, 2, none⟩ = some (.bool g1) := blk_cell Hnb2.out 2
                            obtain ⟨D3, hD3⟩ : ∃ D3, D3 = fD E (L2 ++ (ys.take k).map (fun y => ((x, y, g1), (u0, u1)))) := ⟨_, rfl⟩
                            rw [← hD3] at HC'
                            have HD3 := Lib.hid hD3
                            clear hD3
                            have hkn : okS (x, y, g1) := hokS.out _ (HXY.out x Hxm.out y Hym.out)
                            have hlt1 := look_tx HC'.out.sr.next hkn
                            have hlt2 := look_fl HC'.out.sr.was hkn
                            obtain ⟨⟨v0, v1⟩, hv⟩ : ∃ v, v = txOf D3 (x, y, g1) := ⟨_, rfl⟩
                            obtain ⟨is, his⟩ : ∃ is, is = has D3 (kL (x, y, g1)) := ⟨_, rfl⟩
                            obtain ⟨fl, hfl⟩ : ∃ fl, fl = flS E (x, y, g1) := ⟨_, rfl⟩
                            rw [← hv, ← his] at hlt1
                            rw [← hfl] at hlt2
                            dsimp only [stV, txV] at hlt1 hlt2
                            have Hv := Lib.hid (And.intro hv (And.intro his hfl))
                            have Hlt2 := Lib.hid hlt2
                            clear hv his hfl hlt2
                            go_upto_region 26 with fail
                            obtain ⟨wd, hwd⟩ : ∃ wd, wd = wc.alloc (.cells #[.string v0, .string v1] 152) := ⟨_, rfl⟩
                            have hbd : Below wc.heap.size wc wd := by rw [hwd]; exact below1 _ _
                            have hnd : wd.heap[wc.heap.size]? = some (.cells #[.string v0, .string v1] 152 (0, 0)) := by rw [hwd]; exact blk_new wc _
                            have HD := Lib.hid (HC'.out.below' hbd)
                            have HCD := Lib.hid (Kd.C_below HCC.out hbd)
                            have HYD := Lib.hid (Kd.C_below HYC.out hbd)
                            have Hnb3 := Lib.hid ((hbd.block _ (blk_lt Hnb2.out)).trans Hnb2.out)
                            have Hnc3 := Lib.hid ((hbd.block _ (blk_lt Hnc.out)).trans Hnc.out)
                            rw [← hwd]
                            clear hwd hbd HC' HCC HYC Hnb2 Hnc cn0 cn1 cn2 Hlt2 hlt1
                            have Hnd := Lib.hid hnd
                            clear hnd
                            have cn0 : wd.cell? ⟨wa.heap.size, 0, none⟩ = some (.string x) := blk_cell Hnb3.out 0
                            have cn1 : wd.cell? ⟨wa.heap.size, 1, none⟩ = some (.string y) := blk_cell Hnb3.out 1
                            have cn2 : wd.cell? ⟨wa.heap.size, 2, none⟩ = some (.bool g1) := blk_cell Hnb3.out 2
                            have cu0 : wd.cell? ⟨wb.heap.size, 0, none⟩ = some (.string u0) := blk_cell Hnc3.out 0
                            have cu1 : wd.cell? ⟨wb.heap.size, 1, none⟩ = some (.string u1) := blk_cell Hnc3.out 1
                            have cv0 : wd.cell? ⟨wc.heap.size, 0, none⟩ = some (.string v0) := blk_cell Hnd.out 0
                            have cv1 : wd.cell? ⟨wc.heap.size, 1, none⟩ = some (.string v1) := blk_cell Hnd.out 1
                            have hlt2 := look_fl HD.out.sr.was hkn
                            rw [← Hv.out.2.2] at hlt2
                            dsimp only [stV] at hlt2
                            have hstep : Hid (fD E (L2 ++ (ys.take (k + 1)).map (fun y => ((x, y, g1), (u0, u1)))) = putS E D3 ((x, y, g1), (u0, u1))) := Lib.hid (by
                              rw [take_rd _ _ hlk, ← Hy.out, List.map_append, ← List.append_assoc, List.map_singleton, fD_snoc, ← HD3.out])
                            have hbound : Maps.size D3 < maxLen := by
                              have h1 := size_fold hokS.out HD.out.sr.next (by
                                rw [HD3.out]
                                refine fold_keys hokS.out E _ (fun z hz => ?_)
                                rcases List.mem_append.1 hz with hz | hz
                                · exact HM2.out z hz
                                · obtain ⟨y', hy', rfl⟩ := List.mem_map.1 hz
                                  exact HXY.out x Hxm.out y' (List.mem_of_mem_take hy'))
                              have h2 := hall.out
                              unfold maxLen; omega
                            have Hbound := Lib.hid hbound
                            clear hbound
                            have hkO := Lib.hid hkn
                            clear hkn
                            cases fl
                            · cases is
                              · obtain ⟨we, hrun, hown, hg⟩ := HD.out.sr.next.update lawS Tryz.underlying153 Hbound.out (keyOf_st (x, y, g1) hkO.out) (rT_mk (u0, u1))
                                have hrun2 : (Instr.mapUpdate 153 (.map (some wq.heap.size)) (.agg #[.string x, .string y, .bool g1]) (.agg #[.string u0, .string u1])).run Tryz.prog wd = .ok () we := hrun
                                have HE := Lib.hid (HD.out.put hg hown)
                                have HCE := Lib.hid (HD.out.sr.texts (.of_grown hg) HCD.out)
                                have HYE := Lib.hid (HD.out.sr.texts (.of_grown hg) HYD.out)
                                clear hrun hown hg
                                go_wp2_with fail
                                go_roundw
                                case rel =>
                                  refine ⟨k + 1, by omega, by simp, ?_, HCE, HYE⟩
                                  rw [hstep.out]
                                  have : putS E D3 ((x, y, g1), (u0, u1)) = D3.put (kL (x, y, g1)) (txD (u0, u1)) := by
                                    unfold putS; rw [if_pos ⟨Hv.out.2.2.symm, .inl Hv.out.2.1.symm⟩]
                                  rw [this]; exact HE
                                case measure => simp [intOf]; omega
                              · by_cases hbf : befI u0 u1 v0 v1 < 0
                                · have hbd : decide (befI u0 u1 v0 v1 < 0) = true := decide_eq_true hbf
                                  go_wp2_with (go_at_call 85; refine (before_calls _ _ _ _ _).mono ?_; rintro e we ⟨rfl, hb⟩; have HE := Lib.hid (HD.out.below' hb); have HCE := Lib.hid (Kd.C_below HCD.out hb); have HYE := Lib.hid (Kd.C_below HYD.out hb); have cm0 : we.cell? ⟨wa.heap.size, 0, none⟩ = some (.string x) := blk_cell ((hb.block _ (blk_lt Hnb3.out)).trans Hnb3.out) 0; have cm1 : we.cell? ⟨wa.heap.size, 1, none⟩ = some (.string y) := blk_cell ((hb.block _ (blk_lt Hnb3.out)).trans Hnb3.out) 1; have cm2 : we.cell? ⟨wa.heap.size, 2, none⟩ = some (.bool g1) := blk_cell ((hb.block _ (blk_lt Hnb3.out)).trans Hnb3.out) 2; have cl0 : we.cell? ⟨wb.heap.size, 0, none⟩ = some (.string u0) := blk_cell ((hb.block _ (blk_lt Hnc3.out)).trans Hnc3.out) 0; have cl1 : we.cell? ⟨wb.heap.size, 1, none⟩ = some (.string u1) := blk_cell ((hb.block _ (blk_lt Hnc3.out)).trans Hnc3.out) 1; obtain ⟨wf, hrun, hown, hg⟩ := HE.out.sr.next.update lawS Tryz.underlying153 Hbound.out (keyOf_st (x, y, g1) hkO.out) (rT_mk (u0, u1)); have hrun2 : (Instr.mapUpdate 153 (.map (some wq.heap.size)) (.agg #[.string x, .string y, .bool g1]) (.agg #[.string u0, .string u1])).run Tryz.prog we = .ok () wf := hrun; have HF := Lib.hid (HE.out.put hg hown); have HCF := Lib.hid (HE.out.sr.texts (.of_grown hg) HCE.out); have HYF := Lib.hid (HE.out.sr.texts (.of_grown hg) HYE.out); clear hrun hown hg hb)
                                  go_roundw
                                  case rel =>
                                    refine ⟨k + 1, by omega, by simp, ?_, HCF, HYF⟩
                                    rw [hstep.out]
                                    have : putS E D3 ((x, y, g1), (u0, u1)) = D3.put (kL (x, y, g1)) (txD (u0, u1)) := by
                                      unfold putS; rw [if_pos ⟨Hv.out.2.2.symm, .inr (by rw [← Hv.out.1]; exact hbf)⟩]
                                    rw [this]; exact HF
                                  case measure => simp [intOf]; omega
                                · have hbd : decide (befI u0 u1 v0 v1 < 0) = false := decide_eq_false hbf
                                  go_wp2_with (go_at_call 85; refine (before_calls _ _ _ _ _).mono ?_; rintro e we ⟨rfl, hb⟩; have HE := Lib.hid (HD.out.below' hb); have HCE := Lib.hid (Kd.C_below HCD.out hb); have HYE := Lib.hid (Kd.C_below HYD.out hb); clear hb)
                                  go_roundw
                                  case rel =>
                                    refine ⟨k + 1, by omega, by simp, ?_, HCE, HYE⟩
                                    rw [hstep.out]
                                    have : putS E D3 ((x, y, g1), (u0, u1)) = D3 := by
                                      unfold putS; rw [if_neg (fun h => by
                                        rcases h.2 with h | h
                                        · rw [← Hv.out.2.1] at h; cases h
                                        · rw [← Hv.out.1] at h; dsimp only at h; omega)]
                                    rw [this]; exact HE
                                  case measure => simp [intOf]; omega
                            · go_wp2_with fail
                              go_roundw
                              case rel =>
                                refine ⟨k + 1, by omega, by simp, ?_, HCD, HYD⟩
                                rw [hstep.out]
                                have : putS E D3 ((x, y, g1), (u0, u1)) = D3 := by
                                  unfold putS; rw [if_neg (fun h => by have := h.1; rw [← Hv.out.2.2] at this; cases this)]
                                rw [this]; exact HD
                              case measure => simp [intOf]; omega
                        · obtain rfl : k = ys.length := by omega
                          rw [List.take_length] at HA
                          go_wp2_with fail
                          go_roundw
                          case rel =>
                            refine ⟨j + 1, by omega, by simp, ?_, HCA⟩
                            rw [take_rd _ _ hlj, ← Hx.out, List.flatMap_append, ← List.append_assoc, List.flatMap_singleton, ← HL2.out]
                            exact HA
                          case measure => simp [intOf]; omega
                    · obtain rfl : j = xs.length := by omega
                      rw [List.take_length] at H8
                      go_wp2_with fail
                      go_roundw
                      case rel =>
                        refine ⟨i + 1, by omega, by simp, ?_⟩
                        have e : L0 ++ (List.range (i + 1)).flatMap (nextI ws ((a0, b0, g0), (t0, t1))) = L1 ++ xs.flatMap (fun x => ys.map (fun y => ((x, y, g1), (u0, u1)))) := by
                          rw [List.range_succ, List.flatMap_append, ← List.append_assoc, ← HL1.out, List.flatMap_singleton]
                          congr 1
                          unfold nextI
                          dsimp only
                          rw [← Hpq.out.1, ← Hpq.out.2, ← Hab.out.1, ← Hab.out.2, ← Hu.out.1, ← Hu.out.2, ← Hxs.out, ← Hys.out, ← Hgg.out, if_neg]
                          rintro ⟨h1, h2⟩
                          rw [h2] at hg1
                          simp [h1] at hg1
                        rw [e]
                        exact H8
                      case measure => simp [intOf]; omega
            · obtain rfl : i = 4 := by omega
              go_wp2_with fail
              go_roundw
              case rel =>
                refine ⟨(fun z => left z && !z.sameKey (kL (a0, b0, g0))), cnt3, done ++ [((a0, b0, g0), (t0, t1))], ?_, HDI2⟩
                have e : roundD ws E (done ++ [((a0, b0, g0), (t0, t1))]) = fD E (L0 ++ (List.range 4).flatMap (nextI ws ((a0, b0, g0), (t0, t1)))) := by
                  rw [roundD_append, HL0.out]
                  unfold fD
                  rw [List.foldl_append]
                  rfl
                rw [e]
                exact Lib.hid H.out.sr
              case measure => rw [H.out.sr.rg.left_eq, hle0.out]; exact hlt3
end Go.Proofs.YtfnibmcenjiodaaGreatDoor.M
