/- Contracts and plain laws that the claim's card stands on (texts R2 N1 M18 M19 of the work, put together). No statement of the seat is proved here. -/
import Derived.Sort.Walk0
import Derived.Test.YtfnibmcenjiodaaGreatDoorQ12
import Derived.Test.YtfnibmcenjiodaaGreatDoorQ13
import Derived.Test.YtfnibmcenjiodaaGreatDoorQ14
set_option linter.unusedVariables false
set_option linter.unusedSimpArgs false
namespace Go.Proofs.YtfnibmcenjiodaaGreatDoor.R
open Go.RowKit Go.Proofs.YtfnibmcenjiodaaGreatDoorW.PrintWords Go.Proofs.YtfnibmcenjiodaaGreatDoorW.PrintLast Go.Proofs.YtfnibmcenjiodaaGreatDoorW.PrintMore
attribute [local go_sem] max2_int min2_int max_two min_two max_three min_three max_four min_four   -- for this text's walks alone
def oilcakeref11_Message.l0 : Nat → ByteArray → List Int → Int → Int → List ByteArray → Option (ByteArray × Bool)
  | 0, _, _, _, _, _ => none
  | k + 1, x6, x9, x10, x11, x120000 => if x11 < x10 then (if 0 ≤ x11 then (if x11 < (x9.length : Int) then ((oilcakeref11_within.f (rd x9 x11) 1 (x120000.length : Int)).bind fun t121 => (if t121 = true then (if 0 ≤ (wrap64 ((rd x9 x11) - 1)) then (if (wrap64 ((rd x9 x11) - 1)) < (x120000.length : Int) then (if x6.size + (rdOf ByteArray.empty x120000 (wrap64 ((rd x9 x11) - 1))).size ≤ 9223372036854775807 then (if ((x6 ++ (rdOf ByteArray.empty x120000 (wrap64 ((rd x9 x11) - 1)))).size : Int) > 250 then (some ((⟨#[]⟩ : ByteArray), false)) else (oilcakeref11_Message.l0 k (x6 ++ (rdOf ByteArray.empty x120000 (wrap64 ((rd x9 x11) - 1)))) x9 x10 (wrap64 (x11 + 1)) x120000)) else (none)) else (none)) else (none)) else (some ((⟨#[]⟩ : ByteArray), false)))) else (none)) else (none)) else (some (x6, true))
def oilcakeref11_Message.f (k : Nat) (l0_0 : List ByteArray) (l1 : List Int) : Option (ByteArray × Bool) := oilcakeref11_Message.l0 k (⟨#[]⟩ : ByteArray) l1 (l1.length : Int) 0 l0_0
set_option maxHeartbeats 8000000 in
set_option maxRecDepth 100000 in
theorem oilcakeref11_Message.calls (k : Nat) (A0_0 : Option Addr) (c0_0 : Nat) (l0_0 : List ByteArray) (A1 : Option Addr) (c1 : Nat) (l1 : List Int) (r1 : ByteArray) (r2 : Bool) (w : World) (hr0_0 : Kd.C Kd.string w A0_0 l0_0.length l0_0) (hc0_0 : l0_0.length ≤ c0_0) (hr1 : Kd.C (Kd.int .i64) w A1 l1.length l1) (hc1 : l1.length ≤ c1) (h : oilcakeref11_Message.f k l0_0 l1 = some (r1, r2)) :
    Calls Tryz.prog 35 #[.agg #[.slice A0_0 l0_0.length c0_0], .slice A1 l1.length c1] w fun e w' => e = .returned (.tuple #[.string r1, .bool r2]) ∧ Below w.heap.size w w' := by
  have hu24 := Tryz.underlying24
  have HR0_0 := Aside0.mk hr0_0
  have HC0_0 := Aside0.mk hc0_0
  clear hr0_0 hc0_0
  have HR1 := Aside0.mk hr1
  have HC1 := Aside0.mk hc1
  clear hr1 hc1
  have HB := Aside0.mk (Below.refl w.heap.size w)
  have H : (oilcakeref11_Message.l0 k (⟨#[]⟩ : ByteArray) l1 (l1.length : Int) 0 l0_0) = some (r1, r2) := h
  clear h
  have H' := Aside0.mk H
  clear H
  go_enter Tryz.func35, Tryz.ntmps35
  go_wp2_with (first | ((with_reducible refine gate_dst (N := 2) rfl ?_); refine box_event ?hg (N := 2) ?hd (cs := #[.slice A0_0 l0_0.length c0_0]) (t := 24) ?hr ?_; (case hd => rfl); (case hg => rfl); (case hr => first | (go_simp; done) | (go_simp; rfl)); intro gb119 hg w3 hbox hb; have n0_ := Aside0.mk (below_step (by repeat (first | (with_reducible first | exact HB.out | apply below_alloc | apply pw_below_drewN | apply below_drew1) | exact HB.out)) hb); have n1_ := Aside0.mk (hbox); have n2_ := Aside0.mk ((by rw [hg]; exact (below_size (by repeat (first | (with_reducible first | exact HB.out | apply below_alloc | apply pw_below_drewN | apply below_drew1) | exact HB.out))) : w.heap.size ≤ gb119)); have n3_ := Aside0.mk ((by rw [hg]; exact (below_size (by repeat (first | (with_reducible first | exact HB.out | apply below_alloc | apply pw_below_drewN | apply below_drew1) | exact HB.out))) : w.heap.size ≤ gb119)); clear HB; have HB := n0_; have BK119 := n1_; have GW119 := n2_; have GE119 := n3_; clear n0_ n1_ n2_ n3_; clear hb hbox hg))
  go_loopg [6, 11] k (fun kq v6 v11 w' => ∃ (x6_1 : ByteArray) (x11_1 : Int), v6 = .string x6_1 ∧ v11 = .int .i64 x11_1 ∧ Aside0 (oilcakeref11_Message.l0 kq x6_1 l1 (l1.length : Int) x11_1 l0_0 = some (r1, r2)) ∧ Aside0 (kq ≤ k) ∧ Aside0 (w'.heap[gb119]? = some (.cells #[(.slice A0_0 l0_0.length c0_0)] 24 (0, 0))) ∧ Aside0 (Below w.heap.size w w'))
  case atStart => exact ⟨((⟨#[]⟩ : ByteArray)), (0), (by first | rfl | (simp; done) | (simp [*]; done)), (by first | rfl | (simp; done) | (simp [*]; done)), H', ⟨Nat.le_refl _⟩, ⟨by (with_reducible repeat (first | refine blk_drewN ?_ _ | refine blk_drew ?_ | refine blk_alloc ?_ _)); exact BK119.out⟩, ⟨by repeat (first | (with_reducible first | exact HB.out | apply below_alloc | apply pw_below_drewN | apply below_drew1 | refine below_set ?_ GE119.out) | exact HB.out)⟩⟩
  case round =>
    clear H'
    try clear c1
    try clear p2
    try clear c3
    obtain ⟨x6_1, x11_1, rfl, rfl, HA, HK1, BK119, HB⟩ := hrel
    cases gk with
    | zero => exact absurd HA.out (by simp [oilcakeref11_Message.l0])
    | succ k1 =>
      have H := HA.out
      clear HA
      simp only [oilcakeref11_Message.l0] at H
      by_cases c4 : x11_1 < (l1.length : Int)
      · rw [if_pos c4] at H
        have c4b0 : decide (x11_1 < (l1.length : Int)) = true := decide_eq_true c4
        clear c4
        by_cases c5 : 0 ≤ x11_1
        · rw [if_pos c5] at H
          have c5b0 : decide (0 ≤ x11_1) = true := decide_eq_true c5
          clear c5
          by_cases c6 : x11_1 < (l1.length : Int)
          · rw [if_pos c6] at H
            have c6b0 : decide (x11_1 < (l1.length : Int)) = true := decide_eq_true c6
            clear c6
            replace H := Option.bind_eq_some_iff.mp H
            obtain ⟨t121, A70, H⟩ := H
            replace H : (if t121 = true then (if 0 ≤ (wrap64 ((rd l1 x11_1) - 1)) then (if (wrap64 ((rd l1 x11_1) - 1)) < (l0_0.length : Int) then (if x6_1.size + (rdOf ByteArray.empty l0_0 (wrap64 ((rd l1 x11_1) - 1))).size ≤ 9223372036854775807 then (if ((x6_1 ++ (rdOf ByteArray.empty l0_0 (wrap64 ((rd l1 x11_1) - 1)))).size : Int) > 250 then (some ((⟨#[]⟩ : ByteArray), false)) else (oilcakeref11_Message.l0 k1 (x6_1 ++ (rdOf ByteArray.empty l0_0 (wrap64 ((rd l1 x11_1) - 1)))) l1 (l1.length : Int) (wrap64 (x11_1 + 1)) l0_0)) else (none)) else (none)) else (none)) else (some ((⟨#[]⟩ : ByteArray), false))) = some (r1, r2) := H
            have A7 := Aside0.mk A70
            clear A70
            by_cases c8 : t121 = true
            · subst c8
              have H1 : (if 0 ≤ (wrap64 ((rd l1 x11_1) - 1)) then (if (wrap64 ((rd l1 x11_1) - 1)) < (l0_0.length : Int) then (if x6_1.size + (rdOf ByteArray.empty l0_0 (wrap64 ((rd l1 x11_1) - 1))).size ≤ 9223372036854775807 then (if ((x6_1 ++ (rdOf ByteArray.empty l0_0 (wrap64 ((rd l1 x11_1) - 1)))).size : Int) > 250 then (some ((⟨#[]⟩ : ByteArray), false)) else (oilcakeref11_Message.l0 k1 (x6_1 ++ (rdOf ByteArray.empty l0_0 (wrap64 ((rd l1 x11_1) - 1)))) l1 (l1.length : Int) (wrap64 (x11_1 + 1)) l0_0)) else (none)) else (none)) else (none)) = some (r1, r2) := by rw [if_pos rfl] at H; exact H
              clear H
              have H := H1
              clear H1
              obtain ⟨ji9, hji9⟩ : ∃ j_ : Int, (wrap64 ((rd l1 x11_1) - 1)) = j_ := ⟨_, rfl⟩
              replace H : (if 0 ≤ (ji9) then (if (ji9) < (l0_0.length : Int) then (if x6_1.size + (rdOf ByteArray.empty l0_0 (ji9)).size ≤ 9223372036854775807 then (if ((x6_1 ++ (rdOf ByteArray.empty l0_0 (ji9))).size : Int) > 250 then (some ((⟨#[]⟩ : ByteArray), false)) else (oilcakeref11_Message.l0 k1 (x6_1 ++ (rdOf ByteArray.empty l0_0 (ji9))) l1 (l1.length : Int) (wrap64 (x11_1 + 1)) l0_0)) else (none)) else (none)) else (none)) = some (r1, r2) := by first | (rw [hji9] at H; exact H) | (simp only [hji9] at H ⊢; exact H)
              (try rw [hji9] at A7)
              have hji9w : (IntKind.i64.wrap ((rd l1 x11_1) - 1)) = ji9 := (i64_w _).trans hji9
              by_cases c10 : 0 ≤ (ji9)
              · rw [if_pos c10] at H
                have c10b0 : decide (0 ≤ (ji9)) = true := decide_eq_true c10
                clear c10
                by_cases c11 : (ji9) < (l0_0.length : Int)
                · rw [if_pos c11] at H
                  have c11b0 : decide ((ji9) < (l0_0.length : Int)) = true := decide_eq_true c11
                  clear c11
                  by_cases c12 : x6_1.size + (rdOf ByteArray.empty l0_0 (ji9)).size ≤ 9223372036854775807
                  · rw [if_pos c12] at H
                    have c12b0 := eq_true c12
                    have c12b1 : decide (x6_1.size + (rdOf ByteArray.empty l0_0 (ji9)).size ≤ 9223372036854775807) = true := decide_eq_true c12
                    try have c12b2 : (9223372036854775807 < x6_1.size + (rdOf ByteArray.empty l0_0 (ji9)).size) = False := eq_false (Nat.not_lt.2 c12)
                    by_cases c13 : ((x6_1 ++ (rdOf ByteArray.empty l0_0 (ji9))).size : Int) > 250
                    · rw [if_pos c13] at H
                      have c13b0 : decide (250 < ((x6_1 ++ (rdOf ByteArray.empty l0_0 (ji9))).size : Int)) = true := decide_eq_true c13
                      (try (have c13b1 : decide (250 < (x6_1.size : Int) + ((rdOf ByteArray.empty l0_0 (ji9)).size : Int)) = true := decide_eq_true (by have q_ := c13; simp only [ByteArray.size_append] at q_; omega)))
                      have c13b2 : decide (250 < (x6_1 ++ (rdOf ByteArray.empty l0_0 (ji9))).size) = true := decide_eq_true (by omega)
                      clear c13
                      simp only [Option.some.injEq, Prod.mk.injEq] at H
                      obtain ⟨rfl, rfl⟩ := H
                      have p120 : 0 ≤ (x11_1 : Int) := of_decide_eq_true (by first | (with_reducible assumption) | assumption)
                      have q120 : x11_1 < (l1.length : Int) := of_decide_eq_true (by first | (with_reducible assumption) | assumption)
                      obtain ⟨ad120, e120, hx120_0⟩ := Kd.at_int HR1.out x11_1 p120 q120
                      cases e120
                      replace hx120_0 := (HB.out.cell (World.block_lt_of_cell? w _ hx120_0)).trans hx120_0
                      replace p120 := eq_true p120
                      replace q120 := eq_true q120
                      have hcz14_0 : wr.cell? ⟨gb119, 0, none⟩ = some (.slice A0_0 l0_0.length c0_0) := (blk_cell BK119.out 0).trans rfl
                      have hfz14_0 := blk_frozen BK119.out 0
                      go_wp2_with (first | ((with_reducible refine gate_callee (f := 81) rfl ?_); refine goesL_ (some 19) rfl rfl Tryz.func81 (by kernel_rfl) rfl #[.int .i64 (rd l1 x11_1), .int .i64 1, .int .i64 (l0_0.length : Int)] rfl (by (try simp only [List.map_toArray, List.map_cons, List.map_nil]); first | done | rfl | (simp only [List.length_drop, List.length_take]; rfl)) ?_; (with_reducible refine (oilcakeref11_within.calls (rd l1 x11_1) 1 (l0_0.length : Int) true _ A7.out).mono ?_); rintro e w' ⟨rfl, ⟨nd, rfl⟩⟩; refine ⟨_, rfl, ?_⟩; have p122 : 0 ≤ ((ji9) : Int) := of_decide_eq_true (by first | (with_reducible assumption) | assumption); have q122 : (ji9) < (l0_0.length : Int) := of_decide_eq_true (by first | (with_reducible assumption) | assumption); obtain ⟨ad122, e122, hx122_0⟩ := Kd.at_string HR0_0.out (ji9) p122 q122; cases e122; replace hx122_0 := (HB.out.cell (World.block_lt_of_cell? w _ hx122_0)).trans hx122_0; replace p122 := eq_true p122; replace q122 := eq_true q122))
                      go_ret2
                      exact ⟨by first | rfl | (simp [errW_none, errW_some] <;> rfl) | (simp only [← hji9]; first | rfl | (simp [errW_none, errW_some] <;> rfl)) | (simp [*, errW_none, errW_some] <;> rfl), by repeat (first | (with_reducible first | exact HB.out | apply below_alloc | apply pw_below_drewN | apply below_drew1 | refine below_set ?_ GE119.out) | exact HB.out)⟩
                    · rw [if_neg c13] at H
                      have c13b0 : decide (250 < ((x6_1 ++ (rdOf ByteArray.empty l0_0 (ji9))).size : Int)) = false := decide_eq_false c13
                      (try (have c13b1 : decide (250 < (x6_1.size : Int) + ((rdOf ByteArray.empty l0_0 (ji9)).size : Int)) = false := decide_eq_false (by have q_ := c13; simp only [ByteArray.size_append] at q_; omega)))
                      have c13b2 : decide (250 < (x6_1 ++ (rdOf ByteArray.empty l0_0 (ji9))).size) = false := decide_eq_false (by omega)
                      clear c13
                      have H' := Aside0.mk H
                      clear H
                      have p120 : 0 ≤ (x11_1 : Int) := of_decide_eq_true (by first | (with_reducible assumption) | assumption)
                      have q120 : x11_1 < (l1.length : Int) := of_decide_eq_true (by first | (with_reducible assumption) | assumption)
                      obtain ⟨ad120, e120, hx120_0⟩ := Kd.at_int HR1.out x11_1 p120 q120
                      cases e120
                      replace hx120_0 := (HB.out.cell (World.block_lt_of_cell? w _ hx120_0)).trans hx120_0
                      replace p120 := eq_true p120
                      replace q120 := eq_true q120
                      have hcz15_0 : wr.cell? ⟨gb119, 0, none⟩ = some (.slice A0_0 l0_0.length c0_0) := (blk_cell BK119.out 0).trans rfl
                      have hfz15_0 := blk_frozen BK119.out 0
                      go_wp2_with (first | ((with_reducible refine gate_callee (f := 81) rfl ?_); refine goesL_ (some 19) rfl rfl Tryz.func81 (by kernel_rfl) rfl #[.int .i64 (rd l1 x11_1), .int .i64 1, .int .i64 (l0_0.length : Int)] rfl (by (try simp only [List.map_toArray, List.map_cons, List.map_nil]); first | done | rfl | (simp only [List.length_drop, List.length_take]; rfl)) ?_; (with_reducible refine (oilcakeref11_within.calls (rd l1 x11_1) 1 (l0_0.length : Int) true _ A7.out).mono ?_); rintro e w' ⟨rfl, ⟨nd, rfl⟩⟩; refine ⟨_, rfl, ?_⟩; have p122 : 0 ≤ ((ji9) : Int) := of_decide_eq_true (by first | (with_reducible assumption) | assumption); have q122 : (ji9) < (l0_0.length : Int) := of_decide_eq_true (by first | (with_reducible assumption) | assumption); obtain ⟨ad122, e122, hx122_0⟩ := Kd.at_string HR0_0.out (ji9) p122 q122; cases e122; replace hx122_0 := (HB.out.cell (World.block_lt_of_cell? w _ hx122_0)).trans hx122_0; replace p122 := eq_true p122; replace q122 := eq_true q122))
                      go_roundg k1
                      case measure => have := HK1.out; omega
                      case rel => exact ⟨(x6_1 ++ (rdOf ByteArray.empty l0_0 (ji9))), (wrap64 (x11_1 + 1)), (by first | rfl | (simp; done) | (simp only [← hji9] <;> (first | rfl | simp)) | (simp [*]; done)), (by first | rfl | (simp; done) | (simp [*]; done)), H', ⟨by have := HK1.out; omega⟩, ⟨by (with_reducible repeat (first | refine blk_drewN ?_ _ | refine blk_drew ?_ | refine blk_alloc ?_ _)); exact BK119.out⟩, ⟨by repeat (first | (with_reducible first | exact HB.out | apply below_alloc | apply pw_below_drewN | apply below_drew1 | refine below_set ?_ GE119.out) | exact HB.out)⟩⟩
                  · rw [if_neg c12] at H
                    exact absurd H (by simp)
                · rw [if_neg c11] at H
                  exact absurd H (by simp)
              · rw [if_neg c10] at H
                exact absurd H (by simp)
            · replace c8 := Bool.eq_false_iff.mpr c8
              subst c8
              have H1 : (some ((⟨#[]⟩ : ByteArray), false)) = some (r1, r2) := by rw [if_neg (show ¬ (false = true) by decide)] at H; exact H
              clear H
              have H := H1
              clear H1
              simp only [Option.some.injEq, Prod.mk.injEq] at H
              obtain ⟨rfl, rfl⟩ := H
              have p120 : 0 ≤ (x11_1 : Int) := of_decide_eq_true (by first | (with_reducible assumption) | assumption)
              have q120 : x11_1 < (l1.length : Int) := of_decide_eq_true (by first | (with_reducible assumption) | assumption)
              obtain ⟨ad120, e120, hx120_0⟩ := Kd.at_int HR1.out x11_1 p120 q120
              cases e120
              replace hx120_0 := (HB.out.cell (World.block_lt_of_cell? w _ hx120_0)).trans hx120_0
              replace p120 := eq_true p120
              replace q120 := eq_true q120
              have hcz16_0 : wr.cell? ⟨gb119, 0, none⟩ = some (.slice A0_0 l0_0.length c0_0) := (blk_cell BK119.out 0).trans rfl
              have hfz16_0 := blk_frozen BK119.out 0
              go_wp2_with (first | ((with_reducible refine gate_callee (f := 81) rfl ?_); refine goesL_ (some 19) rfl rfl Tryz.func81 (by kernel_rfl) rfl #[.int .i64 (rd l1 x11_1), .int .i64 1, .int .i64 (l0_0.length : Int)] rfl (by (try simp only [List.map_toArray, List.map_cons, List.map_nil]); first | done | rfl | (simp only [List.length_drop, List.length_take]; rfl)) ?_; (with_reducible refine (oilcakeref11_within.calls (rd l1 x11_1) 1 (l0_0.length : Int) false _ A7.out).mono ?_); rintro e w' ⟨rfl, ⟨nd, rfl⟩⟩; refine ⟨_, rfl, ?_⟩))
              go_ret2
              exact ⟨by first | rfl | (simp [errW_none, errW_some] <;> rfl) | (simp [*, errW_none, errW_some] <;> rfl), by repeat (first | (with_reducible first | exact HB.out | apply below_alloc | apply pw_below_drewN | apply below_drew1 | refine below_set ?_ GE119.out) | exact HB.out)⟩
          · rw [if_neg c6] at H
            exact absurd H (by simp)
        · rw [if_neg c5] at H
          exact absurd H (by simp)
      · rw [if_neg c4] at H
        have c4b0 : decide (x11_1 < (l1.length : Int)) = false := decide_eq_false c4
        clear c4
        simp only [Option.some.injEq, Prod.mk.injEq] at H
        obtain ⟨rfl, rfl⟩ := H
        go_wp2
        go_ret2
        exact ⟨by first | rfl | (simp [errW_none, errW_some] <;> rfl) | (simp [*, errW_none, errW_some] <;> rfl), by repeat (first | (with_reducible first | exact HB.out | apply below_alloc | apply pw_below_drewN | apply below_drew1 | refine below_set ?_ GE119.out) | exact HB.out)⟩
def oilcakeref11_begins.f (a0 : ByteArray) (a1 : ByteArray) : Option (Bool) := if (a0.size : Int) ≥ (a1.size : Int) then (if 0 ≤ (a1.size : Int) then (if (a1.size : Int) ≤ (a0.size : Int) then (some ((a0.extract 0 ((a1.size : Int) : Int).toNat).toList == a1.toList)) else (none)) else (none)) else (some false)
set_option maxHeartbeats 8000000 in
set_option maxRecDepth 100000 in
theorem oilcakeref11_begins.calls (a0 : ByteArray) (a1 : ByteArray) (r : Bool) (w : World) (h : oilcakeref11_begins.f a0 a1 = some r) :
    Calls Tryz.prog 72 #[.string a0, .string a1] w fun e w' => e = .returned (.bool r) ∧ Drawn0 w w' := by
  have H : (if (a0.size : Int) ≥ (a1.size : Int) then (if 0 ≤ (a1.size : Int) then (if (a1.size : Int) ≤ (a0.size : Int) then (some ((a0.extract 0 ((a1.size : Int) : Int).toNat).toList == a1.toList)) else (none)) else (none)) else (some false)) = some r := h
  clear h
  by_cases c3 : (a0.size : Int) ≥ (a1.size : Int)
  · rw [if_pos c3] at H
    have c3b0 : decide ((a1.size : Int) ≤ (a0.size : Int)) = true := decide_eq_true c3
    have c3b1 : decide (a1.size ≤ a0.size) = true := decide_eq_true (Int.ofNat_le.mp c3)
    clear c3
    by_cases c4 : 0 ≤ (a1.size : Int)
    · rw [if_pos c4] at H
      have c4b0 := eq_true c4
      have c4b1 : decide (0 ≤ (a1.size : Int)) = true := decide_eq_true c4
      clear c4
      by_cases c5 : (a1.size : Int) ≤ (a0.size : Int)
      · rw [if_pos c5] at H
        have c5b0 := eq_true c5
        have c5b1 : decide ((a1.size : Int) ≤ (a0.size : Int)) = true := decide_eq_true c5
        clear c5
        obtain rfl := Option.some.inj H
        go_enter Tryz.func72, Tryz.ntmps72
        go_wp2
        go_ret
        exact ⟨by first | rfl | (simp; done) | (simp [*]; done), by repeat (first | exact Drawn0.refl _ | apply Drawn0.step)⟩
      · rw [if_neg c5] at H
        exact absurd H (by simp)
    · rw [if_neg c4] at H
      exact absurd H (by simp)
  · rw [if_neg c3] at H
    have c3b0 : decide ((a1.size : Int) ≤ (a0.size : Int)) = false := decide_eq_false c3
    have c3b1 : decide (a1.size ≤ a0.size) = false := decide_eq_false (fun h => c3 (Int.ofNat_le.mpr h))
    clear c3
    obtain rfl := Option.some.inj H
    go_enter Tryz.func72, Tryz.ntmps72
    go_wp2
    go_ret
    exact ⟨by first | rfl | (simp; done) | (simp [*]; done), by repeat (first | exact Drawn0.refl _ | apply Drawn0.step)⟩
mutual
def oilcakeref11_Ways.l0 : Nat → ByteArray → List Int → Int → List ByteArray → Option (List Int)
  | 0, _, _, _, _ => none
  | k + 1, x1, x5, x6, x128000 => if x6 ≥ 0 then (oilcakeref11_Ways.l1 k x1 x5 x6 x128000 (x128000.length : Int) 0 x128000) else (some x5)
def oilcakeref11_Ways.l1 : Nat → ByteArray → List Int → Int → List ByteArray → Int → Int → List ByteArray → Option (List Int)
  | 0, _, _, _, _, _, _, _ => none
  | k + 1, x1, x5, x6, x25, x26, x27, x128000 => if x27 < x26 then (if 0 ≤ x27 then (if x27 < (x25.length : Int) then (if 0 ≤ x6 then (if x6 ≤ (x1.size : Int) then ((oilcakeref11_begins.f (x1.extract (x6 : Int).toNat x1.size) (rdOf ByteArray.empty x25 x27)).bind fun t133 => (if t133 = true then (if x6 < (x5.length : Int) then (if 0 ≤ (wrap64 (x6 + ((rdOf ByteArray.empty x25 x27).size : Int))) then (if (wrap64 (x6 + ((rdOf ByteArray.empty x25 x27).size : Int))) < (x5.length : Int) then (oilcakeref11_Ways.l1 k x1 (x5.set (x6 : Int).toNat (mn 1000001 (wrap64 ((rd x5 x6) + (rd x5 (wrap64 (x6 + ((rdOf ByteArray.empty x25 x27).size : Int)))))))) x6 x25 x26 (wrap64 (x27 + 1)) x128000) else (none)) else (none)) else (none)) else (oilcakeref11_Ways.l1 k x1 x5 x6 x25 x26 (wrap64 (x27 + 1)) x128000))) else (none)) else (none)) else (none)) else (none)) else (oilcakeref11_Ways.l0 k x1 x5 (wrap64 (x6 - 1)) x128000)
end
def oilcakeref11_Ways.f (k : Nat) (l0_0 : List ByteArray) (a1 : ByteArray) : Option (List Int) := if 0 ≤ (wrap64 ((a1.size : Int) + 1)) then (if (wrap64 ((a1.size : Int) + 1) : Int).toNat ≤ 35184372088832 then ((some (List.replicate (wrap64 ((a1.size : Int) + 1) : Int).toNat 0 : List Int)).bind fun y128 => (if 0 ≤ (a1.size : Int) then (if (a1.size : Int) < (y128.length : Int) then (oilcakeref11_Ways.l0 k a1 (y128.set ((a1.size : Int) : Int).toNat 1) (wrap64 ((a1.size : Int) - 1)) l0_0) else (none)) else (none))) else (none)) else (none)
def oilcakeref11_Ways.T10 : Bool × List (List Nat × List Nat) := (true, [([], []), ([], []), ([], []), ([], []), ([2, 3], [2, 3]), ([4], [4]), ([], []), ([], []), ([], []), ([8], [8]), ([7, 9], [7, 9]), ([6, 10], [6, 10]), ([11], [11]), ([5, 12], [5, 12]), ([13], [13]), ([0, 1, 0, 1, 2, 3, 4, 5, 6, 7, 8, 9, 10, 11, 12, 13, 14], [0, 1]), ([15, 14, 0, 1, 2, 3, 4, 5, 6, 7, 8, 9, 10, 11, 12, 13, 14], [14, 15])])
def oilcakeref11_Ways.B10 : List Nat := [0, 0, 0, 0, 12, 28, 0, 0, 0, 256, 896, 1984, 4032, 8188, 16380, 32767, 65535]
theorem oilcakeref11_Ways.tab10 : rtab .any (opsOf Tryz.f37 10) = oilcakeref11_Ways.T10 := by kernel_rfl
theorem oilcakeref11_Ways.bits10 : waitsOk oilcakeref11_Ways.T10.2 oilcakeref11_Ways.B10 = true := by kernel_rfl
set_option maxHeartbeats 8000000 in
set_option maxRecDepth 100000 in
theorem oilcakeref11_Ways.calls (k : Nat) (A0_0 : Option Addr) (c0_0 : Nat) (l0_0 : List ByteArray) (a1 : ByteArray) (r : List Int) (w : World) (hr0_0 : Kd.C Kd.string w A0_0 l0_0.length l0_0) (hc0_0 : l0_0.length ≤ c0_0) (h : oilcakeref11_Ways.f k l0_0 a1 = some r) :
    Calls Tryz.prog 37 #[.agg #[.slice A0_0 l0_0.length c0_0], .string a1] w fun e w' => ∃ v0_ : Value, e = .returned (v0_) ∧ Kd.R (Kd.int .i64) 3 w' w.heap.size (fun _ => True) v0_ r ∧ Below w.heap.size w w' := by
  have hu24 := Tryz.underlying24
  have HR0_0 := Aside0.mk hr0_0
  have HC0_0 := Aside0.mk hc0_0
  clear hr0_0 hc0_0
  have HB := Aside0.mk (Below.refl w.heap.size w)
  have H : (if 0 ≤ (wrap64 ((a1.size : Int) + 1)) then (if (wrap64 ((a1.size : Int) + 1) : Int).toNat ≤ 35184372088832 then ((some (List.replicate (wrap64 ((a1.size : Int) + 1) : Int).toNat 0 : List Int)).bind fun y128 => (if 0 ≤ (a1.size : Int) then (if (a1.size : Int) < (y128.length : Int) then (oilcakeref11_Ways.l0 k a1 (y128.set ((a1.size : Int) : Int).toNat 1) (wrap64 ((a1.size : Int) - 1)) l0_0) else (none)) else (none))) else (none)) else (none)) = some r := h
  clear h
  obtain ⟨ji3, hji3⟩ : ∃ j_ : Int, (wrap64 ((a1.size : Int) + 1)) = j_ := ⟨_, rfl⟩
  replace H : (if 0 ≤ (ji3) then (if (ji3 : Int).toNat ≤ 35184372088832 then ((some (List.replicate (ji3 : Int).toNat 0 : List Int)).bind fun y128 => (if 0 ≤ (a1.size : Int) then (if (a1.size : Int) < (y128.length : Int) then (oilcakeref11_Ways.l0 k a1 (y128.set ((a1.size : Int) : Int).toNat 1) (wrap64 ((a1.size : Int) - 1)) l0_0) else (none)) else (none))) else (none)) else (none)) = some r := by first | (rw [hji3] at H; exact H) | (simp only [hji3] at H ⊢; exact H)
  have hji3w : (IntKind.i64.wrap ((a1.size : Int) + 1)) = ji3 := (i64_w _).trans hji3
  by_cases c4 : 0 ≤ (ji3)
  · rw [if_pos c4] at H
    have c4b0 := eq_true c4
    have c4b1 : decide (0 ≤ (ji3)) = true := decide_eq_true c4
    clear c4
    by_cases c5 : (ji3 : Int).toNat ≤ 35184372088832
    · rw [if_pos c5] at H
      have c5b0 := eq_true c5
      have c5b1 : decide ((ji3 : Int).toNat ≤ 35184372088832) = true := decide_eq_true c5
      clear c5
      obtain ⟨y128, hy128⟩ : ∃ y_ : List Int, y_ = (List.replicate (ji3 : Int).toNat 0) := ⟨_, rfl⟩
      replace H : (if 0 ≤ (a1.size : Int) then (if (a1.size : Int) < (y128.length : Int) then (oilcakeref11_Ways.l0 k a1 (y128.set ((a1.size : Int) : Int).toNat 1) (wrap64 ((a1.size : Int) - 1)) l0_0) else (none)) else (none)) = some r := by first | (rw [hy128]; with_reducible exact H) | (have H2_ := (Option.bind_some _ _).symm.trans H; rw [hy128]; with_reducible exact H2_) | (have H2_ := (Option.bind_some _ _).symm.trans H; with_reducible exact H2_) | with_reducible exact H | (rw [hy128]; exact H) | exact H
      have Ny128 := Aside0.mk hy128
      clear hy128
      by_cases c6 : 0 ≤ (a1.size : Int)
      · rw [if_pos c6] at H
        have c6b0 : decide (0 ≤ (a1.size : Int)) = true := decide_eq_true c6
        have c6b1 : decide (0 ≤ a1.size) = true := decide_eq_true (by omega)
        clear c6
        by_cases c7 : (a1.size : Int) < (y128.length : Int)
        · rw [if_pos c7] at H
          have c7b0 : decide ((a1.size : Int) < (y128.length : Int)) = true := decide_eq_true c7
          have c7b1 : decide (a1.size < y128.length) = true := decide_eq_true (Int.ofNat_lt.mp c7)
          clear c7
          obtain ⟨y131, hy131⟩ : ∃ y_ : List Int, y_ = (y128.set ((a1.size : Int) : Int).toNat 1) := ⟨_, rfl⟩
          replace H : (oilcakeref11_Ways.l0 k a1 y131 (wrap64 ((a1.size : Int) - 1)) l0_0) = some r := by first | (rw [hy131]; with_reducible exact H) | (have H2_ := (Option.bind_some _ _).symm.trans H; rw [hy131]; with_reducible exact H2_) | (have H2_ := (Option.bind_some _ _).symm.trans H; with_reducible exact H2_) | with_reducible exact H | (rw [hy131]; exact H) | exact H
          have Ny131 := Aside0.mk hy131
          clear hy131
          have H' := Aside0.mk H
          clear H
          go_enter Tryz.func37, Tryz.ntmps37
          go_wp2_with (first | ((with_reducible refine gate_dst (N := 2) rfl ?_); refine box_event ?hg (N := 2) ?hd (cs := #[.slice A0_0 l0_0.length c0_0]) (t := 24) ?hr ?_; (case hd => rfl); (case hg => rfl); (case hr => first | (go_simp; done) | (go_simp; rfl)); intro gb127 hg w9 hbox hb; have n0_ := Aside0.mk (below_step (by repeat (first | (with_reducible first | exact HB.out | apply below_alloc | apply pw_below_drewN | apply below_drew1) | exact HB.out)) hb); have n1_ := Aside0.mk (hbox); have n2_ := Aside0.mk ((by rw [hg]; exact (below_size (by repeat (first | (with_reducible first | exact HB.out | apply below_alloc | apply pw_below_drewN | apply below_drew1) | exact HB.out))) : w.heap.size ≤ gb127)); have n3_ := Aside0.mk ((by rw [hg]; exact (below_size (by repeat (first | (with_reducible first | exact HB.out | apply below_alloc | apply pw_below_drewN | apply below_drew1) | exact HB.out))) : w.heap.size ≤ gb127)); clear HB; have HB := n0_; have BK127 := n1_; have GW127 := n2_; have GE127 := n3_; clear n0_ n1_ n2_ n3_; clear hb hbox hg) | ((with_reducible refine gate_dst (N := 12) rfl ?_); refine Kd.R_make (Kd.int .i64) _ 3 rfl (N := 12) rfl 25 _ _ rfl ji3 rfl rfl Tryz.underlying25 (.int .i64 0) 8 info3 rfl (by decide) (by omega) 0 (ok := fun _ => True) (okp := fun _ => True) rfl (fun _ hk => hk) trivial (of_decide_eq_true (by first | (with_reducible assumption) | assumption)) (Nat.le_trans (Nat.mul_le_mul_right _ (of_decide_eq_true (by first | (with_reducible assumption) | assumption) : ji3.toNat ≤ 35184372088832)) (by omega)) (Below.refl _ _) (Nat.le_refl _) ?_; intro v129 w10 ho11 hb hg_ hnew_; clear hg_ hnew_; (first | rw [← Ny128.out] at ho11 | (simp only [Int.reduceToNat] at ho11; rw [← Ny128.out] at ho11)); have n0_ := Aside0.mk (Kd.R_lower ho11 (below_size (by repeat (first | (with_reducible first | exact HB.out | apply below_alloc | apply pw_below_drewN | apply below_drew1 | refine below_set ?_ GE127.out) | exact HB.out)))); have n1_ := Aside0.mk (blk_below (g := gb127) (o := .cells #[.slice A0_0 l0_0.length c0_0] 24 (0, 0)) (by (with_reducible repeat (first | refine blk_drewN ?_ _ | refine blk_drew ?_ | refine blk_alloc ?_ _)); exact BK127.out) hb); have n2_ := Aside0.mk (below_step (by repeat (first | (with_reducible first | exact HB.out | apply below_alloc | apply pw_below_drewN | apply below_drew1 | refine below_set ?_ GE127.out) | exact HB.out)) hb); clear BK127; clear HB; have HO130 := n0_; have BK127 := n1_; have HB := n2_; clear n0_ n1_ n2_; clear hb ho11; have p8 : 0 ≤ ((a1.size : Int) : Int) := of_decide_eq_true (by first | (with_reducible assumption) | assumption); have q8 : ((a1.size : Int) : Int) < ((y128.length : Int) : Int) := of_decide_eq_true (by first | (with_reducible assumption) | assumption); obtain ⟨go8, co8, eo8, gb8, gl8, cl8, HG8⟩ := Kd.R_form HO130.out (by omega); (first | cases eo8 | (injection eo8 with ea_ en_ ec_; (first | subst ea_ | (injection ea_ with ea_; subst ea_)); subst ec_; clear en_)); have GB8 := Aside0.mk gb8; have GG8 := Aside0.mk HG8; clear gb8 gl8 HG8; obtain ⟨hx8_0, hf8_0⟩ := Kd.R_celln 0 HO130.out ((a1.size : Int) : Int) p8 q8; (try simp only [Int.toNat_natCast] at hx8_0 hf8_0); replace p8 := eq_true p8; replace q8 := eq_true q8; obtain ⟨hy12_, hz12_⟩ := Kd.R_celln 0 HO130.out ((a1.size : Int) : Int) (of_decide_eq_true (by first | (with_reducible assumption) | assumption)) (of_decide_eq_true (by first | (with_reducible assumption) | assumption)); (try simp only [Int.toNat_natCast] at hy12_ hz12_); have HP12 := Kd.R_putg HO130.out ((a1.size : Int) : Int) 1) | ((with_reducible refine gate_store (t := 3) (p := 16) rfl ?_); refine store_event (t := 3) (p := 16) (v := ?vo_w13) (w1 := (w10.setCell ⟨go8, ((a1.size : Int) : Int).toNat, none⟩ (.int .i64 1))) ?hg ?ho ?hn ?hr ?_; (case ho => rfl); (case hg => rfl); (case hn => rfl); (case hr => first | (go_simp; done) | (go_simp; rfl)); intro w13 hw; have hg : w10.grownBy w13 (some go8) := (by rw [hw]; exact HP12.2); have hp_ : Kd.R (Kd.int .i64) 3 w13 w.heap.size (fun _ => True) (.slice (some ⟨go8, 0, none⟩) y128.length co8) y131 := (by rw [hw, Ny131.out]; exact HP12.1); clear HP12; have n0_ := Aside0.mk (blk_grown (g := gb127) (o := .cells #[.slice A0_0 l0_0.length c0_0] 24 (0, 0)) (by (with_reducible repeat (first | refine blk_drewN ?_ _ | refine blk_drew ?_ | refine blk_alloc ?_ _)); exact BK127.out) hg (Kd.R_ne HO130.out BK127.out (by decide))); have n1_ := Aside0.mk (hp_); have n2_ := Aside0.mk ((by rw [hw]; exact below_set (HB.out) GB8.out : Below w.heap.size w w13)); clear BK127; clear HO130; clear HB; have BK127 := n0_; have HO130 := n1_; have HB := n2_; clear n0_ n1_ n2_; clear hg hw hp_))
          go_loopg [6] k (fun kq v6 w' => ∃ (x5_1 : List Int) (x6_1 : Int), v6 = .int .i64 x6_1 ∧ Aside0 (oilcakeref11_Ways.l0 kq a1 x5_1 x6_1 l0_0 = some r) ∧ Aside0 (kq ≤ k) ∧ Aside0 (Kd.R (Kd.int .i64) 3 w' w.heap.size (fun _ => True) (.slice (some ⟨go8, 0, none⟩) y128.length co8) x5_1) ∧ Aside0 (w'.heap[gb127]? = some (.cells #[(.slice A0_0 l0_0.length c0_0)] 24 (0, 0))) ∧ Aside0 (Below w.heap.size w w'))
          case atStart => exact ⟨(y131), (wrap64 ((a1.size : Int) - 1)), (by first | rfl | (simp; done) | (simp [*]; done)), H', ⟨Nat.le_refl _⟩, ⟨by (with_reducible repeat (first | apply Kd.R_alloc | apply Kd.R_drewN | apply Kd.R_drew)); exact HO130.out⟩, ⟨by (with_reducible repeat (first | refine blk_drewN ?_ _ | refine blk_drew ?_ | refine blk_alloc ?_ _)); exact BK127.out⟩, ⟨by repeat (first | (with_reducible first | exact HB.out | apply below_alloc | apply pw_below_drewN | apply below_drew1 | refine below_set ?_ GE127.out) | exact HB.out)⟩⟩
          case round =>
            clear H'
            try clear p2
            try clear c3
            try clear c4
            try clear c4b0
            try clear c4b1
            try clear c5
            try clear c5b0
            try clear c5b1
            try clear c6
            try clear c6b0
            try clear c6b1
            try clear p6
            try clear c7
            try clear c7b0
            try clear c7b1
            try clear p8
            try clear q8
            try clear hx8
            try clear hf8
            try clear hx8_0
            try clear p8
            try clear q8
            obtain ⟨x5_1, x6_1, rfl, HA, HK1, HO_5, BK127, HB⟩ := hrel
            have hl5_1 := (Kd.R_reads' HO_5.out).1
            rw [hl5_1] at HO_5
            (try simp only [hl5_1])
            (try simp only [hl5_1] at BK127)
            cases gk with
            | zero => exact absurd HA.out (by simp [oilcakeref11_Ways.l0])
            | succ k1 =>
              have H := HA.out
              clear HA
              simp only [oilcakeref11_Ways.l0] at H
              by_cases c14 : x6_1 ≥ 0
              · rw [if_pos c14] at H
                have c14b0 : decide (0 ≤ x6_1) = true := decide_eq_true c14
                clear c14
                have H' := Aside0.mk H
                clear H
                have hcz15_0 : wr.cell? ⟨gb127, 0, none⟩ = some (.slice A0_0 l0_0.length c0_0) := (blk_cell BK127.out 0).trans rfl
                have hfz15_0 := blk_frozen BK127.out 0
                go_wp2
                go_loopg [27] k1 (fun kq v27 w' => ∃ (x5_2 : List Int) (x27_2 : Int), v27 = .int .i64 x27_2 ∧ Aside0 (oilcakeref11_Ways.l1 kq a1 x5_2 x6_1 l0_0 (l0_0.length : Int) x27_2 l0_0 = some r) ∧ Aside0 (kq ≤ k1) ∧ Aside0 (Kd.R (Kd.int .i64) 3 w' w.heap.size (fun _ => True) (.slice (some ⟨go8, 0, none⟩) x5_1.length co8) x5_2) ∧ Aside0 (w'.heap[gb127]? = some (.cells #[(.slice A0_0 l0_0.length c0_0)] 24 (0, 0))) ∧ Aside0 (Below w.heap.size w w'))
                case atStart => exact ⟨(x5_1), (0), (by first | rfl | (simp; done) | (simp [*]; done)), H', ⟨Nat.le_refl _⟩, ⟨by (try simp only [hl5_1]); (with_reducible repeat (first | apply Kd.R_alloc | apply Kd.R_drewN | apply Kd.R_drew)); exact HO_5.out⟩, ⟨by (try simp only [hl5_1]); (with_reducible repeat (first | refine blk_drewN ?_ _ | refine blk_drew ?_ | refine blk_alloc ?_ _)); exact BK127.out⟩, ⟨by repeat (first | (with_reducible first | exact HB.out | apply below_alloc | apply pw_below_drewN | apply below_drew1 | refine below_set ?_ GE127.out) | exact HB.out)⟩⟩
                case round =>
                  clear H'
                  try clear c1
                  try clear p2
                  try clear c3
                  try clear c4
                  try clear c4b0
                  try clear c4b1
                  try clear c5
                  try clear c5b0
                  try clear c5b1
                  try clear c6
                  try clear c6b0
                  try clear c6b1
                  try clear p6
                  try clear c7
                  try clear c7b0
                  try clear c7b1
                  try clear p8
                  try clear q8
                  try clear hx8
                  try clear hf8
                  try clear c14
                  try clear c14b0
                  try clear hcz15_0
                  try clear hfz15_0
                  try clear hx8_0
                  try clear p2
                  try clear p6
                  try clear p8
                  try clear q8
                  obtain ⟨x5_2, x27_2, rfl, HA, HK2, HO_5, BK127, HB⟩ := hrel
                  have hl5_2 := (Kd.R_reads' HO_5.out).1
                  rw [hl5_2] at HO_5
                  (try simp only [hl5_2])
                  (try simp only [hl5_2] at BK127)
                  cases gk with
                  | zero => exact absurd HA.out (by simp [oilcakeref11_Ways.l1])
                  | succ k2 =>
                    have H := HA.out
                    clear HA
                    simp only [oilcakeref11_Ways.l1] at H
                    by_cases c16 : x27_2 < (l0_0.length : Int)
                    · rw [if_pos c16] at H
                      have c16b0 : decide (x27_2 < (l0_0.length : Int)) = true := decide_eq_true c16
                      clear c16
                      by_cases c17 : 0 ≤ x27_2
                      · rw [if_pos c17] at H
                        have c17b0 : decide (0 ≤ x27_2) = true := decide_eq_true c17
                        clear c17
                        by_cases c18 : x27_2 < (l0_0.length : Int)
                        · rw [if_pos c18] at H
                          have c18b0 : decide (x27_2 < (l0_0.length : Int)) = true := decide_eq_true c18
                          clear c18
                          by_cases c19 : 0 ≤ x6_1
                          · rw [if_pos c19] at H
                            have c19b0 := eq_true c19
                            have c19b1 : decide (0 ≤ x6_1) = true := decide_eq_true c19
                            clear c19
                            by_cases c20 : x6_1 ≤ (a1.size : Int)
                            · rw [if_pos c20] at H
                              have c20b0 := eq_true c20
                              have c20b1 : decide (x6_1 ≤ (a1.size : Int)) = true := decide_eq_true c20
                              clear c20
                              replace H := Option.bind_eq_some_iff.mp H
                              obtain ⟨t133, A210, H⟩ := H
                              replace H : (if t133 = true then (if x6_1 < (x5_2.length : Int) then (if 0 ≤ (wrap64 (x6_1 + ((rdOf ByteArray.empty l0_0 x27_2).size : Int))) then (if (wrap64 (x6_1 + ((rdOf ByteArray.empty l0_0 x27_2).size : Int))) < (x5_2.length : Int) then (oilcakeref11_Ways.l1 k2 a1 (x5_2.set (x6_1 : Int).toNat (mn 1000001 (wrap64 ((rd x5_2 x6_1) + (rd x5_2 (wrap64 (x6_1 + ((rdOf ByteArray.empty l0_0 x27_2).size : Int)))))))) x6_1 l0_0 (l0_0.length : Int) (wrap64 (x27_2 + 1)) l0_0) else (none)) else (none)) else (none)) else (oilcakeref11_Ways.l1 k2 a1 x5_2 x6_1 l0_0 (l0_0.length : Int) (wrap64 (x27_2 + 1)) l0_0)) = some r := H
                              have A21 := Aside0.mk A210
                              clear A210
                              by_cases c22 : t133 = true
                              · subst c22
                                have H1 : (if x6_1 < (x5_2.length : Int) then (if 0 ≤ (wrap64 (x6_1 + ((rdOf ByteArray.empty l0_0 x27_2).size : Int))) then (if (wrap64 (x6_1 + ((rdOf ByteArray.empty l0_0 x27_2).size : Int))) < (x5_2.length : Int) then (oilcakeref11_Ways.l1 k2 a1 (x5_2.set (x6_1 : Int).toNat (mn 1000001 (wrap64 ((rd x5_2 x6_1) + (rd x5_2 (wrap64 (x6_1 + ((rdOf ByteArray.empty l0_0 x27_2).size : Int)))))))) x6_1 l0_0 (l0_0.length : Int) (wrap64 (x27_2 + 1)) l0_0) else (none)) else (none)) else (none)) = some r := by rw [if_pos rfl] at H; exact H
                                clear H
                                have H := H1
                                clear H1
                                by_cases c23 : x6_1 < (x5_2.length : Int)
                                · rw [if_pos c23] at H
                                  have c23b0 : decide (x6_1 < (x5_2.length : Int)) = true := decide_eq_true c23
                                  clear c23
                                  obtain ⟨ji24, hji24⟩ : ∃ j_ : Int, (wrap64 (x6_1 + ((rdOf ByteArray.empty l0_0 x27_2).size : Int))) = j_ := ⟨_, rfl⟩
                                  replace H : (if 0 ≤ (ji24) then (if (ji24) < (x5_2.length : Int) then (oilcakeref11_Ways.l1 k2 a1 (x5_2.set (x6_1 : Int).toNat (mn 1000001 (wrap64 ((rd x5_2 x6_1) + (rd x5_2 (ji24)))))) x6_1 l0_0 (l0_0.length : Int) (wrap64 (x27_2 + 1)) l0_0) else (none)) else (none)) = some r := by first | (rw [hji24] at H; exact H) | (simp only [hji24] at H ⊢; exact H)
                                  (try rw [hji24] at A21)
                                  have hji24w : (IntKind.i64.wrap (x6_1 + ((rdOf ByteArray.empty l0_0 x27_2).size : Int))) = ji24 := (i64_w _).trans hji24
                                  by_cases c25 : 0 ≤ (ji24)
                                  · rw [if_pos c25] at H
                                    have c25b0 : decide (0 ≤ (ji24)) = true := decide_eq_true c25
                                    clear c25
                                    by_cases c26 : (ji24) < (x5_2.length : Int)
                                    · rw [if_pos c26] at H
                                      have c26b0 : decide ((ji24) < (x5_2.length : Int)) = true := decide_eq_true c26
                                      clear c26
                                      obtain ⟨ji27, hji27⟩ : ∃ j_ : Int, (mn 1000001 (wrap64 ((rd x5_2 x6_1) + (rd x5_2 (ji24))))) = j_ := ⟨_, rfl⟩
                                      replace H : (oilcakeref11_Ways.l1 k2 a1 (x5_2.set (x6_1 : Int).toNat (ji27)) x6_1 l0_0 (l0_0.length : Int) (wrap64 (x27_2 + 1)) l0_0) = some r := by first | (rw [hji27] at H; exact H) | (simp only [hji27] at H ⊢; exact H)
                                      (try rw [hji27] at A21)
                                      have hji27_ : (if (wrap64 ((rd x5_2 x6_1) + (rd x5_2 (ji24)))) < 1000001 then (wrap64 ((rd x5_2 x6_1) + (rd x5_2 (ji24)))) else 1000001) = ji27 := hji27
                                      obtain ⟨y136, hy136⟩ : ∃ y_ : List Int, y_ = (x5_2.set (x6_1 : Int).toNat (ji27)) := ⟨_, rfl⟩
                                      replace H : (oilcakeref11_Ways.l1 k2 a1 y136 x6_1 l0_0 (l0_0.length : Int) (wrap64 (x27_2 + 1)) l0_0) = some r := by first | (rw [hy136]; with_reducible exact H) | (have H2_ := (Option.bind_some _ _).symm.trans H; rw [hy136]; with_reducible exact H2_) | (have H2_ := (Option.bind_some _ _).symm.trans H; with_reducible exact H2_) | with_reducible exact H | (rw [hy136]; exact H) | exact H
                                      have Ny136 := Aside0.mk hy136
                                      clear hy136
                                      have H' := Aside0.mk H
                                      clear H
                                      have p132 : 0 ≤ (x27_2 : Int) := of_decide_eq_true (by first | (with_reducible assumption) | assumption)
                                      have q132 : x27_2 < (l0_0.length : Int) := of_decide_eq_true (by first | (with_reducible assumption) | assumption)
                                      obtain ⟨ad132, e132, hx132_0⟩ := Kd.at_string HR0_0.out x27_2 p132 q132
                                      cases e132
                                      replace hx132_0 := (HB.out.cell (World.block_lt_of_cell? w _ hx132_0)).trans hx132_0
                                      replace p132 := eq_true p132
                                      replace q132 := eq_true q132
                                      try go_wp2_with (first | ((with_reducible refine gate_callee (f := 72) rfl ?_); refine goesL_ (some 35) rfl rfl Tryz.func72 (by kernel_rfl) rfl #[.string (a1.extract (x6_1 : Int).toNat a1.size), .string (rdOf ByteArray.empty l0_0 x27_2)] rfl (by (try simp only [List.map_toArray, List.map_cons, List.map_nil]); first | done | rfl | (simp only [List.length_drop, List.length_take]; rfl)) ?_; (with_reducible refine (oilcakeref11_begins.calls (a1.extract (x6_1 : Int).toNat a1.size) (rdOf ByteArray.empty l0_0 x27_2) true _ A21.out).mono ?_); rintro e w' ⟨rfl, ⟨nd, rfl⟩⟩; refine ⟨_, rfl, ?_⟩; (try (rw [drewN_self wr]; generalize hq_ : World.drewN wr _ = wr; have n0_ : Aside0 (Kd.R (Kd.int .i64) 3 wr w.heap.size (fun _ => True) (.slice (some ⟨go8, 0, none⟩) x5_2.length co8) x5_2) := ⟨by rw [← hq_]; exact (by (with_reducible repeat (first | apply Kd.R_alloc | apply Kd.R_drewN | apply Kd.R_drew)); exact HO_5.out)⟩; have n1_ : Aside0 (wr.heap[gb127]? = some (.cells #[.slice (some ad132) l0_0.length c0_0] 24 (0, 0))) := ⟨by rw [← hq_]; exact (by (with_reducible repeat (first | refine blk_drewN ?_ _ | refine blk_drew ?_ | refine blk_alloc ?_ _)); exact BK127.out)⟩; have n2_ : Aside0 (Below w.heap.size w wr) := ⟨by rw [← hq_]; exact (by repeat (first | (with_reducible first | exact HB.out | apply below_alloc | apply pw_below_drewN | apply below_drew1 | refine below_set ?_ GE127.out) | exact HB.out))⟩; clear HO_5 BK127 HB hq_; have HO_5 := n0_; have BK127 := n1_; have HB := n2_; clear n0_ n1_ n2_))))
                                      have n0_ := Aside0.mk (Kd.R_drew HO_5.out)
                                      have n1_ := Aside0.mk (blk_drew BK127.out)
                                      have n2_ := Aside0.mk (below_drew1 HB.out)
                                      clear HO_5
                                      clear BK127
                                      clear HB
                                      have HO_5 := n0_
                                      have BK127 := n1_
                                      have HB := n2_
                                      clear n0_ n1_ n2_
                                      have p134 : 0 ≤ (x6_1 : Int) := of_decide_eq_true (by first | (with_reducible assumption) | assumption)
                                      have q134 : x6_1 < (x5_2.length : Int) := of_decide_eq_true (by first | (with_reducible assumption) | assumption)
                                      obtain ⟨ad134, e134, hx134_0⟩ := Kd.at_int (Kd.R_reads' HO_5.out).2.2 x6_1 p134 q134
                                      obtain rfl : (⟨go8, 0, none⟩ : Addr) = ad134 := (by injection e134)
                                      (first | simp only [add_plain] at hx134_0 | simp only [add_at] at hx134_0 | simp only [Addr.add, Nat.zero_add] at hx134_0 | skip)
                                      replace p134 := eq_true p134
                                      replace q134 := eq_true q134
                                      have p135 : 0 ≤ ((ji24) : Int) := of_decide_eq_true (by first | (with_reducible assumption) | assumption)
                                      have q135 : (ji24) < (x5_2.length : Int) := of_decide_eq_true (by first | (with_reducible assumption) | assumption)
                                      obtain ⟨ad135, e135, hx135_0⟩ := Kd.at_int (Kd.R_reads' HO_5.out).2.2 (ji24) p135 q135
                                      obtain rfl : (⟨go8, 0, none⟩ : Addr) = ad135 := (by injection e135)
                                      (first | simp only [add_plain] at hx135_0 | simp only [add_at] at hx135_0 | simp only [Addr.add, Nat.zero_add] at hx135_0 | skip)
                                      replace p135 := eq_true p135
                                      replace q135 := eq_true q135
                                      have p28 : 0 ≤ (x6_1 : Int) := of_decide_eq_true (by first | (with_reducible assumption) | assumption)
                                      have q28 : (x6_1 : Int) < ((x5_2.length : Int) : Int) := of_decide_eq_true (by first | (with_reducible assumption) | assumption)
                                      obtain ⟨hx28_0, hf28_0⟩ := Kd.R_celln 0 HO_5.out (x6_1 : Int) p28 q28
                                      replace p28 := eq_true p28
                                      replace q28 := eq_true q28
                                      have HP30 := Kd.R_putn HO_5.out (x6_1 : Int) ji27
                                      rw [← Ny136.out] at HP30
                                      have HQ30 := Aside0.mk HP30
                                      clear HP30
                                      refine start_ (n := 17) (S := fun w' => w'.cell? ⟨go8, (x6_1).toNat, none⟩ = some (.int .i64 (rd x5_2 x6_1)) ∧ w'.cell? ⟨go8, ((ji24)).toNat, none⟩ = some (.int .i64 (rd x5_2 (ji24)))) (ds := [16]) #[false, false, false, false, false, false, false, false, false, false, false, false, false, false, false, false, false] (by kernel_rfl) rfl rfl ⟨hx134_0, hx135_0⟩ (fun hHeld => ?_); refine with_tabW oilcakeref11_Ways.tab10 oilcakeref11_Ways.bits10 (fun HT_ HW_ => ?_)
                                      generalize wr.drew = w29 at HO_5 BK127 HB HQ30 hf28_0 hx134_0 hx135_0 hx28_0 hHeld ⊢
                                      refine pure_ (i := 0) (N := some 36) (v := ?_) (a' := ?_) #[true, false, false, false, false, false, false, false, false, false, false, false, false, false, false, false, false] rfl rfl (any_of HT_.out (by kernel_rfl)) (fun _ _ _ h => h) (Or.inl ⟨by rfl, ?_⟩) ?_ ?_
                                      rotate_left
                                      · intro w'
                                        go_simp
                                        with_reducible rfl
                                      rotate_left
                                      · simp only [Act.put, List.setIfInBounds_toArray, List.set_cons_zero, List.set_cons_succ, i64_w, i32_w]
                                        rfl
                                      refine pure_ (i := 1) (N := some 37) (v := ?_) (a' := ?_) #[true, true, false, false, false, false, false, false, false, false, false, false, false, false, false, false, false] rfl rfl (any_of HT_.out (by kernel_rfl)) (fun _ _ _ h => h) (Or.inl ⟨by rfl, ?_⟩) ?_ ?_
                                      rotate_left
                                      · intro w'
                                        go_simp
                                        with_reducible rfl
                                      rotate_left
                                      · simp only [Act.put, List.setIfInBounds_toArray, List.set_cons_zero, List.set_cons_succ, i64_w, i32_w]
                                        rfl
                                      refine pure_ (i := 2) (N := some 38) (v := ?_) (a' := ?_) #[true, true, true, false, false, false, false, false, false, false, false, false, false, false, false, false, false] rfl rfl (any_of HT_.out (by kernel_rfl)) (fun _ _ _ h => h) (Or.inl ⟨by rfl, ?_⟩) ?_ ?_
                                      rotate_left
                                      · intro w'
                                        go_simp
                                        with_reducible rfl
                                      rotate_left
                                      · simp only [Act.put, List.setIfInBounds_toArray, List.set_cons_zero, List.set_cons_succ, i64_w, i32_w]
                                        rfl
                                      refine pure_ (i := 3) (N := some 39) (v := ?_) (a' := ?_) #[true, true, true, true, false, false, false, false, false, false, false, false, false, false, false, false, false] rfl rfl (any_of HT_.out (by kernel_rfl)) (fun _ _ _ h => h) (Or.inl ⟨by rfl, ?_⟩) ?_ ?_
                                      rotate_left
                                      · intro w'
                                        go_simp
                                        with_reducible rfl
                                      rotate_left
                                      · simp only [Act.put, List.setIfInBounds_toArray, List.set_cons_zero, List.set_cons_succ, i64_w, i32_w]
                                        rfl
                                      refine pure_ (i := 4) (N := some 40) (v := ?_) (a' := ?_) #[true, true, true, true, true, false, false, false, false, false, false, false, false, false, false, false, false] rfl rfl (any_of HT_.out (by kernel_rfl)) (fun _ _ _ h => h) (Or.inl ⟨by rfl, ?_⟩) ?_ ?_
                                      rotate_left
                                      · intro w'
                                        go_simp
                                        with_reducible rfl
                                      rotate_left
                                      · simp only [Act.put, List.setIfInBounds_toArray, List.set_cons_zero, List.set_cons_succ, i64_w, i32_w]
                                        rfl
                                      refine pure_ (i := 6) (N := some 42) (v := ?_) (a' := ?_) #[true, true, true, true, true, false, true, false, false, false, false, false, false, false, false, false, false] rfl rfl (any_of HT_.out (by kernel_rfl)) (fun _ _ _ h => h) (Or.inl ⟨by rfl, ?_⟩) ?_ ?_
                                      rotate_left
                                      · intro w'
                                        go_simp
                                        with_reducible rfl
                                      rotate_left
                                      · simp only [Act.put, List.setIfInBounds_toArray, List.set_cons_zero, List.set_cons_succ, i64_w, i32_w]
                                        rfl
                                      refine pure_ (i := 7) (N := some 43) (v := ?_) (a' := ?_) #[true, true, true, true, true, false, true, true, false, false, false, false, false, false, false, false, false] rfl rfl (any_of HT_.out (by kernel_rfl)) (fun _ _ _ h => h) (Or.inl ⟨by rfl, ?_⟩) ?_ ?_
                                      rotate_left
                                      · intro w'
                                        go_simp
                                        with_reducible rfl
                                      rotate_left
                                      · simp only [Act.put, List.setIfInBounds_toArray, List.set_cons_zero, List.set_cons_succ, i64_w, i32_w]
                                        rfl
                                      refine pure_ (i := 8) (N := some 44) (v := ?_) (a' := ?_) #[true, true, true, true, true, false, true, true, true, false, false, false, false, false, false, false, false] rfl rfl (any_of HT_.out (by kernel_rfl)) (fun _ _ _ h => h) (Or.inl ⟨by rfl, ?_⟩) ?_ ?_
                                      rotate_left
                                      · intro w'
                                        go_simp
                                        with_reducible rfl
                                      rotate_left
                                      · simp only [Act.put, List.setIfInBounds_toArray, List.set_cons_zero, List.set_cons_succ, i64_w, i32_w]
                                        rfl
                                      refine pure_ (i := 9) (N := some 45) (v := ?_) (a' := ?_) #[true, true, true, true, true, false, true, true, true, true, false, false, false, false, false, false, false] rfl rfl (any_of HT_.out (by kernel_rfl)) (fun _ _ _ h => h) (Or.inl ⟨by rfl, ?_⟩) ?_ ?_
                                      rotate_left
                                      · intro w'
                                        go_simp
                                        with_reducible rfl
                                      rotate_left
                                      · simp only [Act.put, List.setIfInBounds_toArray, List.set_cons_zero, List.set_cons_succ, i64_w, i32_w]
                                        rfl
                                      refine pure_ (i := 10) (N := some 46) (v := ?_) (a' := ?_) #[true, true, true, true, true, false, true, true, true, true, true, false, false, false, false, false, false] rfl rfl (any_of HT_.out (by kernel_rfl)) (fun _ _ _ h => h) (Or.inl ⟨by rfl, ?_⟩) ?_ ?_
                                      rotate_left
                                      · intro w'
                                        go_simp
                                        with_reducible rfl
                                      rotate_left
                                      · simp only [Act.put, List.setIfInBounds_toArray, List.set_cons_zero, List.set_cons_succ, i64_w, i32_w]
                                        rfl
                                      refine pure_ (i := 11) (N := some 47) (v := ?_) (a' := ?_) #[true, true, true, true, true, false, true, true, true, true, true, true, false, false, false, false, false] rfl rfl (any_of HT_.out (by kernel_rfl)) (fun _ _ _ h => h) (Or.inl ⟨by rfl, ?_⟩) ?_ ?_
                                      rotate_left
                                      · intro w'
                                        go_simp
                                        with_reducible rfl
                                      rotate_left
                                      · simp only [Act.put, List.setIfInBounds_toArray, List.set_cons_zero, List.set_cons_succ, i64_w, i32_w]
                                        rfl
                                      refine take_ (i := 5) (N := some 41) (v := ?_) (a' := ?_) #[true, true, true, true, true, true, true, true, true, true, true, true, false, false, false, false, false] rfl rfl (take_ofW HT_.out HW_.out (by kernel_rfl)) (fun _ _ _ h => h) (Or.inl ⟨by rfl, ?_⟩) hHeld ?_ ?_
                                      rotate_left
                                      · rintro w' ⟨s0, s1⟩
                                        go_simp
                                        with_reducible rfl
                                      rotate_left
                                      · simp only [Act.put, List.setIfInBounds_toArray, List.set_cons_zero, List.set_cons_succ, i64_w, i32_w]
                                        rfl
                                      refine take_ (i := 12) (N := some 48) (v := ?_) (a' := ?_) #[true, true, true, true, true, true, true, true, true, true, true, true, true, false, false, false, false] rfl rfl (take_ofW HT_.out HW_.out (by kernel_rfl)) (fun _ _ _ h => h) (Or.inl ⟨by rfl, ?_⟩) hHeld ?_ ?_
                                      rotate_left
                                      · rintro w' ⟨s0, s1⟩
                                        go_simp
                                        with_reducible rfl
                                      rotate_left
                                      · simp only [Act.put, List.setIfInBounds_toArray, List.set_cons_zero, List.set_cons_succ, i64_w, i32_w]
                                        rfl
                                      refine pure_ (i := 13) (N := some 49) (v := ?_) (a' := ?_) #[true, true, true, true, true, true, true, true, true, true, true, true, true, true, false, false, false] rfl rfl (any_of HT_.out (by kernel_rfl)) (fun _ _ _ h => h) (Or.inl ⟨by rfl, ?_⟩) ?_ ?_
                                      rotate_left
                                      · intro w'
                                        go_simp
                                        with_reducible rfl
                                      rotate_left
                                      · simp only [Act.put, List.setIfInBounds_toArray, List.set_cons_zero, List.set_cons_succ, i64_w, i32_w]
                                        rfl
                                      refine pure_ (i := 14) (N := some 50) (v := ?_) (a' := ?_) #[true, true, true, true, true, true, true, true, true, true, true, true, true, true, true, false, false] rfl rfl (any_of HT_.out (by kernel_rfl)) (fun _ _ _ h => h) (Or.inl ⟨by rfl, ?_⟩) ?_ ?_
                                      rotate_left
                                      · intro w'
                                        go_simp
                                        with_reducible rfl
                                      rotate_left
                                      · simp only [Act.put, List.setIfInBounds_toArray, List.set_cons_zero, List.set_cons_succ, i64_w, i32_w]
                                        rfl
                                      refine pure_ (i := 15) (N := some 51) (v := ?_) (a' := ?_) #[true, true, true, true, true, true, true, true, true, true, true, true, true, true, true, true, false] rfl rfl (any_of HT_.out (by kernel_rfl)) (fun _ _ _ h => h) (Or.inl ⟨by rfl, ?_⟩) ?_ ?_
                                      rotate_left
                                      · intro w'
                                        go_simp
                                        with_reducible rfl
                                      rotate_left
                                      · simp only [Act.put, List.setIfInBounds_toArray, List.set_cons_zero, List.set_cons_succ, i64_w, i32_w]
                                        rfl
                                      refine last_ (i := 16) (N := none) #[true, true, true, true, true, true, true, true, true, true, true, true, true, true, true, true, true] rfl rfl (one_of HT_.out (by kernel_rfl)) (by decide) (fun K hK => ?_)
                                      refine skip_ (w1 := ?_) (by rfl) rfl ?_ ?_
                                      rotate_left
                                      · go_simp
                                        rfl
                                      refine hK.out _ _ ?_
                                      clear hK K
                                      refine done_ (done_of HT_.out (by kernel_rfl)) ?_
                                      try go_wp2
                                      (try simp only [← hl5_2])
                                      go_roundg k2
                                      case measure => have := HK1.out; have := HK2.out; omega
                                      case rel => exact ⟨(y136), (wrap64 (x27_2 + 1)), (by first | rfl | (simp; done) | (simp [*]; done)), H', ⟨by have := HK1.out; have := HK2.out; omega⟩, ⟨by (try simp only [hl5_1]); (try simp only [hl5_2]); (with_reducible repeat (first | apply Kd.R_alloc | apply Kd.R_drewN | apply Kd.R_drew)); exact HQ30.out⟩, ⟨by (try simp only [hl5_1]); (try simp only [hl5_2]); (with_reducible repeat (first | refine blk_drewN ?_ _ | refine blk_drew ?_ | refine blk_alloc ?_ _)); refine blk_far ?_ (by have h_ := Kd.R_ne HO_5.out BK127.out (by decide); intro e_; exact h_ (by rw [e_]; rfl)) _; (with_reducible repeat (first | refine blk_drewN ?_ _ | refine blk_drew ?_ | refine blk_alloc ?_ _)); exact BK127.out⟩, ⟨by repeat (first | (with_reducible first | exact HB.out | apply below_alloc | apply pw_below_drewN | apply below_drew1 | refine below_set ?_ GB8.out | refine below_set ?_ GE127.out) | exact HB.out)⟩⟩
                                    · rw [if_neg c26] at H
                                      exact absurd H (by simp)
                                  · rw [if_neg c25] at H
                                    exact absurd H (by simp)
                                · rw [if_neg c23] at H
                                  exact absurd H (by simp)
                              · replace c22 := Bool.eq_false_iff.mpr c22
                                subst c22
                                have H1 : (oilcakeref11_Ways.l1 k2 a1 x5_2 x6_1 l0_0 (l0_0.length : Int) (wrap64 (x27_2 + 1)) l0_0) = some r := by rw [if_neg (show ¬ (false = true) by decide)] at H; exact H
                                clear H
                                have H := H1
                                clear H1
                                have H' := Aside0.mk H
                                clear H
                                have p132 : 0 ≤ (x27_2 : Int) := of_decide_eq_true (by first | (with_reducible assumption) | assumption)
                                have q132 : x27_2 < (l0_0.length : Int) := of_decide_eq_true (by first | (with_reducible assumption) | assumption)
                                obtain ⟨ad132, e132, hx132_0⟩ := Kd.at_string HR0_0.out x27_2 p132 q132
                                cases e132
                                replace hx132_0 := (HB.out.cell (World.block_lt_of_cell? w _ hx132_0)).trans hx132_0
                                replace p132 := eq_true p132
                                replace q132 := eq_true q132
                                go_wp2_with (first | ((with_reducible refine gate_callee (f := 72) rfl ?_); refine goesL_ (some 35) rfl rfl Tryz.func72 (by kernel_rfl) rfl #[.string (a1.extract (x6_1 : Int).toNat a1.size), .string (rdOf ByteArray.empty l0_0 x27_2)] rfl (by (try simp only [List.map_toArray, List.map_cons, List.map_nil]); first | done | rfl | (simp only [List.length_drop, List.length_take]; rfl)) ?_; (with_reducible refine (oilcakeref11_begins.calls (a1.extract (x6_1 : Int).toNat a1.size) (rdOf ByteArray.empty l0_0 x27_2) false _ A21.out).mono ?_); rintro e w' ⟨rfl, ⟨nd, rfl⟩⟩; refine ⟨_, rfl, ?_⟩))
                                (try simp only [← hl5_2])
                                go_roundg k2
                                case measure => have := HK1.out; have := HK2.out; omega
                                case rel => exact ⟨(x5_2), (wrap64 (x27_2 + 1)), (by first | rfl | (simp; done) | (simp [*]; done)), H', ⟨by have := HK1.out; have := HK2.out; omega⟩, ⟨by (try simp only [hl5_1]); (try simp only [hl5_2]); (with_reducible repeat (first | apply Kd.R_alloc | apply Kd.R_drewN | apply Kd.R_drew)); exact HO_5.out⟩, ⟨by (try simp only [hl5_1]); (try simp only [hl5_2]); (with_reducible repeat (first | refine blk_drewN ?_ _ | refine blk_drew ?_ | refine blk_alloc ?_ _)); exact BK127.out⟩, ⟨by repeat (first | (with_reducible first | exact HB.out | apply below_alloc | apply pw_below_drewN | apply below_drew1 | refine below_set ?_ GE127.out) | exact HB.out)⟩⟩
                            · rw [if_neg c20] at H
                              exact absurd H (by simp)
                          · rw [if_neg c19] at H
                            exact absurd H (by simp)
                        · rw [if_neg c18] at H
                          exact absurd H (by simp)
                      · rw [if_neg c17] at H
                        exact absurd H (by simp)
                    · rw [if_neg c16] at H
                      have c16b0 : decide (x27_2 < (l0_0.length : Int)) = false := decide_eq_false c16
                      clear c16
                      have H' := Aside0.mk H
                      clear H
                      go_wp2
                      (try simp only [← hl5_1, ← hl5_2])
                      go_roundg k2
                      case measure => have := HK1.out; have := HK2.out; omega
                      case rel => exact ⟨(x5_2), (wrap64 (x6_1 - 1)), (by first | rfl | (simp; done) | (simp [*]; done)), H', ⟨by have := HK1.out; have := HK2.out; omega⟩, ⟨by (try simp only [hl5_1]); (try simp only [hl5_2]); (with_reducible repeat (first | apply Kd.R_alloc | apply Kd.R_drewN | apply Kd.R_drew)); exact HO_5.out⟩, ⟨by (try simp only [hl5_1]); (try simp only [hl5_2]); (with_reducible repeat (first | refine blk_drewN ?_ _ | refine blk_drew ?_ | refine blk_alloc ?_ _)); exact BK127.out⟩, ⟨by repeat (first | (with_reducible first | exact HB.out | apply below_alloc | apply pw_below_drewN | apply below_drew1 | refine below_set ?_ GE127.out) | exact HB.out)⟩⟩
              · rw [if_neg c14] at H
                have c14b0 : decide (0 ≤ x6_1) = false := decide_eq_false c14
                clear c14
                obtain rfl := Option.some.inj H
                go_wp2
                go_ret
                exact ⟨_, by first | rfl | (simp [errW_none, errW_some] <;> rfl) | (simp only [← hji3]; first | rfl | (simp [errW_none, errW_some] <;> rfl)) | (simp [*, errW_none, errW_some] <;> rfl), by (with_reducible repeat (first | apply Kd.R_alloc | apply Kd.R_drewN | apply Kd.R_drew)); exact HO_5.out, by repeat (first | (with_reducible first | exact HB.out | apply below_alloc | apply pw_below_drewN | apply below_drew1 | refine below_set ?_ GE127.out) | exact HB.out)⟩
        · rw [if_neg c7] at H
          exact absurd H (by simp)
      · rw [if_neg c6] at H
        exact absurd H (by simp)
    · rw [if_neg c5] at H
      exact absurd H (by simp)
  · rw [if_neg c4] at H
    exact absurd H (by simp)
end Go.Proofs.YtfnibmcenjiodaaGreatDoor.R
namespace Go.Proofs.YtfnibmcenjiodaaGreatDoor.N
open Go.Sort Go.Shelf Go.RowKit Go.Proofs.YtfnibmcenjiodaaGreatDoorW.PrintWords Go.Proofs.YtfnibmcenjiodaaGreatDoorW.PrintLast Go.Proofs.YtfnibmcenjiodaaGreatDoorW.PrintMore
open Go.Proofs.YtfnibmcenjiodaaGreatDoor.M Go.Proofs.YtfnibmcenjiodaaGreatDoor.R
theorem w64 (z : Int) (h : -9223372036854775808 ≤ z ∧ z ≤ 9223372036854775807) : wrap64 z = z := by unfold wrap64; omega
theorem w64s (n : Nat) (h : n < 9223372036854775807) : wrap64 ((n : Int) + 1) = ((n + 1 : Nat) : Int) := by rw [w64 _ (by omega)]; omega
theorem rdOf_nat {α : Type} (d : α) (l : List α) (i : Nat) (h : i < l.length) : rdOf d l (i : Int) = l[i] := by simp [rdOf, h]
theorem rd_nat (l : List Int) (i : Nat) (h : i < l.length) : Go.Proofs.YtfnibmcenjiodaaGreatDoorW.PrintWords.rd l (i : Int) = l[i] := by show l.getD _ 0 = _; simp [h]
def greatB (l : List ByteArray) : Bool := decide (12 < l.length) || l.any fun x => decide (12 < x.size)
theorem great_l0 (l : List ByteArray) (hl : l.length ≤ 12) : ∀ (k i : Nat), l.length - i < k → i ≤ l.length → oilcakeref11_Great.l0 k l (l.length : Int) (i : Int) = some ((l.drop i).any fun x => decide (12 < x.size))
  | 0, _, h, _ => by omega
  | k + 1, i, h, hi => by
    unfold oilcakeref11_Great.l0
    by_cases hlt : i < l.length
    · rw [if_pos (by omega), if_pos (by omega), if_pos (by omega), rdOf_nat _ _ _ hlt, List.drop_eq_getElem_cons hlt, List.any_cons]
      by_cases hb : 12 < l[i].size
      · rw [if_pos (by omega)]; simp [hb]
      · rw [if_neg (by omega), w64s _ (by omega), great_l0 l hl k (i + 1) (by omega) (by omega)]; simp [hb]
    · rw [if_neg (by omega), List.drop_eq_nil_of_le (by omega)]; rfl
theorem great_f (l : List ByteArray) (k : Nat) (hk : 12 < k) : oilcakeref11_Great.f k l = some (greatB l) := by
  unfold oilcakeref11_Great.f greatB
  by_cases h : 12 < l.length
  · rw [if_pos (by omega)]; simp [h]
  · rw [if_neg (by omega)]
    have := great_l0 l (by omega) k 0 (by omega) (by omega)
    rw [show ((0 : Nat) : Int) = 0 from rfl] at this
    rw [this]; simp [h]
theorem within_f (a b c : Int) : oilcakeref11_within.f a b c = some (decide (b ≤ a ∧ a ≤ c)) := by
  unfold oilcakeref11_within.f
  by_cases h : a ≥ b
  · rw [if_pos h]; have : b ≤ a := h; simp [this]
  · rw [if_neg h]; have : ¬ b ≤ a := h; simp [this]
theorem bt_nat (s : ByteArray) (i : Nat) (h : i < s.size) : bt s (i : Int) = ((s.data[i]'h).toNat : Int) := by
  unfold bt
  have h' : ((i : Int).toNat) < s.size := by omega
  rw [dif_pos h']
  rfl
theorem signs_l0 (s : ByteArray) (hs : s.size < 4611686018427387904) : ∀ (k i : Nat), s.size - i < k → i ≤ s.size → oilcakeref11_signs.l0 k s (i : Int) = some ((s.data.toList.drop i).all fun b => b == 45 || b == 46)
  | 0, _, h, _ => by omega
  | k + 1, i, h, hi => by
    unfold oilcakeref11_signs.l0
    by_cases hlt : i < s.size
    · have hlt' : i < s.data.toList.length := by rw [data_length]; exact hlt
      rw [if_pos (by omega), if_pos (by omega), bt_nat _ _ hlt, List.drop_eq_getElem_cons hlt', List.all_cons]
      have he : s.data.toList[i] = s.data[i]'hlt := by simp
      rw [he]
      have ih := signs_l0 s hs k (i + 1) (by omega) (by omega)
      by_cases h1 : s.data[i]'hlt = 45
      · rw [if_pos (by rw [h1]; rfl), w64s _ (by omega), ih, h1]; simp
      · have h1' : ¬ ((s.data[i]'hlt).toNat : Int) = 45 := by
          intro e
          apply h1
          apply UInt8.toNat_inj.1
          have : (45 : UInt8).toNat = 45 := rfl
          omega
        rw [if_neg h1']
        by_cases h2 : s.data[i]'hlt = 46
        · rw [if_pos (by rw [h2]; rfl), w64s _ (by omega), ih, h2]; simp
        · have h2' : ¬ ((s.data[i]'hlt).toNat : Int) = 46 := by
            intro e
            apply h2
            apply UInt8.toNat_inj.1
            have : (46 : UInt8).toNat = 46 := rfl
            omega
          rw [if_neg h2']
          simp [h1, h2]
    · rw [if_neg (by omega), List.drop_eq_nil_of_le (by rw [data_length]; omega)]; rfl
theorem signs_f (s : ByteArray) (hs : s.size < 4611686018427387904) (k : Nat) (hk : s.size < k) : oilcakeref11_signs.f k s = some (isSigns s) := by
  unfold oilcakeref11_signs.f
  have := signs_l0 s hs k 0 (by omega) (by omega)
  rw [show ((0 : Nat) : Int) = 0 from rfl] at this
  rw [this]; rfl
theorem wordOk_eq (x : ByteArray) : wordOk x = (decide (1 ≤ x.size ∧ x.size ≤ 6) && isSigns x) := by
  unfold wordOk
  congr 1
  rw [Bool.eq_iff_iff]
  simp [inB]
  omega
def wordNew (l : List ByteArray) (i : Nat) : Bool := wordOk (rdOf ByteArray.empty l i) && (List.range i).all fun j => decide (rdOf ByteArray.empty l j ≠ rdOf ByteArray.empty l i)
theorem toList_inj {a b : ByteArray} : a.toList = b.toList ↔ a = b := by
  rw [Lib.toList_data, Lib.toList_data]
  constructor
  · intro h; exact ByteArray.ext (Array.toList_inj.1 h)
  · rintro rfl; rfl
theorem code_l (l : List ByteArray) (hl : l.length ≤ 12) (hw : ∀ x ∈ l, x.size ≤ 12) : ∀ k : Nat,
    (∀ i : Nat, i ≤ l.length → 50 * (l.length - i) + 20 < k → oilcakeref11_Code.l0 k (i : Int) l = some ((List.range (l.length - i)).all fun j => wordNew l (i + j))) ∧
    (∀ i j : Nat, i < l.length → j ≤ i → 50 * (l.length - i) + 1 + (i - j) < k → oilcakeref11_Code.l1 k (i : Int) (j : Int) l = some (((List.range (i - j)).all fun q => decide (rdOf ByteArray.empty l ((j + q : Nat) : Int) ≠ rdOf ByteArray.empty l i)) && (List.range (l.length - (i + 1))).all fun q => wordNew l (i + 1 + q)))
  | 0 => ⟨fun _ _ h => by omega, fun _ _ _ _ h => by omega⟩
  | k + 1 => by
    obtain ⟨ih0, ih1⟩ := code_l l hl hw k
    refine ⟨fun i hi hk => ?_, fun i j hi hj hk => ?_⟩
    · unfold oilcakeref11_Code.l0
      by_cases hlt : i < l.length
      · rw [if_pos (by omega), if_pos (by omega), within_f]
        have hmem : rdOf ByteArray.empty l (i : Int) ∈ l := by rw [rdOf_nat _ _ _ hlt]; exact List.getElem_mem hlt
        have hsz := hw _ hmem
        obtain ⟨m, hm⟩ : ∃ m, l.length - i = m + 1 := ⟨l.length - i - 1, by omega⟩
        have hsplit : ((List.range (l.length - i)).all fun j => wordNew l (i + j)) = (wordNew l i && (List.range (l.length - (i + 1))).all fun q => wordNew l (i + 1 + q)) := by
          rw [hm, List.range_succ_eq_map, List.all_cons, List.all_map, show l.length - (i + 1) = m by omega]
          have hfe : (fun q => wordNew l (i + 1 + q)) = (fun j => wordNew l (i + j)) ∘ Nat.succ := by
            funext q
            simp only [Function.comp]
            rw [show i + 1 + q = i + Nat.succ q by omega]
          rw [hfe]; rfl
        have hwn : wordNew l i = (wordOk (rdOf ByteArray.empty l i) && (List.range i).all fun j => decide (rdOf ByteArray.empty l j ≠ rdOf ByteArray.empty l i)) := rfl
        rw [hsplit, hwn, wordOk_eq]
        simp only [Option.bind_some]
        by_cases h1 : 1 ≤ (rdOf ByteArray.empty l (i : Int)).size ∧ (rdOf ByteArray.empty l (i : Int)).size ≤ 6
        · rw [if_pos (by simp; omega), signs_f _ (by omega) k (by omega)]
          simp only [Option.bind_some]
          obtain ⟨k', rfl⟩ : ∃ k', k = k' + 1 := ⟨k - 1, by omega⟩
          unfold oilcakeref11_Code.j1
          cases hs : isSigns (rdOf ByteArray.empty l (i : Int))
          · simp
          · rw [if_neg (by simp)]
            have := (code_l l hl hw k').2 i 0 hlt (by omega) (by omega)
            rw [show ((0 : Nat) : Int) = 0 from rfl] at this
            rw [this]
            simp [h1]
        · rw [if_neg (by simp; omega)]
          obtain ⟨k', rfl⟩ : ∃ k', k = k' + 1 := ⟨k - 1, by omega⟩
          unfold oilcakeref11_Code.j1
          rw [if_pos rfl]
          simp [h1]
      · rw [if_neg (by omega), show l.length - i = 0 by omega]; rfl
    · unfold oilcakeref11_Code.l1
      by_cases hlt : j < i
      · rw [if_pos (by omega), if_pos (by omega), if_pos (by omega), if_pos (by omega), if_pos (by omega)]
        obtain ⟨m, hm⟩ : ∃ m, i - j = m + 1 := ⟨i - j - 1, by omega⟩
        rw [hm, List.range_succ_eq_map, List.all_cons, List.all_map]
        by_cases he : rdOf ByteArray.empty l (j : Int) = rdOf ByteArray.empty l (i : Int)
        · rw [if_pos (by rw [he])]; simp [he]
        · rw [if_neg (fun h => he (toList_inj.1 h)), w64s _ (by omega), ih1 i (j + 1) hi (by omega) (by omega), show i - (j + 1) = m by omega]
          simp only [Nat.add_zero, ne_eq, he, not_false_eq_true, decide_true, Bool.true_and]
          have hfe : (fun q => decide ¬rdOf ByteArray.empty l ((j + 1 + q : Nat) : Int) = rdOf ByteArray.empty l (i : Int)) = (fun q => decide ¬rdOf ByteArray.empty l ((j + q : Nat) : Int) = rdOf ByteArray.empty l (i : Int)) ∘ Nat.succ := by
            funext q
            simp only [Function.comp]
            rw [show j + 1 + q = j + Nat.succ q by omega]
          rw [hfe]
      · rw [if_neg (by omega), w64s _ (by omega), ih0 (i + 1) (by omega) (by omega), show i - j = 0 by omega]
        simp
theorem code_f (l : List ByteArray) (hl : l.length ≤ 12) (hw : ∀ x ∈ l, x.size ≤ 12) (k : Nat) (hk : 700 < k) : oilcakeref11_Code.f k l = some (decide (1 ≤ l.length ∧ l.length ≤ 7) && (List.range l.length).all fun j => wordNew l j) := by
  unfold oilcakeref11_Code.f
  rw [within_f]
  simp only [Option.bind_some]
  by_cases h : 1 ≤ l.length ∧ l.length ≤ 7
  · rw [if_pos (by simp; omega)]
    have := (code_l l hl hw k).1 0 (by omega) (by omega)
    rw [show ((0 : Nat) : Int) = 0 from rfl] at this
    rw [this]
    simp [h]
  · rw [if_neg (by simp; omega)]
    simp [h]
theorem compact_length {α : Type} [Inhabited α] [DecidableEq α] (zs : List α) : (Lib.compact zs).length = zs.length ↔ ∀ j, j + 1 < zs.length → zs[j + 1]! ≠ zs[j]! := by
  have hle : ∀ m, (Lib.compactUpTo zs.toArray m).length ≤ m := fun m => by
    have := List.length_filter_le (Lib.keeps zs.toArray) (List.range m)
    simpa [Lib.compactUpTo] using this
  have key : ∀ m, (Lib.compactUpTo zs.toArray m).length = m ↔ ∀ j, j < m → Lib.keeps zs.toArray j = true := by
    intro m
    have : (Lib.compactUpTo zs.toArray m).length = ((List.range m).filter (Lib.keeps zs.toArray)).length := by simp [Lib.compactUpTo]
    rw [this]
    constructor
    · intro h j hj
      have h2 := (List.length_filter_eq_length_iff).1 (h.trans (by simp : m = (List.range m).length))
      exact h2 j (List.mem_range.2 hj)
    · intro h
      rw [List.filter_eq_self.2 (fun j hj => h j (List.mem_range.1 hj))]; simp
  unfold Lib.compact
  rw [key]
  constructor
  · intro h j hj
    have := h (j + 1) hj
    simp [Lib.keeps] at this
    simpa using this
  · intro h j hj
    cases j with
    | zero => simp [Lib.keeps]
    | succ j => have := h j hj; simp [Lib.keeps]; simpa using this
theorem sorted_nodup (zs : List (List UInt8)) (hs : zs.Pairwise fun a b => a ≤ b) : (∀ j, j + 1 < zs.length → zs[j + 1]! ≠ zs[j]!) ↔ zs.Nodup := by
  induction zs with
  | nil => simp
  | cons a r ih =>
    have ⟨ha, hr⟩ := List.pairwise_cons.1 hs
    rw [List.nodup_cons, ← ih hr]
    constructor
    · intro h
      refine ⟨?_, fun j hj => ?_⟩
      · intro hmem
        cases r with
        | nil => simp at hmem
        | cons b r =>
          have h0 := h 0 (by simp)
          simp at h0
          have hab := ha b (by simp)
          have hba : b ≤ a := by
            rcases List.mem_cons.1 hmem with e | hm
            · rw [e]; exact List.le_refl _
            · exact (List.pairwise_cons.1 hr).1 a hm
          exact h0 (List.le_antisymm hba hab)
      · have := h (j + 1) (by simp; omega)
        simpa using this
    · rintro ⟨hn, h⟩ j hj
      cases j with
      | zero =>
        cases r with
        | nil => simp at hj
        | cons b r => simp; rintro rfl; exact hn (by simp)
      | succ j => have := h j (by simpa using hj); simpa using this
theorem sortB_pairwise (ss : List ByteArray) : (sortB ss).Pairwise fun a b => a ≤ b := by
  have tr : ∀ a b c : List UInt8, decide (a ≤ b) = true → decide (b ≤ c) = true → decide (a ≤ c) = true := fun a b c h1 h2 => by simp only [decide_eq_true_eq] at *; exact List.le_trans h1 h2
  have tot : ∀ a b : List UInt8, (decide (a ≤ b) || decide (b ≤ a)) = true := fun a b => by simp only [Bool.or_eq_true, decide_eq_true_eq]; exact List.le_total a b
  exact (List.pairwise_mergeSort tr tot _).imp fun h => by simpa using h
theorem sortB_perm (ss : List ByteArray) : (sortB ss).Perm (ss.map (·.data.toList)) := List.mergeSort_perm _ _
theorem data_inj {a b : ByteArray} (h : a.data.toList = b.data.toList) : a = b := ByteArray.ext (Array.toList_inj.1 h)
theorem distinct_iff (l : List ByteArray) : ((Lib.compact (sortB l)).length == l.length) = true ↔ l.Nodup := by
  have hlen : (sortB l).length = l.length := by simp [sortB]
  rw [beq_iff_eq, ← hlen, compact_length, sorted_nodup _ (sortB_pairwise l), (sortB_perm l).nodup_iff]
  constructor
  · intro h; exact List.Pairwise.of_map (fun x : ByteArray => x.data.toList) (fun a b hab e => hab (by rw [e])) h
  · intro h; exact h.map _ (fun a b hab e => hab (data_inj e))
theorem wordNew_all (l : List ByteArray) : ((List.range l.length).all fun j => wordNew l j) = true ↔ l.all wordOk = true ∧ l.Nodup := by
  rw [List.all_eq_true, List.all_eq_true, List.nodup_iff_pairwise_ne, List.pairwise_iff_getElem]
  constructor
  · intro h
    refine ⟨fun x hx => ?_, fun i j hi hj hij => ?_⟩
    · obtain ⟨i, hi, rfl⟩ := List.mem_iff_getElem.1 hx
      have := h i (List.mem_range.2 hi)
      unfold wordNew at this
      rw [Bool.and_eq_true, rdOf_nat _ _ _ hi] at this
      exact this.1
    · have := h j (List.mem_range.2 hj)
      unfold wordNew at this
      rw [Bool.and_eq_true, List.all_eq_true] at this
      have := this.2 i (List.mem_range.2 hij)
      rw [rdOf_nat _ _ _ hi, rdOf_nat _ _ _ hj] at this
      simpa using this
  · rintro ⟨h1, h2⟩ j hj
    have hj := List.mem_range.1 hj
    unfold wordNew
    rw [Bool.and_eq_true, List.all_eq_true, rdOf_nat _ _ _ hj]
    refine ⟨h1 _ (List.getElem_mem hj), fun i hi => ?_⟩
    have hi := List.mem_range.1 hi
    rw [rdOf_nat _ _ _ (by omega)]
    simpa using h2 i j (by omega) hj hi
theorem codeOk_f (l : List ByteArray) (hl : l.length ≤ 12) (hw : ∀ x ∈ l, x.size ≤ 12) (k : Nat) (hk : 700 < k) : oilcakeref11_Code.f k l = some (codeOk l) := by
  rw [code_f l hl hw k hk]
  congr 1
  unfold codeOk
  rw [Bool.and_assoc]
  congr 1
  · rw [Bool.eq_iff_iff]; simp [inB]; omega
  · rw [Bool.eq_iff_iff, wordNew_all, Bool.and_eq_true, distinct_iff]
end Go.Proofs.YtfnibmcenjiodaaGreatDoor.N
namespace Go.Proofs.YtfnibmcenjiodaaGreatDoor.M
open Go.Sort Go.Shelf Go.RowKit Go.Maps Go.Proofs.YtfnibmcenjiodaaGreatDoorW.PrintWords Go.Proofs.YtfnibmcenjiodaaGreatDoorW.PrintLast Go.Proofs.YtfnibmcenjiodaaGreatDoorW.PrintMore
def sufs (ws : List ByteArray) : List ByteArray := ws.flatMap (fun w => (List.range (w.size + 1)).map (fun i => ⟨(w.data.toList.drop i).toArray⟩))
theorem mem_sufs {ws : List ByteArray} {a : ByteArray} : a ∈ sufs ws ↔ ∃ w ∈ ws, ∃ i, i ≤ w.size ∧ a = ⟨(w.data.toList.drop i).toArray⟩ := by
  unfold sufs
  rw [List.mem_flatMap]
  constructor
  · rintro ⟨w, hw, h⟩
    obtain ⟨i, hi, rfl⟩ := List.mem_map.1 h
    have := List.mem_range.1 hi
    exact ⟨w, hw, i, by omega, rfl⟩
  · rintro ⟨w, hw, i, hi, rfl⟩
    exact ⟨w, hw, List.mem_map.2 ⟨i, List.mem_range.2 (by omega), rfl⟩⟩
theorem sufs_rest {ws : List ByteArray} {a x : ByteArray} (h : a ∈ sufs ws) (hs : startsB a x = true) : restOf a x ∈ sufs ws := by
  obtain ⟨w, hw, i, hi, rfl⟩ := mem_sufs.1 h
  have e := restOf_cat hs
  have hl := congrArg List.length e
  rw [List.length_append, data_length x] at hl
  have hd : (w.data.toList.drop i).length = w.size - i := by rw [List.length_drop, data_length]
  have hsz : x.size ≤ w.size - i := by
    have : (w.data.toList.drop i).length = x.size + _ := hl
    omega
  refine mem_sufs.2 ⟨w, hw, i + x.size, by omega, ?_⟩
  apply ByteArray.ext; apply Array.toList_inj.1
  have e2 : w.data.toList.drop i = x.data.toList ++ (restOf ⟨(w.data.toList.drop i).toArray⟩ x).data.toList := e
  show (restOf ⟨(w.data.toList.drop i).toArray⟩ x).data.toList = w.data.toList.drop (i + x.size)
  generalize restOf ⟨(w.data.toList.drop i).toArray⟩ x = r at e2 ⊢
  rw [← List.drop_drop, e2]
  have : x.size = x.data.toList.length := (data_length x).symm
  rw [this, List.drop_left]
theorem sufs_self {ws : List ByteArray} {w : ByteArray} (h : w ∈ ws) : w ∈ sufs ws := mem_sufs.2 ⟨w, h, 0, Nat.zero_le _, by simp⟩
theorem sufs_size {ws : List ByteArray} {a : ByteArray} {N : Nat} (h : a ∈ sufs ws) (hN : ∀ w ∈ ws, w.size ≤ N) : a.size ≤ N := by
  obtain ⟨w, hw, i, hi, rfl⟩ := mem_sufs.1 h
  have := hN w hw
  have e : (⟨(w.data.toList.drop i).toArray⟩ : ByteArray).size = w.size - i := by
    show (w.data.toList.drop i).toArray.size = _
    rw [List.size_toArray, List.length_drop, data_length]
  omega
def open_ (ws : List ByteArray) (E : DataW Unit) : Nat := ((sufs ws).filter (fun a => !flag E a)).length
theorem open_le (ws : List ByteArray) (E : DataW Unit) : open_ ws E ≤ (sufs ws).length := List.length_filter_le _ _
theorem filter_lt {α : Type} {p q : α → Bool} : ∀ (l : List α), (∀ x, q x = true → p x = true) → ∀ a ∈ l, p a = true → q a = false → (l.filter q).length < (l.filter p).length
  | x :: l, h, a, ha, hp, hq => by
    have hle : (l.filter q).length ≤ (l.filter p).length := by
      rw [← List.countP_eq_length_filter, ← List.countP_eq_length_filter]
      exact List.countP_mono_left (fun x _ => h x)
    rcases List.mem_cons.1 ha with rfl | ha
    · rw [List.filter_cons_of_pos hp, List.filter_cons_of_neg (by simp [hq])]
      simp only [List.length_cons]; omega
    · have ih := filter_lt l h a ha hp hq
      cases hx : q x
      · rw [List.filter_cons_of_neg (by simp [hx])]
        have := List.length_filter_le p l
        cases hy : p x
        · rw [List.filter_cons_of_neg (by simp [hy])]; exact ih
        · rw [List.filter_cons_of_pos hy]; simp only [List.length_cons]; omega
      · rw [List.filter_cons_of_pos hx, List.filter_cons_of_pos (h x hx)]
        simp only [List.length_cons]; omega
theorem open_done {ws : List ByteArray} {E : DataW Unit} {a : ByteArray} (hE : IsMap E) (ha : a ∈ sufs ws) (hf : flag E a = false) : open_ ws (doneE E a) < open_ ws E :=
  filter_lt _ (fun b hb => by
    by_cases e : a = b
    · subst e; rw [flag_done_same hE] at hb; cases hb
    · rw [flag_done_other e] at hb; exact hb) a ha (by simp [hf]) (by simp [flag_done_same hE])
end Go.Proofs.YtfnibmcenjiodaaGreatDoor.M
namespace Go.Proofs.YtfnibmcenjiodaaGreatDoor.M
open Go.Sort Go.Shelf Go.RowKit Go.Maps Go.Proofs.YtfnibmcenjiodaaGreatDoorW.PrintWords Go.Proofs.YtfnibmcenjiodaaGreatDoorW.PrintLast Go.Proofs.YtfnibmcenjiodaaGreatDoorW.PrintMore
def bndT (ws : List ByteArray) (E : DataW Unit) (N : Nat) : Nat := N * (1 + ((sufs ws).length - open_ ws E))
structure Bnd (ws : List ByteArray) (D E : DataW Unit) (B : Nat) : Prop where
  mapD : IsMap D
  mapE : IsMap E
  ends : ∀ a, has D (kS a) = true → a ∈ sufs ws
  free : ∀ a, has D (kS a) = true → flag E a = false
  small : ∀ a, has D (kS a) = true → (txt D a).size ≤ B
theorem Bnd.reach {ws : List ByteArray} {D E : DataW Unit} {B : Nat} {a t : ByteArray} (S : Bnd ws D E B) (ha : a ∈ sufs ws) (ht : t.size ≤ B) : Bnd ws (reachD D E a t) E B :=
  reachD_ind (I := fun D => Bnd ws D E B) S fun hf _ => ⟨isMap_put S.mapD _ _, S.mapE, fun b hb => by
    by_cases e : a = b
    · subst e; exact ha
    · rw [has_put_other (kS_ne (Ne.symm e))] at hb; exact S.ends b hb, fun b hb => by
    by_cases e : a = b
    · subst e; exact hf
    · rw [has_put_other (kS_ne (Ne.symm e))] at hb; exact S.free b hb, fun b hb => by
    by_cases e : a = b
    · subst e; rw [txt_put_same S.mapD (isKey_kS a)]; exact ht
    · rw [has_put_other (kS_ne (Ne.symm e))] at hb
      rw [txt_put_other e]; exact S.small b hb⟩
theorem bnd_lead {ws : List ByteArray} {D E : DataW Unit} {N B : Nat} {a t x : ByteArray} (S : Bnd ws D E B) (hN : ∀ w ∈ ws, w.size ≤ N) (ha : a ∈ sufs ws) (hx : x ∈ ws) (ht : t.size + N ≤ B) : Bnd ws (leadStep E a t D x) E B := by
  unfold leadStep
  split
  · exact S.reach (sufs_rest ha ‹_›) (by omega)
  · split
    · have hr := sufs_rest (sufs_self hx) ‹startsB x a = true›
      have := sufs_size hr hN
      exact S.reach hr (by rw [ByteArray.size_append]; omega)
    · exact S
theorem bnd_del {ws : List ByteArray} {D E : DataW Unit} {B B' : Nat} {a : ByteArray} (S : Bnd ws D E B) (h : B ≤ B') : Bnd ws (D.del (kS a)) (doneE E a) B' := by
  have hd : ∀ b, has (D.del (kS a)) (kS b) = true → a ≠ b ∧ has D (kS b) = true := fun b hb => by
    by_cases e : a = b
    · subst e; rw [has_del_same] at hb; cases hb
    · rw [has_del_other (kS_ne (Ne.symm e))] at hb; exact ⟨e, hb⟩
  refine ⟨isMap_del S.mapD _, isMap_put S.mapE _ _, fun b hb => S.ends b (hd b hb).2, fun b hb => ?_, fun b hb => ?_⟩
  · rw [flag_done_other (hd b hb).1]; exact S.free b (hd b hb).2
  · rw [txt_del_other (hd b hb).1]; exact Nat.le_trans (S.small b (hd b hb).2) h
theorem bndT_done {ws : List ByteArray} {E : DataW Unit} {a : ByteArray} {N : Nat} (hE : IsMap E) (ha : a ∈ sufs ws) (hf : flag E a = false) : bndT ws E N + N ≤ bndT ws (doneE E a) N := by
  have h1 := open_done hE ha hf
  have h2 := open_le ws E
  unfold bndT
  rw [← Nat.mul_succ]
  exact Nat.mul_le_mul_left _ (by omega)
theorem bndT_le (ws : List ByteArray) (E : DataW Unit) (N : Nat) : bndT ws E N ≤ N * (1 + (sufs ws).length) := Nat.mul_le_mul_left _ (by omega)
theorem bnd_start {ws : List ByteArray} {D : DataW Unit} {N : Nat} {v x : ByteArray} (hN : ∀ w ∈ ws, w.size ≤ N) (S : Bnd ws D (.map []) N) (hx : x ∈ ws) : Bnd ws (startStep v D x) (.map []) N := by
  unfold startStep
  split
  · rename_i h
    simp only [Bool.and_eq_true, decide_eq_true_eq] at h
    exact S.reach (sufs_rest (sufs_self hx) h.1) (hN x hx)
  · exact S
end Go.Proofs.YtfnibmcenjiodaaGreatDoor.M
