/- Walks of slices.Values, AppendSeq, Collect, Sorted at strings. No statement of the seat is proved here. -/
import Derived.Test.YtfnibmcenjiodaaGreatDoorM3
import Derived.Sort.OwnSorted
import Derived.Maps.AppendAt
import Derived.Shelf.Slices.In.SortNone
namespace Go.Proofs.YtfnibmcenjiodaaGreatDoor.M
open Go.Sort Go.Shelf Go.RowKit Go.Proofs.YtfnibmcenjiodaaGreatDoorW.PrintWords Go.Proofs.YtfnibmcenjiodaaGreatDoorW.PrintLast Go.Proofs.YtfnibmcenjiodaaGreatDoorW.PrintMore
attribute [local go_sem] Oper.semAt_some

theorem info9 : (Tryz.prog.info? 9).map (fun i => (i.zero, i.size, i.bytes)) = some (some (.string ⟨#[]⟩), 1, 16) := by kernel_rfl
theorem info3 : (Tryz.prog.info? 3).map (fun i => (i.zero, i.size, i.bytes)) = some (some (.int .i64 0), 1, 8) := by kernel_rfl

set_option maxRecDepth 100000 in
set_option maxHeartbeats 2000000 in
theorem values1_in (n : Nat) (hn : 1 ≤ n) (l Bs : Nat) (A : Option Addr) (c : Nat) (ss : List ByteArray) (w : World) (hC : Kd.C Kd.string w A ss.length ss) (hBs : Bs < w.heap.size) (hc : w.cell? ⟨Bs, 0, none⟩ = some (.slice A ss.length c)) (J Jx : List ByteArray → World → Prop)
    (hY : ∀ pre x W, J pre W → pre.length < ss.length → YieldAt Fence.wide (n - 1) Tryz.prog l #[.string x] W fun e W' =>
      (e = .returned (.bool true) ∧ J (pre ++ [x]) W' ∧ Below w.heap.size W W') ∨ (e = .returned (.bool false) ∧ Jx (pre ++ [x]) W'))
    (W : World) (hW : Below w.heap.size w W) (h0 : J [] W) :
    CallsIn Fence.wide n Tryz.prog 183 #[.func (.yield l) #[] #[], .pointer (some ⟨Bs, 0, none⟩)] W fun e W' => (∃ v, e = .returned v) ∧
      ((∃ ys, ys = ss ∧ J ys W') ∨ (∃ pre, pre <+: ss ∧ Jx pre W')) := by
  have hcW := (hW.cell (p := ⟨Bs, 0, none⟩) hBs).trans hc
  have hmax := Kd.C_max hC
  refine callsIn_of_wp Tryz.func183 rfl trivial ?_ rfl
  simp only [Tryz.ntmps183, List.size_toArray, List.length_cons, List.length_nil, Nat.reduceAdd, Nat.reduceSub, Array.replicate_succ, Array.replicate_zero, List.push_toArray, List.append_toArray, List.nil_append, List.cons_append]
  gi_wp2
  gi_loopw [7] (fun i wr => ∃ k : Nat, k ≤ ss.length ∧ i = .int .i64 k ∧ J (ss.take k) wr ∧ Below w.heap.size w wr)
    (fun i _ => ss.length - (intOf i).toNat)
  case atStart => exact ⟨0, Nat.zero_le _, rfl, h0, hW⟩
  case round =>
    obtain ⟨k, hk, rfl, hJs, hnx⟩ := hrel
    by_cases hlt : k < ss.length
    · obtain ⟨ad, rfl, hcell⟩ := Kd.at_string (Kd.C_below hC hnx) k (by omega) (by omega)
      rw [show ((k : Int).toNat) = k from by omega] at hcell
      have hrd : rdOf ByteArray.empty ss k = ss[k] := by simp [rdOf, hlt]
      rw [hrd] at hcell
      clear hrd
      obtain ⟨fn, tmps, assign, body, hy, hR⟩ := hY _ ss[k] wr hJs (by simp; omega)
      have htk : ss.take k ++ [ss[k]] = ss.take (k + 1) := (List.take_succ_eq_append_getElem hlt).symm
      rw [htk] at hR
      clear htk
      gi_wp2
      refine hR.mono ?_
      rintro e W3 (⟨rfl, hJ3, hk3⟩ | ⟨rfl, hJx3⟩)
      · gi_wp2
        go_roundw
        case rel => exact ⟨k + 1, by omega, by simp, hJ3, hnx.trans hk3⟩
        case measure => simp [intOf]; omega
      · gi_wp2
        refine bodyPost_ret (results_none rfl _ _ _) rfl ?_
        exact ⟨⟨_, rfl⟩, .inr ⟨_, List.take_prefix _ _, hJx3⟩⟩
    · obtain rfl : k = ss.length := by omega
      gi_wp2
      go_end0
      exact ⟨⟨_, rfl⟩, .inl ⟨_, rfl, by rwa [List.take_length] at hJs⟩⟩

set_option maxHeartbeats 1000000 in
theorem values_calls (A : Option Addr) (c : Nat) (len : Nat) (w : World) :
    Calls Tryz.prog 126 #[.slice A len c] w fun e w' => e = .returned (.func (.func 183) #[] #[.pointer (some ⟨w.heap.size, 0, none⟩)]) ∧ w' = w.alloc (.cells #[.slice A len c] 22) := by
  go_enter Tryz.func126, Tryz.ntmps126
  go_wp2
  go_ret
  exact ⟨rfl, rfl⟩

theorem values_stops (n : Nat) (hn : 1 ≤ n) (Bs : Nat) (A : Option Addr) (c : Nat) (ss : List ByteArray) (w : World) (hC : Kd.C Kd.string w A ss.length ss) (hBs : Bs < w.heap.size) (hc : w.cell? ⟨Bs, 0, none⟩ = some (.slice A ss.length c)) :
    SeqStopsK Fence.wide n Tryz.prog 183 #[.pointer (some ⟨Bs, 0, none⟩)] (fun x : ByteArray => #[Value.string x]) (Below w.heap.size) (fun ys => ys = ss) (fun pre => pre <+: ss) ss.length w :=
  fun l J Jx W hW _ _ hY h0 => values1_in n hn l Bs A c ss w hC hBs hc J Jx hY W hW h0

set_option maxRecDepth 100000 in
set_option maxHeartbeats 2000000 in
/-- slices.AppendSeq(nil, seq) at strings: a new slice of what came. -/
theorem appendSeq_calls (g : Nat) (lb : Array Value) (eg : ∀ args w, (callFunc g args).run Tryz.prog w = .ok (.enter g args) w) (S Sp : List ByteArray → Prop) (N : Nat) (hN : N ≤ 1000000000) (w : World)
    (hseq : SeqStopsK Fence.wide 8 Tryz.prog g lb (fun x : ByteArray => #[Value.string x]) (Below w.heap.size) S Sp N w) :
    Calls Tryz.prog 239 #[.slice none 0 0, .func (.func g) #[] lb] w fun e w' => ∃ (v : Value) (xs : List ByteArray), e = .returned v ∧ S xs ∧ w'.ownsRow w.heap.size 9 1 v xs.length (xs.map Value.string) ∧ (v = .slice none 0 0 ↔ xs = []) ∧ Below w.heap.size w w' := by
  obtain ⟨i0, hi, hz0, hz1, hz2⟩ := info_parts info9
  refine (callsIn_wide (n := 9)).1 ?_
  refine callsIn_of_wp_marks Tryz.func239 rfl trivial ?_ rfl
  simp only [Tryz.ntmps239, List.size_toArray, List.length_cons, List.length_nil, Nat.reduceAdd, Nat.reduceSub, Array.replicate_succ, Array.replicate_zero, List.push_toArray, List.append_toArray, List.nil_append, List.cons_append]
  gi_wp2
  have bO := Boxed.new w 22 (.slice none 0 0)
  have hB0 : Below w.heap.size w (w.alloc (.cells #[.slice none 0 0] 22)) := below1 w _
  refine wpIn_rangeFunc_ownG rfl (by decide) (gf := g) (lb := lb) rfl trivial eg (w0 := w)
    hseq belowK_t (belowK_b (by simp)) hB0 (fun _ => rfl)
    (fun pre W => (∃ v, Boxed W w.heap.size 22 v ∧ W.ownsRow w.heap.size 9 1 v pre.length (pre.map Value.string) ∧ (v = .slice none 0 0 ↔ pre = [])) ∧ Below w.heap.size w W)
    (fun _ _ _ => False)
    (OwnFrom.and (Own.from (holdsRow_own w.heap.size w.heap.size 22 9 1 (fun pre : List ByteArray => pre.length) (fun pre => pre.map Value.string) (fun pre v => v = .slice none 0 0 ↔ pre = [])) _) (ownFrom_below (Nat.le_refl _) (by simp)))
    (fun _ _ _ _ _ hs _ _ => hs)
    ⟨⟨_, bO, World.ownsRow_nil _ _ _ _, by simp⟩, hB0⟩
    (fun x => { tmps := #[.slice none 0 0, .func (.func g) #[] lb, .pointer (some ⟨w.heap.size, 0, none⟩), undef, .slice none 0 0, .string x, .func (.func g) #[] lb, .string x, undef, undef, undef, undef, undef], defers := [] }) ?assign ?body ?done ?stop
  case assign =>
    intro l x W K hK
    gi_wp2
    exact hK
  case body =>
    rintro l pre x W ⟨⟨v, hv, hrow, hnil⟩, hB⟩ hlt
    have hc := hv.cell
    gi_wp2_with (gi_at_builtin; refine wpListIn_append_own _ rfl _ _ 22 rfl w.heap.size 9 i0 (.string ⟨#[]⟩) 1 16 Tryz.underlying22 hi hz0 hz1 hz2 rfl (by decide) _ _ _ rfl (hrow.alloc _) ⟨W.heap.size, 0, none⟩ 1 1 [.string x] rfl rfl (cell_one_new _ _ _) (by simp [Value.oneCell']) (by unfold maxLen; omega) (by omega) (by have := hB.size; simp; omega) ?_; intro v' w1 hown' hgrow _; obtain ⟨g', cap', rfl⟩ := ownsRow_succ hown'; obtain ⟨hv1, hv2, hr2, hk2, hb2⟩ := hv.appended (by decide) hrow hB.size (Nat.le_refl _) hown' hgrow; have hc1 := hv1.cell; have hf1 := hv1.frozen)
    exact ⟨hk2.from _, hb2, ⟨_, hv2, by simpa using hr2, by simp⟩, hB.trans hb2⟩
  case done =>
    rintro D ys W hD hs ⟨⟨v, hv, hrow, hnil⟩, hB⟩ hK
    have hc := hv.cell
    gi_wp2
    refine ⟨by simp, .inl ⟨_, _, rfl, run_takeDeferred hK, ?_⟩⟩
    exact ⟨_, results_tmp rfl _ _ _, v, ys, rfl, hs, ownsRow_putObj hrow _ hK rfl, hnil, hB.trans (belowK_b (w := w) (Nat.le_refl _) W D _ _ (by simp at hD; omega) hK rfl rfl)⟩
  case stop =>
    rintro D c pre W _ _ h _
    exact h.elim

/-- slices.Collect(seq) at strings. -/
theorem collect_calls (g : Nat) (lb : Array Value) (eg : ∀ args w, (callFunc g args).run Tryz.prog w = .ok (.enter g args) w) (S Sp : List ByteArray → Prop) (N : Nat) (hN : N ≤ 1000000000) (w : World)
    (hseq : SeqStopsK Fence.wide 8 Tryz.prog g lb (fun x : ByteArray => #[Value.string x]) (Below w.heap.size) S Sp N w) :
    Calls Tryz.prog 182 #[.func (.func g) #[] lb] w fun e w' => ∃ (v : Value) (xs : List ByteArray), e = .returned v ∧ S xs ∧ w'.ownsRow w.heap.size 9 1 v xs.length (xs.map Value.string) ∧ (v = .slice none 0 0 ↔ xs = []) ∧ Below w.heap.size w w' := by
  go_enter Tryz.func182, Tryz.ntmps182
  go_wp2_with fail
  refine (appendSeq_calls g lb eg S Sp N hN w hseq).mono ?_
  rintro e w' ⟨v, xs, rfl, h1, h2, h3, h4⟩
  go_wp2
  go_ret
  exact ⟨v, xs, rfl, h1, h2, h3, h4⟩

/-- Strings in order, as lists of bytes. -/
def sortB (ss : List ByteArray) : List (List UInt8) := (ss.map (·.data.toList)).mergeSort fun x y => decide (x ≤ y)
theorem map_string_enc (ss : List ByteArray) : ss.map Value.string = (ss.map (·.data.toList)).map encStr := by
  rw [List.map_map]; rfl
set_option maxHeartbeats 1000000 in
/-- slices.Sorted(seq) at strings: a new slice of what came, in order. -/
theorem sorted_calls (g : Nat) (lb : Array Value) (eg : ∀ args w, (callFunc g args).run Tryz.prog w = .ok (.enter g args) w) (S Sp : List ByteArray → Prop) (N : Nat) (hN : N ≤ 1000000000) (w : World)
    (hseq : SeqStopsK Fence.wide 8 Tryz.prog g lb (fun x : ByteArray => #[Value.string x]) (Below w.heap.size) S Sp N w) (hS : ∀ xs, S xs → xs.length ≤ N) :
    Calls Tryz.prog 125 #[.func (.func g) #[] lb] w fun e w' => ∃ (v : Value) (xs : List ByteArray), e = .returned v ∧ S xs ∧ w'.ownsRow w.heap.size 9 1 v xs.length ((sortB xs).map encStr) ∧ (v = .slice none 0 0 ↔ xs = []) ∧ Below w.heap.size w w' := by
  go_enter Tryz.func125, Tryz.ntmps125
  go_wp2_with fail
  refine (collect_calls g lb eg S Sp N hN w hseq).mono ?_
  rintro e w' ⟨v, xs, rfl, h1, hrow, hnil, hb⟩
  rw [map_string_enc] at hrow
  rcases hrow.2 with ⟨rfl, hz⟩ | ⟨gb, cap, cur, rfl, hbase, hgb, r1, r2, r3, r4⟩
  · have hxs : xs = [] := List.eq_nil_of_length_eq_zero hz
    subst hxs
    go_wp2_with fail
    refine (Any.slices_Sort_string_none Tryz.lays190 none 0 w').mono ?_
    rintro e w' ⟨rfl, rfl⟩
    go_wp2
    go_ret
    exact ⟨.slice none 0 0, [], rfl, h1, by simpa [sortB] using hrow, by simp, hb⟩
  · have hH : Holds encStr w' gb 0 (xs.map (·.data.toList)).toArray := holds_of_block hgb (by simpa using r4)
    have hgl : gb < w'.heap.size := (Array.getElem?_eq_some_iff.1 hgb).1
    have hlen : (xs.map (·.data.toList)).length = xs.length := by simp
    have cS := Tryz.slices_Sort_string gb 0 cap (xs.map (·.data.toList)) w' hH hgl (by rw [hlen]; have := hS _ h1; omega)
    rw [hlen] at cS
    have HL := Lib.hid hlen
    clear hlen
    go_wp2_with fail
    refine cS.mono ?_
    rintro e w2 ⟨rfl, nn, os, rfl⟩
    go_wp2
    go_ret
    refine ⟨_, xs, rfl, h1, ?_, hnil, hb.grown (grownBy_sorted _) hb.size (fun j hj => by cases hj; exact hbase)⟩
    have := ownsRow_sorted (n := nn) (os := os) (ss := xs.map (·.data.toList)) (ts := sortB xs) (by simp [sortB]) hbase hgb (by simpa using r1) r2 r3
    rw [HL.out] at this
    exact this
end Go.Proofs.YtfnibmcenjiodaaGreatDoor.M
