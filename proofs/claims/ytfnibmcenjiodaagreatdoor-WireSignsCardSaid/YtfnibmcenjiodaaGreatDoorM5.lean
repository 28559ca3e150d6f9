/- Walks of wire.Check and of what it asks. No statement of the seat is proved here. -/
import Derived.Test.YtfnibmcenjiodaaGreatDoorM4
import Derived.Deep.RegionWith
import Derived.BigRegion
import Derived.Laws.EntriesVeiled
import Derived.LoopN
namespace Go.Proofs.YtfnibmcenjiodaaGreatDoor.M
open Go.Sort Go.Shelf Go.RowKit Go.Proofs.YtfnibmcenjiodaaGreatDoorW.PrintWords Go.Proofs.YtfnibmcenjiodaaGreatDoorW.PrintLast Go.Proofs.YtfnibmcenjiodaaGreatDoorW.PrintMore
attribute [local go_sem] Oper.semAt_some

theorem C_one_int {W : World} {b : Nat} {v : Int} {t : TypeId} (h : W.heap[b]? = some (.cells #[.int .i64 v] t (0, 0))) : Kd.C (Kd.int .i64) W (some ⟨b, 0, none⟩) 1 [v] := by
  refine ⟨rfl, by simp, fun _ => ⟨_, rfl, fun i p hp => ?_⟩⟩
  cases i with
  | zero =>
    simp at hp; subst hp
    refine ⟨[.int .i64 v], rfl, rfl, fun j u hu => ?_⟩
    cases j with
    | zero => simp at hu; subst hu; exact box_cell h
    | succ j => simp at hu
  | succ i => simp at hp

theorem wire_in1 (lo hi x : Int) (A : Option Addr) (c : Nat) (w : World) (hr : Kd.C (Kd.int .i64) w A 1 [x]) :
   Calls Tryz.prog 64 #[.int .i64 lo, .int .i64 hi, .slice A 1 c] w fun e w' => e = .returned (.bool (inB lo hi [x])) ∧ Below w.heap.size w w' := wire_in lo hi A c [x] w hr
theorem checks1 (A : Option Addr) (c len : Nat) (w : World) :
    Calls Tryz.prog 143 #[.agg #[.slice A len c]] w fun e w' => e = .returned (.bool (inB 1 7 [(len : Int)])) ∧ Below w.heap.size w w' := by
  go_enter Tryz.func143, Tryz.ntmps143
  go_wp2_with fail
  refine (wire_in1 1 7 (len : Int) _ _ _ (C_one_int (blk_new1 _ _ _))).mono ?_
  rintro e w' ⟨rfl, hb⟩
  go_wp2
  go_ret
  exact ⟨rfl, below_step (below2 _ _ _) hb⟩

set_option maxHeartbeats 400000 in
theorem indexFunc_str (g : Nat) (cap : Array Value) (args : ByteArray → Array Value) (P : ByteArray → Bool) (A : Option Addr) (c : Nat) (l : List ByteArray) (w : World) (hr : Kd.C Kd.string w A l.length l)
   (eg : ∀ args w, (callFunc g args).run Tryz.prog w = .ok (.enter g args) w)
   (ha : Hid (∀ x, #[Value.string x] ++ cap = args x))
   (hf : Hid (∀ x ∈ l, ∀ W, Below w.heap.size w W → Calls Tryz.prog g (args x) W fun e w' => e = .returned (.bool (P x)) ∧ Below W.heap.size W w')) :
   Calls Tryz.prog 212 #[.slice A l.length c, .func (.func g) #[] cap] w fun e w' => e = .returned (.int .i64 (pIdx P l)) ∧ Below w.heap.size w w' := by
  have hmax := Kd.C_max hr
  go_enter Tryz.func212, Tryz.ntmps212
  go_wp2
  go_loopw [8] (fun i wr => ∃ k : Nat, k ≤ l.length ∧ i = .int .i64 k ∧ Hid (∀ i (hi : i < k) (h : i < l.length), P l[i] = false) ∧ Below w.heap.size w wr) (fun i _ => l.length - (intOf i).toNat)
  case atStart => exact ⟨0, by omega, rfl, Lib.hid (fun i hi => by omega), Below.refl _ _⟩
  case round =>
    obtain ⟨k, hk, rfl, H, hb⟩ := hrel
    by_cases hlt : k < l.length
    · obtain ⟨ad, rfl, hcell⟩ := Kd.at_string (Kd.C_below hr hb) k (by omega) (by omega)
      rw [show ((k : Int).toNat) = k from by omega] at hcell
      have hrd : rdOf ByteArray.empty l k = l[k] := by simp [rdOf, hlt]
      rw [hrd] at hcell
      clear hrd
      have hf' := Lib.hid (hf.out l[k] (List.getElem_mem hlt))
      go_wp2_with fail
      rw [ha.out]
      refine (hf'.out _ hb).mono ?_
      rintro e w2 ⟨rfl, hb2⟩
      have hb3 := below_step hb hb2
      cases hP : P l[k]
      · go_wp2
        go_roundw
        case rel => exact ⟨k + 1, by omega, by go_num, Lib.hid (fun i hi h => by
          by_cases e : i < k
          · exact H.out i e h
          · obtain rfl : i = k := by omega
            exact hP), hb3⟩
        case measure => simp [intOf]; omega
      · go_wp2
        go_ret
        exact ⟨ret_int (pIdx_some P l k hlt (fun i hi => H.out i hi (by omega)) hP).symm, hb3⟩
    · go_wp2
      go_ret
      exact ⟨ret_int (pIdx_none P l (fun i hi => H.out i (by omega) hi)).symm, hb⟩
theorem containsFunc_str (g : Nat) (cap : Array Value) (args : ByteArray → Array Value) (P : ByteArray → Bool) (A : Option Addr) (c : Nat) (l : List ByteArray) (w : World) (hr : Kd.C Kd.string w A l.length l)
   (eg : ∀ args w, (callFunc g args).run Tryz.prog w = .ok (.enter g args) w)
   (ha : Hid (∀ x, #[Value.string x] ++ cap = args x))
   (hf : Hid (∀ x ∈ l, ∀ W, Below w.heap.size w W → Calls Tryz.prog g (args x) W fun e w' => e = .returned (.bool (P x)) ∧ Below W.heap.size W w')) :
   Calls Tryz.prog 145 #[.slice A l.length c, .func (.func g) #[] cap] w fun e w' => e = .returned (.bool (l.any P)) ∧ Below w.heap.size w w' := by
  go_enter Tryz.func145, Tryz.ntmps145
  go_wp2_with fail
  refine (indexFunc_str g cap args P A c l w hr eg ha hf).mono ?_
  rintro e w' ⟨rfl, hb⟩
  go_wp2
  go_ret
  exact ⟨ret_bool (pIdx_any P l), hb⟩

/-- A word is one of 1 to 6 signs. -/
def wordOk (x : ByteArray) : Bool := inB 1 6 [(x.size : Int)] && isSigns x
theorem checks21 (x : ByteArray) (w : World) (hs : x.size ≤ 9223372036854775807) :
    Calls Tryz.prog 146 #[.string x] w fun e w' => e = .returned (.bool (!wordOk x)) ∧ Below w.heap.size w w' := by
  cases hi : inB 1 6 [(x.size : Int)]
  · go_enter Tryz.func146, Tryz.ntmps146
    go_wp2_with fail
    refine (wire_in1 1 6 (x.size : Int) _ _ _ (C_one_int (blk_new _ _))).mono ?_
    rintro e w' ⟨rfl, hb⟩
    rw [hi]
    go_wp2
    go_ret
    exact ⟨by simp [wordOk, hi], below_step (below1 _ _) hb⟩
  · go_enter Tryz.func146, Tryz.ntmps146
    go_wp2_with fail
    refine (wire_in1 1 6 (x.size : Int) _ _ _ (C_one_int (blk_new _ _))).mono ?_
    rintro e w' ⟨rfl, hb⟩
    rw [hi]
    go_wp2_with fail
    refine (wire_signs x w' hs).mono ?_
    rintro e w2 ⟨rfl, hb2⟩
    go_wp2
    go_ret
    exact ⟨by simp [wordOk, hi], below_step (below_step (below1 _ _) hb) hb2⟩
theorem checks2 (A : Option Addr) (c : Nat) (l : List ByteArray) (w : World) (hr : Kd.C Kd.string w A l.length l) (hsz : ∀ x ∈ l, x.size ≤ 9223372036854775807) :
    Calls Tryz.prog 144 #[.agg #[.slice A l.length c]] w fun e w' => e = .returned (.bool (l.all wordOk)) ∧ Below w.heap.size w w' := by
  go_enter Tryz.func144, Tryz.ntmps144
  go_wp2_with fail
  refine (containsFunc_str 146 #[] (fun x => #[.string x]) (fun x => !wordOk x) A c l _ (Kd.C_alloc hr _) (enters_of Tryz.func146 (by kernel_rfl) rfl) (Lib.hid (fun _ => rfl)) (Lib.hid (fun x hx W _ => checks21 x W (hsz x hx)))).mono ?_
  rintro e w' ⟨rfl, hb⟩
  go_wp2
  go_ret
  exact ⟨ret_bool (by rw [Bool.eq_iff_iff]; simp [List.any_eq_false]), below_step (below1 _ _) hb⟩

theorem compact_own {base n : Nat} {v : Value} {zs : List (List UInt8)} {w : World} (h : w.ownsRow base 9 1 v n (zs.map encStr)) (hn : zs.length = n) :
    Calls Tryz.prog 148 #[v] w fun e w' => ∃ A c, e = .returned (.slice A (Lib.compact zs).length c) ∧ Below base w w' := by
  subst hn
  rcases h.2 with ⟨rfl, hz⟩ | ⟨gb, cap, cur, rfl, hbase, hgb, r1, r2, r3, r4⟩
  · have : zs = [] := List.eq_nil_of_length_eq_zero hz
    subst this
    exact (Tryz.slices_Compact_string_empty none 0 w).mono fun e w' ⟨he, hw⟩ => ⟨none, 0, he, by rw [hw]; exact Below.refl _ _⟩
  · have hH : Holds encStr w gb 0 zs.toArray := holds_of_block hgb (by simpa using r4)
    refine (Tryz.slices_Compact_string gb 0 cap zs w hH (by unfold maxLen at *; omega) r1).mono ?_
    rintro e w' ⟨he, q, hw⟩
    refine ⟨_, _, he, ?_⟩
    rw [hw]
    have hg := grownBy_sorted (w := w) (n := q) (g := gb) (os := #[]) (Lib.compact zs ++ List.replicate (zs.length - (Lib.compact zs).length) []).toArray
    rw [grow_empty] at hg
    exact (Below.refl base w).grown hg (by have := (Array.getElem?_eq_some_iff.1 hgb).1; omega) (fun j hj => by cases hj; exact hbase)

set_option maxHeartbeats 1000000 in
theorem checks3 (A : Option Addr) (c : Nat) (l : List ByteArray) (w : World) (hr : Kd.C Kd.string w A l.length l) (hl : l.length ≤ 1000000000) :
    Calls Tryz.prog 147 #[.agg #[.slice A l.length c]] w fun e w' => e = .returned (.bool ((Lib.compact (sortB l)).length == l.length)) ∧ Below w.heap.size w w' := by
  go_enter Tryz.func147, Tryz.ntmps147
  go_wp2_with fail
  refine (values_calls A c l.length _).mono ?_
  rintro e w' ⟨rfl, rfl⟩
  go_wp2_with fail
  refine (sorted_calls 183 _ (enters_of Tryz.func183 (by kernel_rfl) rfl) _ _ l.length hl _ (values_stops 8 (by decide) (w.heap.size + 1) A c l _ (Kd.C_alloc (Kd.C_alloc hr _) _) (by simp) (cell_new1 _ _ _ _)) (fun xs h => by rw [h]; exact Nat.le_refl _)).mono ?_
  rintro e w' ⟨v, xs, rfl, rfl, hrow, hnil, hb⟩
  clear hnil
  have hbx := blk_below (blk_alloc (blk_new w (.cells #[.slice A xs.length c] 24)) (.cells #[.slice A xs.length c] 22)) hb
  have hc1 := box_cell hbx
  have hbw := below_step (below2 w (.cells #[.slice A xs.length c] 24) (.cells #[.slice A xs.length c] 22)) hb
  have hsl : (sortB xs).length = xs.length := by simp [sortB]
  have hcmp := compact_own (w := w'.drew) hrow hsl
  have hlb : w.heap.size < ((w.alloc (Obj.cells #[Value.slice A xs.length c] 24)).alloc (Obj.cells #[Value.slice A xs.length c] 22)).heap.size := by simp only [World.size_alloc]; omega
  clear hb hsl hrow
  generalize ((w.alloc (Obj.cells #[Value.slice A xs.length c] 24)).alloc (Obj.cells #[Value.slice A xs.length c] 22)).heap.size = base at hcmp hlb
  have Hcmp := Lib.hid hcmp
  have Hbw := Lib.hid hbw
  have Hbx := Lib.hid hbx
  clear hcmp hbw hbx
  go_wp2_with fail
  go_region_with (go_at_call 148; refine Hcmp.out.mono ?_; rintro e w2 ⟨A2, c2, rfl, hb2⟩; have hc2 : w2.cell? ⟨w.heap.size, 0, none⟩ = some (Value.slice A xs.length c) := (hb2.cell (p := ⟨w.heap.size, 0, none⟩) hlb).trans hc1)
  all_goals
    go_wp2
    go_ret
    show Ending.returned (.bool (((Lib.compact (sortB xs)).length : Int) == (xs.length : Int))) = _ ∧ _
    exact ⟨ret_bool (by rw [Bool.eq_iff_iff]; simp; omega), Hbw.out.drew.trans (hb2.mono (by omega))⟩

theorem checks_calls (w : World) :
    Calls Tryz.prog 99 #[] w fun e w' => e = .returned (.agg #[.func (.func 143) #[] #[], .func (.func 144) #[] #[], .func (.func 147) #[] #[]]) ∧ Below w.heap.size w w' := by
  go_enter Tryz.func99, Tryz.ntmps99
  go_wp2
  refine bodyPost_ret (v := .agg #[.func (.func 143) #[] #[], .func (.func 144) #[] #[], .func (.func 147) #[] #[]]) (by simp [results, Tryz.results99, go_sem]) rfl ⟨rfl, below1 _ _⟩

/-- A code is valid. -/
def codeOk (l : List ByteArray) : Bool := inB 1 7 [(l.length : Int)] && l.all wordOk && ((Lib.compact (sortB l)).length == l.length)
def checkE (l : List ByteArray) : Int := if codeOk l then 0 else 110
set_option maxHeartbeats 1000000 in
theorem wire_Check (A : Option Addr) (c : Nat) (l : List ByteArray) (w : World) (hr : Kd.C Kd.string w A l.length l) (hsz : ∀ x ∈ l, x.size ≤ 9223372036854775807) :
    Calls Tryz.prog 53 #[.agg #[.slice A l.length c]] w fun e w' => e = .returned (.int .i64 (checkE l)) ∧ Below w.heap.size w w' := by
  have i0 : ∀ w, (Instr.index 182 (.agg #[.func (.func 143) #[] #[], .func (.func 144) #[] #[], .func (.func 147) #[] #[]]) (.int .i64 0)).run Tryz.prog w = .ok (.agg #[.func (.func 143) #[] #[]]) w := fun _ => by kernel_rfl
  have i1 : ∀ w, (Instr.index 182 (.agg #[.func (.func 143) #[] #[], .func (.func 144) #[] #[], .func (.func 147) #[] #[]]) (.int .i64 1)).run Tryz.prog w = .ok (.agg #[.func (.func 144) #[] #[]]) w := fun _ => by kernel_rfl
  have i2 : ∀ w, (Instr.index 182 (.agg #[.func (.func 143) #[] #[], .func (.func 144) #[] #[], .func (.func 147) #[] #[]]) (.int .i64 2)).run Tryz.prog w = .ok (.agg #[.func (.func 147) #[] #[]]) w := fun _ => by kernel_rfl
  go_enter Tryz.func53, Tryz.ntmps53
  go_wp2_with fail
  refine (checks_calls _).mono ?_
  rintro e w1 ⟨rfl, hb⟩
  have hx1 := Lib.hid (blk_below (blk_new w (.cells #[.slice A l.length c] 24)) hb)
  have HB1 := Lib.hid (below_step (below1 w (.cells #[.slice A l.length c] 24)) hb)
  have HR1 := Lib.hid (Kd.C_below hr HB1.out)
  have hc1 := box_cell hx1.out
  have hz1 := blk_lt hx1.out
  clear hb hr
  go_wp2
  refine wp_loop_rounds 4 ?_
  rw [rounds_succ]
  go_wp2_with fail
  refine (checks1 A c l.length _).mono ?_
  rintro e w2 ⟨rfl, hb2⟩
  have hx2 := Lib.hid (blk_below (blk_alloc hx1.out _) hb2)
  have HB2 := Lib.hid (below_step (below_alloc HB1.out _) hb2)
  have HR2 := Lib.hid (Kd.C_below (Kd.C_alloc HR1.out _) hb2)
  have hc2 := box_cell hx2.out
  have hz2 := blk_lt hx2.out
  clear hb2 hc1 hz1
  cases h1 : inB 1 7 [(l.length : Int)]
  · go_wp2
    go_ret
    exact ⟨by simp [checkE, codeOk, h1], HB2.out⟩
  have hl : Hid (l.length ≤ 1000000000) := Lib.hid (by simp [inB] at h1; omega)
  have H1 := Lib.hid h1
  clear h1
  go_wp2
  rw [rounds_succ]
  go_wp2_with fail
  refine (checks2 A c l _ (Kd.C_alloc HR2.out _) hsz).mono ?_
  rintro e w3 ⟨rfl, hb3⟩
  have hx3 := Lib.hid (blk_below (blk_alloc hx2.out _) hb3)
  have HB3 := Lib.hid (below_step (below_alloc HB2.out _) hb3)
  have HR3 := Lib.hid (Kd.C_below (Kd.C_alloc HR2.out _) hb3)
  have hc3 := box_cell hx3.out
  have hz3 := blk_lt hx3.out
  clear hb3 hc2 hz2
  cases h2 : l.all wordOk
  · go_wp2
    go_ret
    exact ⟨by simp only [checkE, codeOk, h2, Bool.and_false, Bool.false_and]; rfl, HB3.out⟩
  have H2 := Lib.hid h2
  clear h2
  go_wp2
  rw [rounds_succ]
  go_wp2_with fail
  refine (checks3 A c l _ (Kd.C_alloc HR3.out _) hl.out).mono ?_
  rintro e w4 ⟨rfl, hb4⟩
  have HB4 := Lib.hid (below_step (below_alloc HB3.out _) hb4)
  clear hb4 hc3 hz3
  cases h3 : ((Lib.compact (sortB l)).length == l.length)
  · go_wp2
    go_ret
    exact ⟨by simp only [checkE, codeOk, h3, Bool.and_false]; rfl, HB4.out⟩
  have H3 := Lib.hid h3
  clear h3
  go_wp2
  rw [rounds_succ]
  go_wp2
  go_ret
  exact ⟨by simp only [checkE, codeOk, H1.out, H2.out, H3.out]; rfl, HB4.out⟩
end Go.Proofs.YtfnibmcenjiodaaGreatDoor.M
