/- Contracts and plain laws that the claim's card stands on (texts M27 M28 M29 M30 L2 N16 M47 N17 O1 N18 of the work, put together). No statement of the seat is proved here. -/
import Derived.LoopN
import Derived.RangeFuncWrites
import Derived.RecoverIn
import Derived.WalkKit
import Derived.ProofKit
import Derived.OpenShut
import Derived.ShutString
import Derived.ChangeOld
import Derived.Carry
import Derived.Lib.SmallJoins
import Derived.SliceStrings
import Derived.ChangeSlices
import Derived.ChangeSame
import Derived.Test.YtfnibmcenjiodaaGreatDoorQ11
import Derived.Test.YtfnibmcenjiodaaGreatDoorQ16
import Derived.Test.YtfnibmcenjiodaaGreatDoorQ17
import Derived.Test.YtfnibmcenjiodaaGreatDoorQ19
import Derived.Test.YtfnibmcenjiodaaGreatDoorQ20
import Derived.Test.YtfnibmcenjiodaaGreatDoorQ21
set_option linter.unusedVariables false
set_option linter.unusedSimpArgs false
namespace Go.Proofs.YtfnibmcenjiodaaGreatDoor.M
open Go.Sort Go.Shelf Go.RowKit Go.Maps Go.Proofs.YtfnibmcenjiodaaGreatDoorW.PrintWords Go.Proofs.YtfnibmcenjiodaaGreatDoorW.PrintLast Go.Proofs.YtfnibmcenjiodaaGreatDoorW.PrintMore
attribute [local go_sem] Oper.semAt_some
abbrev press0 : Value := .agg #[.slice none 0 0, .slice none 0 0]
abbrev box0 : Obj := .cells #[.slice none 0 0, .slice none 0 0] 85 (0, 0)
theorem pcheck1 (w : World) : Calls Tryz.prog 191 #[press0] w fun e w' => e = .returned (.bool true) ∧ Below w.heap.size w w' := by
  go_enter Tryz.func191, Tryz.ntmps191
  go_wp2
  go_ret
  exact ⟨rfl, below1 _ _⟩
theorem pcheck2 (w : World) : Calls Tryz.prog 192 #[press0] w fun e w' => e = .returned (.bool true) ∧ Below w.heap.size w w' := by
  go_enter Tryz.func192, Tryz.ntmps192
  go_wp2
  refine wp_loop_rounds 1 ?_
  rw [rounds_succ]
  go_wp2
  go_ret
  exact ⟨rfl, below1 _ _⟩
theorem pcheck3 (w : World) : Calls Tryz.prog 193 #[press0] w fun e w' => e = .returned (.bool true) ∧ Below w.heap.size w w' := by
  go_enter Tryz.func193, Tryz.ntmps193
  go_wp2
  refine wp_loop_rounds 1 ?_
  rw [rounds_succ]
  go_wp2
  go_ret
  exact ⟨rfl, below1 _ _⟩
abbrev pfuns : Value := .agg #[.func (.func 191) #[] #[], .func (.func 192) #[] #[], .func (.func 193) #[] #[]]
theorem pchecks_calls (w : World) : Calls Tryz.prog 138 #[] w fun e w' => e = .returned pfuns ∧ Below w.heap.size w w' := by
  go_enter Tryz.func138, Tryz.ntmps138
  go_wp2
  refine bodyPost_ret (v := pfuns) (by simp [results, Tryz.results138, go_sem]) rfl ⟨rfl, below1 _ _⟩
theorem two_cell {w : World} {b : Nat} (h : w.heap[b]? = some box0) : w.cell? ⟨b, 0, none⟩ = some (.slice none 0 0) ∧ w.cell? ⟨b, 1, none⟩ = some (.slice none 0 0) := by
  constructor <;> simp [World.cell?, h]
set_option maxHeartbeats 1000000 in
theorem pCheck_none (w : World) : Calls Tryz.prog 92 #[press0] w fun e w' => e = .returned (.int .i64 0) ∧ Below w.heap.size w w' := by
  have i0 : ∀ w, (Instr.index 229 pfuns (.int .i64 0)).run Tryz.prog w = .ok (.agg #[.func (.func 191) #[] #[]]) w := fun _ => by kernel_rfl
  have i1 : ∀ w, (Instr.index 229 pfuns (.int .i64 1)).run Tryz.prog w = .ok (.agg #[.func (.func 192) #[] #[]]) w := fun _ => by kernel_rfl
  have i2 : ∀ w, (Instr.index 229 pfuns (.int .i64 2)).run Tryz.prog w = .ok (.agg #[.func (.func 193) #[] #[]]) w := fun _ => by kernel_rfl
  go_enter Tryz.func92, Tryz.ntmps92
  go_wp2_with fail
  refine (pchecks_calls _).mono ?_
  rintro e w1 ⟨rfl, hb⟩
  have hx1 := Lib.hid (blk_below (blk_new w box0) hb)
  have HB1 := Lib.hid (below_step (below1 w box0) hb)
  obtain ⟨hc1, hd1⟩ := two_cell hx1.out
  have hz1 := blk_lt hx1.out
  clear hb
  go_wp2
  refine wp_loop_rounds 4 ?_
  rw [rounds_succ]
  go_wp2_with fail
  refine (pcheck1 _).mono ?_
  rintro e w2 ⟨rfl, hb2⟩
  have hx2 := Lib.hid (blk_below (blk_alloc hx1.out _) hb2)
  have HB2 := Lib.hid (below_step (below_alloc HB1.out _) hb2)
  obtain ⟨hc2, hd2⟩ := two_cell hx2.out
  have hz2 := blk_lt hx2.out
  clear hb2 hc1 hd1 hz1
  go_wp2
  rw [rounds_succ]
  go_wp2_with fail
  refine (pcheck2 _).mono ?_
  rintro e w3 ⟨rfl, hb3⟩
  have hx3 := Lib.hid (blk_below (blk_alloc hx2.out _) hb3)
  have HB3 := Lib.hid (below_step (below_alloc HB2.out _) hb3)
  obtain ⟨hc3, hd3⟩ := two_cell hx3.out
  have hz3 := blk_lt hx3.out
  clear hb3 hc2 hd2 hz2
  go_wp2
  rw [rounds_succ]
  go_wp2_with fail
  refine (pcheck3 _).mono ?_
  rintro e w4 ⟨rfl, hb4⟩
  have HB4 := Lib.hid (below_step (below_alloc HB3.out _) hb4)
  clear hb4 hc3 hd3 hz3
  go_wp2
  rw [rounds_succ]
  go_wp2
  go_ret
  exact ⟨rfl, HB4.out⟩
theorem own_one (w : World) (x : Int) {base : Nat} (h : base ≤ w.heap.size) : (w.alloc (.cells #[.int .i64 x] 3)).ownsRow base 3 1 (.slice (some ⟨w.heap.size, 0, none⟩) 1 1) 1 [.int .i64 x] := by
  refine ⟨by simp, .inr ⟨w.heap.size, 1, _, rfl, h, blk_new w _, Nat.le_refl _, by unfold maxLen; omega, rfl, ?_⟩⟩
  simp
set_option maxRecDepth 100000 in
set_option maxHeartbeats 1000000 in
theorem ofPress_none (w : World) : Calls Tryz.prog 93 #[press0] w fun e w' => ∃ A c, e = .returned (.slice A 2 c) ∧ w'.ownsRow w.heap.size 3 1 (.slice A 2 c) 2 [.int .i64 0, .int .i64 0] ∧ Below w.heap.size w w' := by
  obtain ⟨i0, hi, hz0, hz1, hz2⟩ := info_parts info3
  go_enter Tryz.func93, Tryz.ntmps93
  have ho : Hid (((w.alloc box0).alloc (.cells #[.int .i64 0] 3)).ownsRow w.heap.size 3 1 (.slice (some ⟨w.heap.size + 1, 0, none⟩) 1 1) 1 [.int .i64 0]) := Lib.hid (by have h := own_one (w.alloc box0) 0 (base := w.heap.size) (by simp); rwa [World.size_alloc] at h)
  have hb2 := Lib.hid (below2 w box0 (.cells #[.int .i64 0] 3))
  have hx2 := Lib.hid (blk_alloc (blk_new w box0) (.cells #[.int .i64 0] 3))
  obtain ⟨W1, hW1⟩ : ∃ W1, W1 = (w.alloc box0).alloc (.cells #[.int .i64 0] 3) := ⟨_, rfl⟩
  rw [← hW1] at ho hb2 hx2
  go_wp2
  refine wp_loop_rounds 1 ?_
  rw [rounds_succ]
  rw [← hW1]
  have hs1 : w.heap.size + 2 ≤ W1.heap.size := by rw [hW1]; simp
  obtain ⟨hc1, hd1⟩ := two_cell hx2.out
  clear hW1
  go_wp2_with (at_builtin; refine wpList_append_own_at _ rfl _ _ 25 rfl w.heap.size 3 i0 (.int .i64 0) 1 8 Tryz.underlying25 hi hz0 hz1 hz2 rfl (by decide) _ _ _ rfl (ho.out.alloc _) ⟨W1.heap.size, 0, none⟩ 1 1 [.int .i64 0] rfl rfl (cell_one_new _ _ _) (by simp [Value.oneCell']) (by unfold maxLen; omega) (by omega) (by simp; omega) ?_; intro v' w4 hown' hgrow _ _; have hgrow' : (W1.alloc (.cells #[.int .i64 0] 3)).grownBy w4 (some (w.heap.size + 1)) := hgrow; clear hgrow; obtain ⟨g', cap', rfl⟩ := ownsRow_succ hown'; have Hg := Lib.hid hgrow'; have Ho := Lib.hid hown'; have hx4 : w4.heap[w.heap.size]? = some box0 := (hgrow'.block _ (by simp; omega) (by simp)).trans (blk_alloc hx2.out _); obtain ⟨hc4, hd4⟩ := two_cell hx4; clear hgrow' hown')
  refine wp_loop_rounds 1 ?_
  rw [rounds_succ]
  go_wp2
  go_ret
  refine ⟨_, _, rfl, Ho.out, (below_alloc hb2.out _).grown Hg.out (by simp; omega) (fun k hk => by cases hk; omega)⟩
theorem write_zeros : writeR [0, 0] = (⟨#[45, 45]⟩, 0) := by rfl
set_option maxHeartbeats 1000000 in
theorem wire_OfPress_none (w : World) : Calls Tryz.prog 50 #[press0] w fun e w' => e = .returned (.tuple #[.string ⟨#[45, 45]⟩, .int .i64 0]) ∧ Below w.heap.size w w' := by
  go_enter Tryz.func50, Tryz.ntmps50
  go_wp2_with fail
  refine (pCheck_none _).mono ?_
  rintro e w1 ⟨rfl, hb1⟩
  have hx1 := Lib.hid (blk_below (blk_new w box0) hb1)
  have HB1 := Lib.hid (below_step (below1 w box0) hb1)
  obtain ⟨hc1, hd1⟩ := two_cell hx1.out
  clear hb1
  go_wp2_with fail
  refine (ofPress_none _).mono ?_
  rintro e w2 ⟨A, c, rfl, hown, hb2⟩
  have HB2 := Lib.hid (below_step HB1.out hb2)
  have hR : (Kd.int .i64).R 3 w2 w1.heap.size (fun _ => True) (.slice A 2 c) [0, 0] := Kd.R_of_own (xs := [0, 0]) hown (fun _ _ => trivial)
  obtain ⟨A9, c9, he9, hc9, hC9⟩ := Kd.R_reads hR
  injection he9 with e1 e2 e3
  subst e1 e3
  have HC9 := Lib.hid hC9
  clear hb2 hown hR hC9 hc1 hd1
  go_wp2_with fail
  refine (wire_Write A c [0, 0] w2 HC9.out).mono ?_
  rintro e w3 ⟨rfl, hb3⟩
  rw [write_zeros]
  have HB3 := Lib.hid (below_step HB2.out hb3)
  clear hb3
  go_wp2
  go_ret2
  exact ⟨rfl, HB3.out⟩
end Go.Proofs.YtfnibmcenjiodaaGreatDoor.M
namespace Go.Proofs.YtfnibmcenjiodaaGreatDoor.M
open Go.Sort Go.Shelf Go.RowKit Go.Maps Go.Proofs.YtfnibmcenjiodaaGreatDoorW.PrintWords Go.Proofs.YtfnibmcenjiodaaGreatDoorW.PrintLast Go.Proofs.YtfnibmcenjiodaaGreatDoorW.PrintMore
attribute [local go_sem] Oper.semAt_some
theorem wpIn_rangeFunc_calm {F : Fence} {n : Nat} {P : Program} {g : Operand} {ps : Array Tmp} {assign body : Code} {Q : Exit → Act → World → Prop} {a : Act} {w : World}
    (hro : F.round = none) (h1 : 1 ≤ n) {gf : Nat} {lb : Array Value} (hg : a.eval g = .func (.func gf) #[] lb) (hFg : F.fn gf) (eg : ∀ args w, (callFunc gf args).run P w = .ok (.enter gf args) w) (R : World → Prop)
    (hcall : ∀ (l : Nat) (W1 : World), Below w.heap.size w W1 → w.heap.size + 2 = W1.heap.size → CallsIn F (n - 1) P gf (#[.func (.yield l) #[] #[]] ++ lb) W1 fun e W' =>
      (∃ v, e = .returned v) ∧ R W' ∧ ∀ k, w.heap.size ≤ k → k < W1.heap.size → W'.heap[k]? = W1.heap[k]?)
    (hdone : ∀ (W : World) (o : Obj), R W → (W.putObj (w.heap.size + 1) o).heap[w.heap.size]? = some (.deferred (some [])) → Q .normal { a with defers := { target := .collected w.heap.size, args := #[] } :: a.defers } (W.putObj (w.heap.size + 1) o)) :
    (Code.rangeFunc g ps assign body).wpIn F n P Q a w := by
  refine wpIn_rangeFunc ?_
  intro fn hfn
  rw [hro]
  obtain ⟨rec, hrec⟩ : ∃ rec : LoopState → Option Code → Loop, rec = fun st pe => { state := st, pending := pe, fn, tmps := a.tmps, params := ps, assign, body, defers := w.heap.size } := ⟨_, rfl⟩
  obtain ⟨W1, hW1⟩ : ∃ W1, (w.alloc (.deferred (some []))).alloc (.loop (rec .ready none)) = W1 := ⟨_, rfl⟩
  have hL1 : W1.heap[w.heap.size + 1]? = some (.loop (rec .ready none)) := by
    rw [← hW1]; have := World.alloc_heap_new (w.alloc (.deferred (some []))) (.loop (rec .ready none)); rwa [World.size_alloc] at this
  have hK1 : W1.heap[w.heap.size]? = some (.deferred (some [])) := by
    rw [← hW1]; exact (Below.heap_alloc _ _ _ (by simp)).trans (World.alloc_heap_new w _)
  have hb1 : Below w.heap.size w W1 := by
    rw [← hW1]; exact (((Below.refl _ w).alloc (Nat.le_refl _) _).alloc (by simp) _)
  have hs1 : w.heap.size + 2 = W1.heap.size := by rw [← hW1]; simp
  refine ⟨w.heap.size + 1, [{ target := .collected w.heap.size, args := #[] }], W1, { target := .fn (.func gf) lb, args := #[.func (.yield (w.heap.size + 1)) #[] #[]] }, W1, gf,
    #[.func (.yield (w.heap.size + 1)) #[] #[]] ++ lb, W1, ?_, ?_, ?_, ?_, fun _ => h1, ?_⟩
  · rw [← hW1, hrec]; exact run_enterLoop_outer _ _ _ _ _
  · simp only [resolve, hg]
    simp [go_sem]
  · intro f' hf'; simp [Target.leads] at hf'; subst hf'; exact hFg
  · simp [invoke, go_sem, eg]
  · refine (hcall (w.heap.size + 1) W1 hb1 hs1).mono ?_
    rintro e W2 ⟨⟨v, rfl⟩, hR, hk⟩
    have hl2 := (hk (w.heap.size + 1) (by omega) (by omega)).trans hL1
    have hd2 := (hk w.heap.size (by omega) (by omega)).trans hK1
    exact ⟨none, _, by have := run_endLoop (P := P) hl2 (by rw [hrec]; simp); rw [hrec] at this; exact this, hdone _ _ hR ((World.putObj_heap_other (by omega)).trans hd2)⟩
set_option maxRecDepth 100000 in
set_option maxHeartbeats 1000000 in
theorem take_calls (b : Nat) (A : Addr) (n c k : Nat) (hk : k ≤ n) (hc : n ≤ c) (hc2 : c ≤ 9223372036854775807) (w : World) (hb : w.heap[b]? = some (.cells #[.slice (some A) n c] 163 (0, 0))) :
    Calls Tryz.prog 142 #[.pointer (some ⟨b, 0, none⟩), .int .i64 k] w fun e w' => e = .returned (.slice (some A) k c) ∧ (∃ A', (k < c → A' = A.add k) ∧ w'.heap[b]? = some (.cells #[.slice (some A') (n - k) (c - k)] 163 (0, 0))) ∧ Keep w.heap.size (some b) w w' := by
  have hc0 := box_cell hb
  have hf0 := box_free hb
  have HB := Lib.hid hb
  clear hb
  have hki : (k : Int) ≤ n := by omega
  go_enter Tryz.func142, Tryz.ntmps142
  go_wp2_with fail
  refine (must_true _).mono ?_
  rintro e w2 ⟨rfl, rfl⟩
  have hkp : ∀ v, Keep w2.heap.size (some b) w2 (w2.setCell ⟨b, 0, none⟩ v) := fun v => ⟨rfl, rfl, rfl, by simp, fun i hi hne => Below.heap_setCell _ _ _ _ (by intro e; apply hne; first | exact congrArg some e | exact congrArg some e.symm)⟩
  by_cases hck : c = k
  · subst hck
    obtain rfl : n = c := by omega
    go_wp2
    go_ret
    exact ⟨rfl, ⟨A, fun h => absurd h (by omega), by rw [Nat.sub_self]; exact box_put HB.out _⟩, hkp _⟩
  · go_wp2
    go_ret
    exact ⟨rfl, ⟨A.add k, fun _ => rfl, box_put HB.out _⟩, hkp _⟩
set_option maxRecDepth 100000 in
set_option maxHeartbeats 1000000 in
theorem rows0_in (l b bp be : Nat) (A : Addr) (m c : Nat) (hc : m + 1 ≤ c) (hc2 : c ≤ 9223372036854775807) (w : World) (hb : w.heap[b]? = some (.cells #[.slice (some A) (m + 1) c] 163 (0, 0))) (hbp : w.heap[bp]? = some (.cells #[.pointer (some ⟨b, 0, none⟩)] 227 (0, 0))) (hA : w.cell? A = some (.int .i64 0)) (hAb : A.block ≠ b) :
    CallsIn Fence.wide 11 Tryz.prog 141 #[.func (.yield l) #[] #[], .pointer (some ⟨bp, 0, none⟩), .pointer (some ⟨be, 0, none⟩)] w fun e w' =>
      (∃ v, e = .returned v) ∧ (∃ A', (1 < c → A' = A.add 1) ∧ w'.heap[b]? = some (.cells #[.slice (some A') m (c - 1)] 163 (0, 0))) ∧ Keep w.heap.size (some b) w w' := by
  have cp := box_cell hbp
  have HB := Lib.hid hb
  refine callsIn_of_wp Tryz.func141 rfl trivial ?_ rfl
  simp only [Tryz.ntmps141, List.size_toArray, List.length_cons, List.length_nil, Nat.reduceAdd, Nat.reduceSub, Array.replicate_succ, Array.replicate_zero, List.push_toArray, List.append_toArray, List.nil_append, List.cons_append]
  gi_wp2_with fail
  refine ⟨trivial, ?_⟩
  refine (callsIn_wide.2 (take_calls b A (m + 1) c 1 (by omega) hc hc2 w hb)).mono ?_
  rintro e w1 ⟨rfl, hA', hk⟩
  have hA1 : w1.cell? A = some (.int .i64 0) := (World.cell?_of_block (hk.block A.block (World.block_lt_of_cell? w A hA) (by simpa using hAb))).trans hA
  have HA' := Lib.hid hA'
  have HK := Lib.hid hk
  clear hA' hk cp hb hbp
  dsimp only
  gi_wp2
  refine wpIn_loop_rounds 1 ?_
  rw [roundsIn_succ]
  gi_wp2
  go_end0
  exact ⟨⟨_, rfl⟩, HA'.out, HK.out⟩
theorem rows_calls (b : Nat) (k : Int) (w : World) : Calls Tryz.prog 97 #[.pointer (some ⟨b, 0, none⟩), .int .i64 k] w fun e w' => e = .returned (.func (.func 141) #[] #[.pointer (some ⟨w.heap.size, 0, none⟩), .pointer (some ⟨w.heap.size + 1, 0, none⟩)]) ∧ w' = (w.alloc (.cells #[.pointer (some ⟨b, 0, none⟩)] 227)).alloc (.cells #[.int .i64 k] 3) := by
  go_enter Tryz.func97, Tryz.ntmps97
  go_wp2
  go_ret
  exact ⟨rfl, rfl⟩
theorem two_put0 {W : World} {b : Nat} {u v : Value} {t : TypeId} (h : W.heap[b]? = some (.cells #[u, v] t (0, 0))) (x : Value) : (W.setCell ⟨b, 0, none⟩ x).heap[b]? = some (.cells #[x, v] t (0, 0)) := by
  simp [World.setCell, Array.getElem?_modify, h]
theorem two_put1 {W : World} {b : Nat} {u v : Value} {t : TypeId} (h : W.heap[b]? = some (.cells #[u, v] t (0, 0))) (x : Value) : (W.setCell ⟨b, 1, none⟩ x).heap[b]? = some (.cells #[u, x] t (0, 0)) := by
  simp [World.setCell, Array.getElem?_modify, h]
def Sheet (b : Nat) (A : Addr) (n c : Nat) (W : World) : Prop := W.heap[b]? = some (.cells #[.slice (some A) n c] 163 (0, 0))
def RowsOut (b : Nat) (A : Addr) (m c : Nat) (w W : World) : Prop := (∃ A', (1 < c → A' = A.add 1) ∧ Sheet b A' m (c - 1) W) ∧ Keep w.heap.size (some b) w W
theorem RowsOut.put {b : Nat} {A : Addr} {m c : Nat} {w W : World} (h : RowsOut b A m c w W) (hb : b < w.heap.size) {l : Nat} (hl : w.heap.size ≤ l) (o : Obj) : RowsOut b A m c w (W.putObj l o) := by
  obtain ⟨⟨A', h1, h2⟩, hk⟩ := h
  exact ⟨⟨A', h1, (World.putObj_heap_other (by omega)).trans h2⟩, hk.put o (.inl hl)⟩
theorem add_block (A : Addr) (k : Nat) : (A.add k).block = A.block := by unfold Addr.add; split <;> rfl
theorem rows0_out (l b bp be : Nat) (A : Addr) (m c : Nat) (hc : m + 1 ≤ c) (hc2 : c ≤ 9223372036854775807) (w W1 : World) (hb : Sheet b A (m + 1) c w) (hbp : w.heap[bp]? = some (.cells #[.pointer (some ⟨b, 0, none⟩)] 227 (0, 0))) (hA : w.cell? A = some (.int .i64 0)) (hAb : A.block ≠ b) (h1 : Below w.heap.size w W1) :
    CallsIn Fence.wide 11 Tryz.prog 141 (#[.func (.yield l) #[] #[]] ++ #[.pointer (some ⟨bp, 0, none⟩), .pointer (some ⟨be, 0, none⟩)]) W1 fun e W' =>
      (∃ v, e = .returned v) ∧ RowsOut b A m c w W' ∧ ∀ k, w.heap.size ≤ k → k < W1.heap.size → W'.heap[k]? = W1.heap[k]? := by
  have hbl := blk_lt hb
  refine (rows0_in l b bp be A m c hc hc2 W1 ((h1.block _ hbl).trans hb) ((h1.block _ (blk_lt hbp)).trans hbp) ((World.cell?_of_block (h1.block _ (World.block_lt_of_cell? w A hA))).trans hA) hAb).mono ?_
  rintro e W' ⟨hv, ⟨A', hA', hs⟩, hk⟩
  exact ⟨hv, ⟨⟨A', hA', hs⟩, (Keep.of_below h1 _).trans (hk.mono h1.size)⟩, fun k h1 h2 => hk.block k h2 (by intro e; have := Option.some.inj e; omega)⟩
set_option maxRecDepth 100000 in
set_option maxHeartbeats 1000000 in
theorem press_none (b : Nat) (A : Addr) (m c : Nat) (hc : m + 2 ≤ c) (hc2 : c ≤ 9223372036854775807) (w : World) (hb : Sheet b A (m + 2) c w) (hA : w.cell? A = some (.int .i64 0)) (hA2 : w.cell? (A.add 1) = some (.int .i64 0)) (hAb : A.block ≠ b) :
    Calls Tryz.prog 90 #[.pointer (some ⟨b, 0, none⟩)] w fun e w' => e = .returned press0 ∧ (∃ A', (2 < c → A' = (A.add 1).add 1) ∧ Sheet b A' m (c - 2) w') ∧ Keep w.heap.size (some b) w w' := by
  refine (callsIn_wide (n := 12)).1 ?_
  refine callsIn_of_wp_marks Tryz.func90 rfl trivial ?_ rfl
  simp only [Tryz.ntmps90, List.size_toArray, List.length_cons, List.length_nil, Nat.reduceAdd, Nat.reduceSub, Array.replicate_succ, Array.replicate_zero, List.push_toArray, List.append_toArray, List.nil_append, List.cons_append]
  have hbl := blk_lt hb
  have hAl := World.block_lt_of_cell? w A hA
  have hA2l := World.block_lt_of_cell? w _ hA2
  obtain ⟨wB, hwB⟩ : ∃ wB, wB = (w.alloc box0).alloc box0 := ⟨_, rfl⟩
  have hz0 : wB.heap[w.heap.size]? = some box0 := by rw [hwB]; exact blk_alloc (blk_new w _) _
  have hz1 : wB.heap[w.heap.size + 1]? = some box0 := by rw [hwB]; exact blk_new1 w _ _
  have hbB : Below w.heap.size w wB := by rw [hwB]; exact below2 _ _ _
  have hsB : wB.heap.size = w.heap.size + 2 := by rw [hwB]; simp
  gi_wp2_with fail
  rw [← hwB]
  refine ⟨trivial, ?_⟩
  refine (callsIn_wide.2 (rows_calls b 4 _)).mono ?_
  rintro e w1 ⟨rfl, hw1⟩
  have hb1 : Below wB.heap.size wB w1 := by rw [hw1]; exact below2 _ _ _
  have hp1 : w1.heap[wB.heap.size]? = some (.cells #[.pointer (some ⟨b, 0, none⟩)] 227 (0, 0)) := by rw [hw1]; exact blk_alloc (blk_new wB _) _
  have hw1b : Below w.heap.size w w1 := hbB.trans (hb1.mono (by omega))
  clear hw1 hwB
  dsimp only
  gi_wp2_with fail
  refine wpIn_rangeFunc_calm rfl (by decide) (gf := 141) (lb := #[.pointer (some ⟨wB.heap.size, 0, none⟩), .pointer (some ⟨wB.heap.size + 1, 0, none⟩)]) rfl trivial (enters_of Tryz.func141 (by kernel_rfl) rfl) (RowsOut b A (m + 1) c w1)
    (fun l W1 hW1 _ => rows0_out l b _ _ A (m + 1) c (by omega) hc2 w1 W1 ((hw1b.block _ hbl).trans hb) hp1 ((World.cell?_of_block (hw1b.block _ hAl)).trans hA) hAb hW1) ?done
  case done =>
    intro W o hR hD
    have hR2 := hR.put (Nat.lt_of_lt_of_le hbl hw1b.size) (Nat.le_succ _) o
    clear hR
    obtain ⟨W2, hW2⟩ : ∃ W2, W2 = W.putObj (w1.heap.size + 1) o := ⟨_, rfl⟩
    rw [← hW2] at hR2 hD
    rw [← hW2]
    clear hW2
    obtain ⟨⟨A', hA', hs2⟩, hk2⟩ := hR2
    have hA'' := hA' (by omega)
    subst hA''
    clear hA'
    have hz0' := (hb1.block _ (blk_lt hz0)).trans hz0
    have hz1' := (hb1.block _ (blk_lt hz1)).trans hz1
    have hs1 := hb1.size
    have hz02 := hk2.blk hz0' (blk_lt hz0') (by intro e; have := Option.some.inj e; omega)
    have hz12 := hk2.blk hz1' (blk_lt hz1') (by intro e; have := Option.some.inj e; omega)
    have hA21 : w1.cell? (A.add 1) = some (.int .i64 0) := (World.cell?_of_block (hw1b.block _ hA2l)).trans hA2
    have hA22 : W2.cell? (A.add 1) = some (.int .i64 0) := (World.cell?_of_block (hk2.block _ (World.block_lt_of_cell? _ _ hA21) (by rw [add_block]; intro e; exact hAb (Option.some.inj e)))).trans hA21
    gi_wp2_with fail
    refine ⟨trivial, ?_⟩
    refine (callsIn_wide.2 (rows_calls b 5 _)).mono ?_
    rintro e w3 ⟨rfl, hw3⟩
    have hb3 : Below W2.heap.size W2 w3 := by rw [hw3]; exact below2 _ _ _
    have hp3 : w3.heap[W2.heap.size]? = some (.cells #[.pointer (some ⟨b, 0, none⟩)] 227 (0, 0)) := by rw [hw3]; exact blk_alloc (blk_new W2 _) _
    clear hw3
    dsimp only
    gi_wp2_with fail
    refine wpIn_rangeFunc_calm rfl (by decide) (gf := 141) (lb := #[.pointer (some ⟨W2.heap.size, 0, none⟩), .pointer (some ⟨W2.heap.size + 1, 0, none⟩)]) rfl trivial (enters_of Tryz.func141 (by kernel_rfl) rfl) (RowsOut b (A.add 1) m (c - 1) w3)
      (fun l W1 hW1 _ => rows0_out l b _ _ (A.add 1) m (c - 1) (by omega) (by omega) w3 W1 ((hb3.block _ (blk_lt hs2)).trans hs2) hp3 ((World.cell?_of_block (hb3.block _ (World.block_lt_of_cell? _ _ hA22))).trans hA22) (by rw [add_block]; exact hAb) hW1) ?done2
    case done2 =>
      intro W o hR hD2
      have hs3 := hb3.size
      have hlt2 := blk_lt hs2
      have hR4 := hR.put (by omega) (Nat.le_succ _) o
      clear hR
      obtain ⟨W4, hW4⟩ : ∃ W4, W4 = W.putObj (w3.heap.size + 1) o := ⟨_, rfl⟩
      rw [← hW4] at hR4 hD2
      rw [← hW4]
      clear hW4
      obtain ⟨⟨A', hA', hs4⟩, hk4⟩ := hR4
      have hz03 := (hb3.block _ (blk_lt hz02)).trans hz02
      have hz13 := (hb3.block _ (blk_lt hz12)).trans hz12
      have hD3 := (hb3.block _ (blk_lt hD)).trans hD
      have hz04 := hk4.blk hz03 (blk_lt hz03) (by intro e; have := Option.some.inj e; omega)
      have hz14 := hk4.blk hz13 (blk_lt hz13) (by intro e; have := Option.some.inj e; omega)
      have hD4 := hk4.blk hD3 (blk_lt hD3) (by intro e; have := Option.some.inj e; omega)
      obtain ⟨p0, p1⟩ := two_cell hz04
      obtain ⟨q0, q1⟩ := two_cell hz14
      have f0 : W4.frozen? ⟨w.heap.size, 0, none⟩ = false := by simp [World.frozen?, hz04]
      have f1 : W4.frozen? ⟨w.heap.size, 1, none⟩ = false := by simp [World.frozen?, hz04]
      gi_wp2
      obtain ⟨W5, hW5⟩ : ∃ W5, W5 = (W4.setCell ⟨w.heap.size, 0, none⟩ (.slice none 0 0)).setCell ⟨w.heap.size, 1, none⟩ (.slice none 0 0) := ⟨_, rfl⟩
      have ho5 : ∀ k, k ≠ w.heap.size → W5.heap[k]? = W4.heap[k]? := fun k hk => by rw [hW5, Below.heap_setCell _ _ _ _ (by intro e; apply hk; first | exact e | exact e.symm), Below.heap_setCell _ _ _ _ (by intro e; apply hk; first | exact e | exact e.symm)]
      have hz05 : W5.heap[w.heap.size]? = some box0 := by rw [hW5]; exact two_put1 (two_put0 hz04 _) _
      have hB5 : Below w.heap.size W4 W5 := by rw [hW5]; exact ((Below.refl _ _).setCell (p := ⟨w.heap.size, 0, none⟩) (Nat.le_refl _) _).setCell (p := ⟨w.heap.size, 1, none⟩) (Nat.le_refl _) _
      rw [← hW5]
      clear hW5
      have hw3l : w3.heap.size < W4.heap.size := blk_lt hD2
      have hw1l := blk_lt hD
      have hwl1 := hw1b.size
      have hD25 : W5.heap[w3.heap.size]? = some (.deferred (some [])) := (ho5 _ (by omega)).trans hD2
      have hD15 : W5.heap[w1.heap.size]? = some (.deferred (some [])) := (ho5 _ (by omega)).trans hD4
      have hs5 := (ho5 b (by omega)).trans hs4
      refine ⟨by simp, .inl ⟨_, _, rfl, run_takeDeferred hD25, ?_⟩⟩
      refine ⟨by simp, .inl ⟨_, _, rfl, run_takeDeferred ((World.putObj_heap_other (by omega)).trans hD15), ?_⟩⟩
      have hz06 : ((W5.putObj w3.heap.size (.deferred none)).putObj w1.heap.size (.deferred none)).heap[w.heap.size]? = some box0 := (World.putObj_heap_other (by omega)).trans ((World.putObj_heap_other (by omega)).trans hz05)
      obtain ⟨r0, r1⟩ := two_cell hz06
      refine ⟨press0, ?_, rfl, ⟨A', fun h => hA' (by omega), (World.putObj_heap_other (by omega)).trans ((World.putObj_heap_other (by omega)).trans hs5)⟩, ?_⟩
      · simp [results, Tryz.results90, go_sem, r0, r1]
      · have k1 : Keep w.heap.size (some b) w w1 := Keep.of_below hw1b _
        have k2 := k1.trans (hk2.mono hwl1)
        have h2 := k2.size
        have k3 := k2.trans ((Keep.of_below hb3 _).mono h2)
        have h3 := k3.size
        have k4 := k3.trans (hk4.mono h3)
        have k5 := k4.trans (Keep.of_below hB5 _)
        exact (k5.put _ (.inl h3)).put _ (.inl hwl1)
end Go.Proofs.YtfnibmcenjiodaaGreatDoor.M
namespace Go.Proofs.YtfnibmcenjiodaaGreatDoor.M
open Go.Sort Go.Shelf Go.RowKit Go.Maps Go.Proofs.YtfnibmcenjiodaaGreatDoorW.PrintWords Go.Proofs.YtfnibmcenjiodaaGreatDoorW.PrintLast Go.Proofs.YtfnibmcenjiodaaGreatDoorW.PrintMore
attribute [local go_sem] Oper.semAt_some
abbrev nilS : Value := .slice none 0 0
abbrev roll0 : Value := .agg #[nilS, nilS, nilS, nilS, nilS]
abbrev rbox0 : Obj := .cells #[nilS, nilS, nilS, nilS, nilS] 97 (0, 0)
theorem rising1 (w : World) : Calls Tryz.prog 196 #[nilS, .func (.func 197) #[] #[]] w fun e w' => e = .returned (.bool true) ∧ w' = w := by
  go_enter Tryz.func196, Tryz.ntmps196
  go_wp2
  refine wp_loop_rounds 1 ?_
  rw [rounds_succ]
  go_wp2
  go_ret
  exact ⟨rfl, rfl⟩
theorem rising2 (w : World) : Calls Tryz.prog 198 #[nilS, .func (.func 199) #[] #[]] w fun e w' => e = .returned (.bool true) ∧ w' = w := by
  go_enter Tryz.func198, Tryz.ntmps198
  go_wp2
  refine wp_loop_rounds 1 ?_
  rw [rounds_succ]
  go_wp2
  go_ret
  exact ⟨rfl, rfl⟩
theorem rising3 (w : World) : Calls Tryz.prog 200 #[nilS, .func (.func 201) #[] #[]] w fun e w' => e = .returned (.bool true) ∧ w' = w := by
  go_enter Tryz.func200, Tryz.ntmps200
  go_wp2
  refine wp_loop_rounds 1 ?_
  rw [rounds_succ]
  go_wp2
  go_ret
  exact ⟨rfl, rfl⟩
theorem indexS (f : Value) (w : World) : Calls Tryz.prog 245 #[nilS, f] w fun e w' => e = .returned (.int .i64 (-1)) ∧ w' = w := by
  go_enter Tryz.func245, Tryz.ntmps245
  go_wp2
  refine wp_loop_rounds 1 ?_
  rw [rounds_succ]
  go_wp2
  go_ret
  exact ⟨rfl, rfl⟩
theorem indexN (f : Value) (w : World) : Calls Tryz.prog 247 #[nilS, f] w fun e w' => e = .returned (.int .i64 (-1)) ∧ w' = w := by
  go_enter Tryz.func247, Tryz.ntmps247
  go_wp2
  refine wp_loop_rounds 1 ?_
  rw [rounds_succ]
  go_wp2
  go_ret
  exact ⟨rfl, rfl⟩
theorem containsS (f : Value) (w : World) : Calls Tryz.prog 203 #[nilS, f] w fun e w' => e = .returned (.bool false) ∧ w' = w := by
  go_enter Tryz.func203, Tryz.ntmps203
  go_wp2_with fail
  refine (indexS f w).mono ?_
  rintro e w1 ⟨rfl, rfl⟩
  go_wp2
  go_ret
  exact ⟨rfl, rfl⟩
theorem containsN (f : Value) (w : World) : Calls Tryz.prog 209 #[nilS, f] w fun e w' => e = .returned (.bool false) ∧ w' = w := by
  go_enter Tryz.func209, Tryz.ntmps209
  go_wp2_with fail
  refine (indexN f w).mono ?_
  rintro e w1 ⟨rfl, rfl⟩
  go_wp2
  go_ret
  exact ⟨rfl, rfl⟩
theorem tcheck1 (w : World) : Calls Tryz.prog 194 #[roll0] w fun e w' => e = .returned (.bool true) ∧ Below w.heap.size w w' := by
  go_enter Tryz.func194, Tryz.ntmps194
  go_wp2
  go_ret
  exact ⟨rfl, below1 _ _⟩
theorem tcheck2 (w : World) : Calls Tryz.prog 195 #[roll0] w fun e w' => e = .returned (.bool true) ∧ Below w.heap.size w w' := by
  go_enter Tryz.func195, Tryz.ntmps195
  go_wp2_with fail
  refine (rising1 _).mono ?_
  rintro e w1 ⟨rfl, rfl⟩
  go_wp2_with fail
  refine (rising2 _).mono ?_
  rintro e w1 ⟨rfl, rfl⟩
  go_wp2_with fail
  refine (rising3 _).mono ?_
  rintro e w1 ⟨rfl, rfl⟩
  go_wp2
  go_ret
  exact ⟨rfl, below1 _ _⟩
theorem tcheck3 (w : World) : Calls Tryz.prog 202 #[roll0] w fun e w' => e = .returned (.bool true) ∧ Below w.heap.size w w' := by
  go_enter Tryz.func202, Tryz.ntmps202
  go_wp2_with fail
  refine (containsS _ _).mono ?_
  rintro e w1 ⟨rfl, rfl⟩
  go_wp2
  go_ret
  exact ⟨rfl, below1 _ _⟩
theorem tcheck4 (w : World) : Calls Tryz.prog 208 #[roll0] w fun e w' => e = .returned (.bool true) ∧ Below w.heap.size w w' := by
  go_enter Tryz.func208, Tryz.ntmps208
  go_wp2_with fail
  refine (containsN _ _).mono ?_
  rintro e w1 ⟨rfl, rfl⟩
  go_wp2
  go_ret
  exact ⟨rfl, below1 _ _⟩
abbrev tfuns : Value := .agg #[.func (.func 194) #[] #[], .func (.func 195) #[] #[], .func (.func 202) #[] #[], .func (.func 208) #[] #[]]
theorem tchecks_calls (w : World) : Calls Tryz.prog 139 #[] w fun e w' => e = .returned tfuns ∧ Below w.heap.size w w' := by
  go_enter Tryz.func139, Tryz.ntmps139
  go_wp2
  refine bodyPost_ret (v := tfuns) (by simp [results, Tryz.results139, go_sem]) rfl ⟨rfl, below1 _ _⟩
theorem five_cell {w : World} {b : Nat} (h : w.heap[b]? = some rbox0) : w.cell? ⟨b, 0, none⟩ = some nilS ∧ w.cell? ⟨b, 1, none⟩ = some nilS ∧ w.cell? ⟨b, 2, none⟩ = some nilS ∧ w.cell? ⟨b, 3, none⟩ = some nilS ∧ w.cell? ⟨b, 4, none⟩ = some nilS := by
  refine ⟨?_, ?_, ?_, ?_, ?_⟩ <;> simp [World.cell?, h]
set_option maxHeartbeats 1000000 in
theorem tCheck_none (w : World) : Calls Tryz.prog 94 #[roll0] w fun e w' => e = .returned (.int .i64 0) ∧ Below w.heap.size w w' := by
  have i0 : ∀ w, (Instr.index 232 tfuns (.int .i64 0)).run Tryz.prog w = .ok (.agg #[.func (.func 194) #[] #[]]) w := fun _ => by kernel_rfl
  have i1 : ∀ w, (Instr.index 232 tfuns (.int .i64 1)).run Tryz.prog w = .ok (.agg #[.func (.func 195) #[] #[]]) w := fun _ => by kernel_rfl
  have i2 : ∀ w, (Instr.index 232 tfuns (.int .i64 2)).run Tryz.prog w = .ok (.agg #[.func (.func 202) #[] #[]]) w := fun _ => by kernel_rfl
  have i3 : ∀ w, (Instr.index 232 tfuns (.int .i64 3)).run Tryz.prog w = .ok (.agg #[.func (.func 208) #[] #[]]) w := fun _ => by kernel_rfl
  go_enter Tryz.func94, Tryz.ntmps94
  go_wp2_with fail
  refine (pCheck_none _).mono ?_
  rintro e w0 ⟨rfl, hb0⟩
  have hx0 := Lib.hid (blk_below (blk_new w rbox0) hb0)
  have HB0 := Lib.hid (below_step (below1 w rbox0) hb0)
  clear hb0
  go_wp2_with fail
  refine (tchecks_calls _).mono ?_
  rintro e w1 ⟨rfl, hb⟩
  have hx1 := Lib.hid (blk_below hx0.out hb)
  have HB1 := Lib.hid (below_step HB0.out hb)
  obtain ⟨hc1, hc2, hc3, hc4, hc5⟩ := five_cell hx1.out
  have hz1 := blk_lt hx1.out
  clear hb
  go_wp2
  refine wp_loop_rounds 5 ?_
  rw [rounds_succ]
  go_wp2_with fail
  refine (tcheck1 _).mono ?_
  rintro e w2 ⟨rfl, hb2⟩
  have hx2 := Lib.hid (blk_below (blk_alloc hx1.out _) hb2)
  have HB2 := Lib.hid (below_step (below_alloc HB1.out _) hb2)
  clear hb2 hc1 hc2 hc3 hc4 hc5 hz1
  obtain ⟨hc1, hc2, hc3, hc4, hc5⟩ := five_cell hx2.out
  have hz2 := blk_lt hx2.out
  go_wp2
  rw [rounds_succ]
  go_wp2_with fail
  refine (tcheck2 _).mono ?_
  rintro e w3 ⟨rfl, hb3⟩
  have hx3 := Lib.hid (blk_below (blk_alloc hx2.out _) hb3)
  have HB3 := Lib.hid (below_step (below_alloc HB2.out _) hb3)
  clear hb3 hc1 hc2 hc3 hc4 hc5 hz2
  obtain ⟨hc1, hc2, hc3, hc4, hc5⟩ := five_cell hx3.out
  have hz3 := blk_lt hx3.out
  go_wp2
  rw [rounds_succ]
  go_wp2_with fail
  refine (tcheck3 _).mono ?_
  rintro e w4 ⟨rfl, hb4⟩
  have hx4 := Lib.hid (blk_below (blk_alloc hx3.out _) hb4)
  have HB4 := Lib.hid (below_step (below_alloc HB3.out _) hb4)
  clear hb4 hc1 hc2 hc3 hc4 hc5 hz3
  obtain ⟨hc1, hc2, hc3, hc4, hc5⟩ := five_cell hx4.out
  have hz4 := blk_lt hx4.out
  go_wp2
  rw [rounds_succ]
  go_wp2_with fail
  refine (tcheck4 _).mono ?_
  rintro e w5 ⟨rfl, hb5⟩
  have HB5 := Lib.hid (below_step (below_alloc HB4.out _) hb5)
  clear hb5 hc1 hc2 hc3 hc4 hc5 hz4
  go_wp2
  rw [rounds_succ]
  go_wp2
  go_ret
  exact ⟨rfl, HB5.out⟩
end Go.Proofs.YtfnibmcenjiodaaGreatDoor.M
namespace Go.Proofs.YtfnibmcenjiodaaGreatDoor.M
open Go.Sort Go.Shelf Go.RowKit Go.Maps Go.Proofs.YtfnibmcenjiodaaGreatDoorW.PrintWords Go.Proofs.YtfnibmcenjiodaaGreatDoorW.PrintLast Go.Proofs.YtfnibmcenjiodaaGreatDoorW.PrintMore
attribute [local go_sem] Oper.semAt_some
abbrev dashes5 : ByteArray := ⟨#[45, 45, 45, 45, 45]⟩
theorem open_dashes : openR dashes5 = some [0, 0, 0, 0, 0] := by rfl
theorem caughtIn_idle (n : Nat) (p : Addr) (w : World) :
    CallsDIn Fence.wide n Tryz.prog 86 #[.pointer (some p)] .returning w fun e u' w' => e = .returned (.tuple #[]) ∧ u' = .returning ∧ w' = w := by
  refine callsDIn_of_wpSIn Tryz.func86 rfl trivial fun c₀ cs hu => ?_
  apply wpSIn_seq
  apply wpSIn_region
  simp [wpOpsSIn, go_sem, recoverD, hu, Tryz.ntmps86, Exit.thenS]
  refine wpSIn_of_wpIn rfl ?_
  simp only [Array.replicate_succ, Array.replicate_zero, List.push_toArray, List.append_toArray, List.nil_append, List.cons_append, List.setIfInBounds_toArray, List.set_cons_succ, List.set_cons_zero]
  gi_wp2
  cases c₀
  simp_all [bodyPostS, results, Tryz.results86]
theorem five_free {w : World} {b : Nat} (h : w.heap[b]? = some rbox0) : w.frozen? ⟨b, 0, none⟩ = false ∧ w.frozen? ⟨b, 1, none⟩ = false ∧ w.frozen? ⟨b, 2, none⟩ = false ∧ w.frozen? ⟨b, 3, none⟩ = false ∧ w.frozen? ⟨b, 4, none⟩ = false := by
  refine ⟨?_, ?_, ?_, ?_, ?_⟩ <;> simp [World.frozen?, h]
structure RF (w : World) (g tb xb : Nat) (Ds : List Nat) (W : World) : Prop where
  z0 : W.heap[w.heap.size]? = some rbox0
  z1 : W.heap[w.heap.size + 1]? = some (.cells #[.int .i64 0] 28 (0, 0))
  row : ∀ j, j < 5 → W.cell? ⟨g, j, none⟩ = some (.int .i64 0)
  x : W.heap[xb]? = some rbox0
  ds : ∀ D ∈ Ds, W.heap[D]? = some (.deferred (some []))
  below : Below w.heap.size w W
  o1 : w.heap.size + 2 ≤ g
  o2 : g < tb
  o3 : tb < xb
  o4 : ∀ D ∈ Ds, xb < D
theorem RF.keep {w : World} {g tb xb : Nat} {Ds : List Nat} {W W' : World} (h : RF w g tb xb Ds W) (hk : Keep W.heap.size (some tb) W W') : RF w g tb xb Ds W' := by
  have ne : ∀ k, k ≠ tb → some k ≠ some tb := fun k hk e => hk (Option.some.inj e)
  have h1 := h.o1
  have h2 := h.o2
  have h3 := h.o3
  refine ⟨hk.blk h.z0 (blk_lt h.z0) (ne _ (by omega)), hk.blk h.z1 (blk_lt h.z1) (ne _ (by omega)), fun j hj => hk.cell (h.row j hj) (World.block_lt_of_cell? _ _ (h.row j hj)) (ne _ (by show g ≠ tb; omega)), hk.blk h.x (blk_lt h.x) (ne _ (by omega)), fun D hD => hk.blk (h.ds D hD) (blk_lt (h.ds D hD)) (ne _ (by have := h.o4 D hD; omega)), ?_, h.o1, h.o2, h.o3, h.o4⟩
  exact h.below.trans (hk.lose h.below.size (fun k e => by cases e; omega))
theorem RF.mark {w : World} {g tb xb : Nat} {Ds : List Nat} {W : World} (h : RF w g tb xb Ds W) {D : Nat} (hD : W.heap[D]? = some (.deferred (some []))) (hx : xb < D) : RF w g tb xb (D :: Ds) W :=
  ⟨h.z0, h.z1, h.row, h.x, fun E hE => by
    rcases List.mem_cons.1 hE with rfl | hE
    · exact hD
    · exact h.ds E hE, h.below, h.o1, h.o2, h.o3, fun E hE => by
    rcases List.mem_cons.1 hE with rfl | hE
    · exact hx
    · exact h.o4 E hE⟩
set_option maxRecDepth 100000 in
set_option maxHeartbeats 4000000 in
theorem wire_ToRoll_none (w : World) : Calls Tryz.prog 52 #[.string dashes5] w fun e w' => e = .returned (.tuple #[roll0, .int .i64 0]) ∧ Below w.heap.size w w' := by
  refine (callsIn_wide (n := 12)).1 ?_
  refine callsIn_of_wp_marks Tryz.func52 rfl trivial ?_ rfl
  simp only [Tryz.ntmps52, List.size_toArray, List.length_cons, List.length_nil, Nat.reduceAdd, Nat.reduceSub, Array.replicate_succ, Array.replicate_zero, List.push_toArray, List.append_toArray, List.nil_append, List.cons_append]
  gi_wp2_with fail
  obtain ⟨wB, hwB⟩ : ∃ wB, wB = (w.alloc rbox0).alloc (.cells #[.int .i64 0] 28) := ⟨_, rfl⟩
  have hz0 : wB.heap[w.heap.size]? = some rbox0 := by rw [hwB]; exact blk_alloc (blk_new w _) _
  have hz1 : wB.heap[w.heap.size + 1]? = some (.cells #[.int .i64 0] 28 (0, 0)) := by rw [hwB]; exact blk_new1 w _ _
  have hbB : Below w.heap.size w wB := by rw [hwB]; exact below2 _ _ _
  have hsB : wB.heap.size = w.heap.size + 2 := by rw [hwB]; simp
  rw [← hwB]
  clear hwB
  refine ⟨trivial, ?_⟩
  refine (callsIn_wide.2 (opened_calls dashes5 (by decide) _)).mono ?_
  rintro e w1 ⟨hb1, ⟨l, v, hl, rfl, hown⟩ | ⟨hn, rfl⟩⟩
  case inr => rw [open_dashes] at hn; cases hn
  rw [open_dashes] at hl
  obtain rfl := Option.some.inj hl
  clear hl
  dsimp only
  obtain ⟨g, cap, rfl, hgb, hcap, hcapm⟩ : ∃ g cap, v = .slice (some ⟨g, 0, none⟩) 5 cap ∧ wB.heap.size ≤ g ∧ 5 ≤ cap ∧ cap ≤ maxLen := by
    rcases hown.2 with ⟨_, h⟩ | ⟨g, cap, cur, h1, h2, h3, h4, h5, _⟩
    · cases h
    · exact ⟨g, cap, h1, h2, h4, h5⟩
  have hcr : ∀ j, j < 5 → w1.cell? ⟨g, j, none⟩ = some (.int .i64 0) := fun j hj => by
    have h := hown.cells (g := g) rfl j (.int .i64 0) (by
      match j, hj with
      | 0, _ => rfl
      | 1, _ => rfl
      | 2, _ => rfl
      | 3, _ => rfl
      | 4, _ => rfl)
    match j, hj with
    | 0, _ => exact h
    | 1, _ => exact h
    | 2, _ => exact h
    | 3, _ => exact h
    | 4, _ => exact h
  have hgl : g < w1.heap.size := World.block_lt_of_cell? _ _ (hcr 0 (by decide))
  unfold maxLen at hcapm
  clear hown
  have hz01 := (hb1.block _ (blk_lt hz0)).trans hz0
  have hz11 := (hb1.block _ (blk_lt hz1)).trans hz1
  have hw1b : Below w.heap.size w w1 := hbB.trans (hb1.mono (by omega))
  have hw1s := hb1.size
  gi_wp2_with fail
  obtain ⟨w2, hw2⟩ : ∃ w2, w2 = w1.alloc (.cells #[.slice (some ⟨g, 0, none⟩) 5 cap] 163) := ⟨_, rfl⟩
  have hb2 : Below w1.heap.size w1 w2 := by rw [hw2]; exact below1 _ _
  have hs2 : Sheet w1.heap.size ⟨g, 0, none⟩ 5 cap w2 := by rw [hw2]; exact blk_new w1 _
  rw [← hw2]
  clear hw2
  have hcr2 : ∀ j, j < 5 → w2.cell? ⟨g, j, none⟩ = some (.int .i64 0) := fun j hj => (World.cell?_of_block (hb2.block g hgl)).trans (hcr j hj)
  refine ⟨trivial, ?_⟩
  refine (callsIn_wide.2 (press_none w1.heap.size ⟨g, 0, none⟩ 3 cap (by omega) (by omega) w2 hs2 (hcr2 0 (by decide)) (by simpa [Addr.add] using hcr2 1 (by decide)) (by show g ≠ _; omega))).mono ?_
  rintro e w3 ⟨rfl, ⟨A', hA', hs3⟩, hk3⟩
  have hA := hA' (by omega)
  have hA2 : A' = ⟨g, 2, none⟩ := by rw [hA]; simp [Addr.add]
  subst hA2
  clear hA hA'
  dsimp only
  obtain ⟨W4, hW4⟩ : ∃ W4, W4 = w3.alloc rbox0 := ⟨_, rfl⟩
  have hb4 : Below w3.heap.size w3 W4 := by rw [hW4]; exact below1 _ _
  have hx4 : W4.heap[w3.heap.size]? = some rbox0 := by rw [hW4]; exact blk_new w3 _
  have z1 := hb2.size
  have z2 := hk3.size
  have hw1l := blk_lt hs2
  have F4 : RF w g w1.heap.size w3.heap.size [] W4 := by
    have k2 : Keep w1.heap.size (some w1.heap.size) w1 W4 := (Keep.of_below hb2 _).trans ((hk3.mono z1).trans (Keep.of_below (hb4.mono (by omega)) _))
    have ne : ∀ k, k < w1.heap.size → some k ≠ some w1.heap.size := fun k hk e => by have := Option.some.inj e; omega
    refine ⟨k2.blk hz01 (blk_lt hz01) (ne _ (blk_lt hz01)), k2.blk hz11 (blk_lt hz11) (ne _ (blk_lt hz11)), fun j hj => k2.cell (hcr j hj) hgl (ne _ hgl), hx4, fun D hD => (by cases hD), hw1b.trans (k2.lose hw1b.size (fun k e => by cases e; exact hw1b.size)), by omega, by omega, by omega, fun D hD => (by cases hD)⟩
  have s4 : Sheet w1.heap.size ⟨g, 2, none⟩ 3 (cap - 2) W4 := (hb4.block _ (blk_lt hs3)).trans hs3
  have z4 := hb4.size
  have z4x := blk_lt hx4
  gi_wp2_with fail
  rw [← hW4]
  clear hW4
  refine ⟨trivial, ?_⟩
  refine (callsIn_wide.2 (rows_calls w1.heap.size 1 _)).mono ?_
  rintro e V1 ⟨rfl, hV1⟩
  have hbV1 : Below W4.heap.size W4 V1 := by rw [hV1]; exact below2 _ _ _
  have hpV1 : V1.heap[W4.heap.size]? = some (.cells #[.pointer (some ⟨w1.heap.size, 0, none⟩)] 227 (0, 0)) := by rw [hV1]; exact blk_alloc (blk_new W4 _) _
  clear hV1
  have FV1 := F4.keep (Keep.of_below hbV1 _)
  have sV1 := (hbV1.block _ (blk_lt s4)).trans s4
  have zV1 := hbV1.size
  dsimp only
  gi_wp2_with fail
  refine wpIn_rangeFunc_calm rfl (by decide) (gf := 141) (lb := #[.pointer (some ⟨W4.heap.size, 0, none⟩), .pointer (some ⟨W4.heap.size + 1, 0, none⟩)]) rfl trivial (enters_of Tryz.func141 (by kernel_rfl) rfl) (RowsOut w1.heap.size ⟨g, 2, none⟩ 2 (cap - 2) V1)
    (fun l W1 hW1 _ => rows0_out l w1.heap.size _ _ ⟨g, 2, none⟩ 2 (cap - 2) (by omega) (by omega) V1 W1 sV1 hpV1 (FV1.row 2 (by decide)) (by show g ≠ _; omega) hW1) ?d1
  case d1 =>
    intro X1 o1 hR1 hD1
    have hRp := hR1.put (blk_lt sV1) (Nat.le_succ _) o1
    obtain ⟨Y1, hY1⟩ : ∃ Y1, Y1 = X1.putObj (V1.heap.size + 1) o1 := ⟨_, rfl⟩
    rw [← hY1] at hRp hD1
    rw [← hY1]
    clear hY1 hR1
    obtain ⟨⟨A1, hA1, sY1⟩, hkY1⟩ := hRp
    obtain rfl : A1 = ⟨g, 3, none⟩ := by rw [hA1 (by omega)]; simp [Addr.add]
    clear hA1
    have FY1 := (FV1.keep hkY1).mark hD1 (by omega)
    have zY1 := hkY1.size
    gi_wp2_with fail
    refine ⟨trivial, ?_⟩
    refine (callsIn_wide.2 (rows_calls w1.heap.size 2 _)).mono ?_
    rintro e V2 ⟨rfl, hV2⟩
    have hbV2 : Below Y1.heap.size Y1 V2 := by rw [hV2]; exact below2 _ _ _
    have hpV2 : V2.heap[Y1.heap.size]? = some (.cells #[.pointer (some ⟨w1.heap.size, 0, none⟩)] 227 (0, 0)) := by rw [hV2]; exact blk_alloc (blk_new Y1 _) _
    clear hV2
    have FV2 := FY1.keep (Keep.of_below hbV2 _)
    have sV2 := (hbV2.block _ (blk_lt sY1)).trans sY1
    have zV2 := hbV2.size
    dsimp only
    gi_wp2_with fail
    refine wpIn_rangeFunc_calm rfl (by decide) (gf := 141) (lb := #[.pointer (some ⟨Y1.heap.size, 0, none⟩), .pointer (some ⟨Y1.heap.size + 1, 0, none⟩)]) rfl trivial (enters_of Tryz.func141 (by kernel_rfl) rfl) (RowsOut w1.heap.size ⟨g, 3, none⟩ 1 (cap - 2 - 1) V2)
      (fun l W1 hW1 _ => rows0_out l w1.heap.size _ _ ⟨g, 3, none⟩ 1 (cap - 2 - 1) (by omega) (by omega) V2 W1 sV2 hpV2 (FV2.row 3 (by decide)) (by show g ≠ _; omega) hW1) ?d2
    case d2 =>
      intro X2 o2 hR2 hD2
      have hRp := hR2.put (blk_lt sV2) (Nat.le_succ _) o2
      obtain ⟨Y2, hY2⟩ : ∃ Y2, Y2 = X2.putObj (V2.heap.size + 1) o2 := ⟨_, rfl⟩
      rw [← hY2] at hRp hD2
      rw [← hY2]
      clear hY2 hR2
      obtain ⟨⟨A2, hA2, sY2⟩, hkY2⟩ := hRp
      obtain rfl : A2 = ⟨g, 4, none⟩ := by rw [hA2 (by omega)]; simp [Addr.add]
      clear hA2
      have FY2 := (FV2.keep hkY2).mark hD2 (by omega)
      have zY2 := hkY2.size
      gi_wp2_with fail
      refine ⟨trivial, ?_⟩
      refine (callsIn_wide.2 (rows_calls w1.heap.size 7 _)).mono ?_
      rintro e V3 ⟨rfl, hV3⟩
      have hbV3 : Below Y2.heap.size Y2 V3 := by rw [hV3]; exact below2 _ _ _
      have hpV3 : V3.heap[Y2.heap.size]? = some (.cells #[.pointer (some ⟨w1.heap.size, 0, none⟩)] 227 (0, 0)) := by rw [hV3]; exact blk_alloc (blk_new Y2 _) _
      clear hV3
      have FV3 := FY2.keep (Keep.of_below hbV3 _)
      have sV3 := (hbV3.block _ (blk_lt sY2)).trans sY2
      have zV3 := hbV3.size
      dsimp only
      gi_wp2_with fail
      refine wpIn_rangeFunc_calm rfl (by decide) (gf := 141) (lb := #[.pointer (some ⟨Y2.heap.size, 0, none⟩), .pointer (some ⟨Y2.heap.size + 1, 0, none⟩)]) rfl trivial (enters_of Tryz.func141 (by kernel_rfl) rfl) (RowsOut w1.heap.size ⟨g, 4, none⟩ 0 (cap - 2 - 1 - 1) V3)
        (fun l W1 hW1 _ => rows0_out l w1.heap.size _ _ ⟨g, 4, none⟩ 0 (cap - 2 - 1 - 1) (by omega) (by omega) V3 W1 sV3 hpV3 (FV3.row 4 (by decide)) (by show g ≠ _; omega) hW1) ?d3
      case d3 =>
        intro X3 o3 hR3 hD3
        have hRp := hR3.put (blk_lt sV3) (Nat.le_succ _) o3
        obtain ⟨Y3, hY3⟩ : ∃ Y3, Y3 = X3.putObj (V3.heap.size + 1) o3 := ⟨_, rfl⟩
        rw [← hY3] at hRp hD3
        rw [← hY3]
        clear hY3 hR3
        obtain ⟨⟨A3, hA3, sY3⟩, hkY3⟩ := hRp
        have FY3 := (FV3.keep hkY3).mark hD3 (by omega)
        have zY3 := hkY3.size
        have cS := box_cell sY3
        obtain ⟨c0, c1, c2, c3, c4⟩ := five_cell FY3.x
        gi_wp2_with fail
        refine ⟨trivial, ?_⟩
        refine (callsIn_wide.2 (tCheck_none _)).mono ?_
        rintro e w6 ⟨rfl, hb6⟩
        have F6 := FY3.keep (Keep.of_below hb6 _)
        have s6 := (hb6.block _ (blk_lt sY3)).trans sY3
        clear cS c0 c1 c2 c3 c4
        dsimp only
        gi_wp2_with fail
        refine ⟨trivial, ?_⟩
        refine (callsIn_wide.2 (must_true _)).mono ?_
        rintro e w7 ⟨rfl, rfl⟩
        dsimp only
        obtain ⟨c0, c1, c2, c3, c4⟩ := five_cell F6.x
        obtain ⟨p0, p1, p2, p3, p4⟩ := five_cell F6.z0
        obtain ⟨f0, f1, f2, f3, f4⟩ := five_free F6.z0
        have e0 := box_cell F6.z1
        have ef := box_free F6.z1
        gi_wp2
        obtain ⟨W9, hW9⟩ : ∃ W9, W9 = (((((w7.setCell ⟨w.heap.size, 0, none⟩ (.slice none 0 0)).setCell ⟨w.heap.size, 1, none⟩ (.slice none 0 0)).setCell ⟨w.heap.size, 2, none⟩ (.slice none 0 0)).setCell ⟨w.heap.size, 3, none⟩ (.slice none 0 0)).setCell ⟨w.heap.size, 4, none⟩ (.slice none 0 0)).setCell ⟨w.heap.size + 1, 0, none⟩ (.int .i64 0) := ⟨_, rfl⟩
        have hne : ∀ (W : World) (j k : Nat) (v : Value) (b : Nat), k ≠ b → (W.setCell ⟨b, j, none⟩ v).heap[k]? = W.heap[k]? := fun W j k v b hk => Below.heap_setCell _ _ _ _ (by intro e; apply hk; first | exact e | exact e.symm)
        have ho9 : ∀ k, k ≠ w.heap.size → k ≠ w.heap.size + 1 → W9.heap[k]? = w7.heap[k]? := fun k h1 h2 => by rw [hW9, hne _ _ _ _ _ h2, hne _ _ _ _ _ h1, hne _ _ _ _ _ h1, hne _ _ _ _ _ h1, hne _ _ _ _ _ h1, hne _ _ _ _ _ h1]
        have h09 : W9.heap[w.heap.size]? = some rbox0 := by
          rw [hW9, hne _ _ _ _ _ (by omega)]
          simp [World.setCell, Array.getElem?_modify, F6.z0]
        have h19 : W9.heap[w.heap.size + 1]? = some (.cells #[.int .i64 0] 28 (0, 0)) := by
          rw [hW9]
          exact box_put (v := .int .i64 0) (by rw [hne _ _ _ _ _ (by omega), hne _ _ _ _ _ (by omega), hne _ _ _ _ _ (by omega), hne _ _ _ _ _ (by omega), hne _ _ _ _ _ (by omega)]; exact F6.z1) _
        have hB9 : Below w.heap.size w W9 := by
          rw [hW9]
          exact (((((F6.below.setCell (p := ⟨w.heap.size, 0, none⟩) (Nat.le_refl _) _).setCell (p := ⟨w.heap.size, 1, none⟩) (Nat.le_refl _) _).setCell (p := ⟨w.heap.size, 2, none⟩) (Nat.le_refl _) _).setCell (p := ⟨w.heap.size, 3, none⟩) (Nat.le_refl _) _).setCell (p := ⟨w.heap.size, 4, none⟩) (Nat.le_refl _) _).setCell (p := ⟨w.heap.size + 1, 0, none⟩) (Nat.le_succ _) _
        rw [← hW9]
        clear hW9
        have o1 := F6.o1
        have o2 := F6.o2
        have o3 := F6.o3
        have d3 := F6.ds V3.heap.size (by simp)
        have d2 := F6.ds V2.heap.size (by simp)
        have d1 := F6.ds V1.heap.size (by simp)
        have l3 := F6.o4 V3.heap.size (by simp)
        have l2 := F6.o4 V2.heap.size (by simp)
        have l1 := F6.o4 V1.heap.size (by simp)
        have q3 := (ho9 V3.heap.size (by omega) (by omega)).trans d3
        have q2 := (ho9 V2.heap.size (by omega) (by omega)).trans d2
        have q1 := (ho9 V1.heap.size (by omega) (by omega)).trans d1
        have n12 : V1.heap.size < V2.heap.size := by
          have := blk_lt hD1
          omega
        have n23 : V2.heap.size < V3.heap.size := by
          have := blk_lt hD2
          omega
        refine ⟨by simp, .inl ⟨_, _, rfl, run_takeDeferred q3, ?_⟩⟩
        refine ⟨by simp, .inl ⟨_, _, rfl, run_takeDeferred ((World.putObj_heap_other (by omega)).trans q2), ?_⟩⟩
        refine ⟨by simp, .inl ⟨_, _, rfl, run_takeDeferred ((World.putObj_heap_other (by omega)).trans ((World.putObj_heap_other (by omega)).trans q1)), ?_⟩⟩
        refine ⟨by simp, .inr ⟨fun h => (by cases h), .func 86, #[], 86, #[.pointer (some ⟨w.heap.size + 1, 0, none⟩)], rfl, by simp [go_sem], fun _ _ => trivial, ?_⟩⟩
        refine (caughtIn_idle _ _ _).mono ?_
        rintro e u' w'' ⟨rfl, rfl, rfl⟩
        have g0 := (World.putObj_heap_other (o := .deferred none) (show w.heap.size ≠ V1.heap.size by omega)).trans ((World.putObj_heap_other (o := .deferred none) (show w.heap.size ≠ V2.heap.size by omega)).trans ((World.putObj_heap_other (o := .deferred none) (show w.heap.size ≠ V3.heap.size by omega)).trans h09))
        have g1 := (World.putObj_heap_other (o := .deferred none) (show w.heap.size + 1 ≠ V1.heap.size by omega)).trans ((World.putObj_heap_other (o := .deferred none) (show w.heap.size + 1 ≠ V2.heap.size by omega)).trans ((World.putObj_heap_other (o := .deferred none) (show w.heap.size + 1 ≠ V3.heap.size by omega)).trans h19))
        obtain ⟨r0, r1, r2, r3, r4⟩ := five_cell g0
        have re := box_cell g1
        refine ⟨.tuple #[roll0, .int .i64 0], ?_, rfl, below_put' (below_put' (below_put' hB9 (by omega)) (by omega)) (by omega)⟩
        simp [results, Tryz.results52, go_sem, r0, r1, r2, r3, r4, re]
end Go.Proofs.YtfnibmcenjiodaaGreatDoor.M
namespace Go.Proofs.YtfnibmcenjiodaaGreatDoor.L
open Go.Sort Go.Shelf Go.RowKit Go.Proofs.YtfnibmcenjiodaaGreatDoorW.PrintWords Go.Proofs.YtfnibmcenjiodaaGreatDoorW.PrintLast Go.Proofs.YtfnibmcenjiodaaGreatDoorW.PrintMore
open Go.Proofs.YtfnibmcenjiodaaGreatDoor.M Go.Proofs.YtfnibmcenjiodaaGreatDoor.R Go.Proofs.YtfnibmcenjiodaaGreatDoor.N
attribute [local go_sem] Oper.semAt_some
theorem C_lit_int (w : World) (l : List Int) (t : TypeId) (h : l.length ≤ 100) : Kd.C (Kd.int .i64) (w.alloc (.cells (l.map (Value.int .i64)).toArray t)) (some ⟨w.heap.size, 0, none⟩) l.length l :=
  Kd.C_of_reads (d := (0 : Int)) (h1 := fun _ => rfl) ⟨rfl, by omega, fun _ => ⟨_, rfl, fun j hj => by
    rw [add_none, Nat.zero_add]
    have e : (w.alloc (.cells (l.map (Value.int .i64)).toArray t)).cell? ⟨w.heap.size, j, none⟩ = (l.map (Value.int .i64)).toArray[j]? := by
      unfold World.cell?
      rw [blk_new]; rfl
    rw [e]; simp [hj]⟩⟩
theorem C_lit_str (w : World) (l : List ByteArray) (t : TypeId) (h : l.length ≤ 100) : Kd.C Kd.string (w.alloc (.cells (l.map Value.string).toArray t)) (some ⟨w.heap.size, 0, none⟩) l.length l :=
  Kd.C_of_reads (d := ByteArray.empty) (h1 := fun _ => rfl) ⟨rfl, by omega, fun _ => ⟨_, rfl, fun j hj => by
    rw [add_none, Nat.zero_add]
    have e : (w.alloc (.cells (l.map Value.string).toArray t)).cell? ⟨w.heap.size, j, none⟩ = (l.map Value.string).toArray[j]? := by
      unfold World.cell?
      rw [blk_new]; rfl
    rw [e]; simp [hj]⟩⟩
theorem one_sz : ∀ x ∈ oneW, x.size ≤ 9223372036854775807 := fun x hx => by have := codeOk_words one_ok x hx; omega
theorem two_sz : ∀ x ∈ twoW, x.size ≤ 9223372036854775807 := fun x hx => by have := codeOk_words two_ok x hx; omega
set_option maxRecDepth 100000 in
set_option maxHeartbeats 8000000 in
theorem alive_calls (w : World) : Calls Tryz.prog 26 #[] w fun e w' => e = .returned (.bool true) ∧ Below w.heap.size w w' := by
  go_enter Tryz.func26, Tryz.ntmps26
  go_wp2_with fail
  refine (oilcakelaw11_one.calls oneW _ rfl).mono ?_
  rintro e w1 ⟨v1, rfl, hR1, hb1⟩
  have HB1 := Lib.hid (below_step (Below.refl w.heap.size w) hb1)
  obtain ⟨A1, c1, rfl, hc1, hC1⟩ := Kd.R_reads hR1
  have HC1 := Lib.hid hC1
  clear hR1 hC1
  clear hb1
  go_wp2_with fail
  refine (S.wire_Share.calls 100 A1 c1 oneW 1 1 0 _ HC1.out hc1 one_share).mono ?_
  rintro e w2 ⟨rfl, hb2⟩
  have HB2 := Lib.hid (below_step (HB1.out) hb2)
  clear HB1
  clear hb2
  clear HC1 hc1
  go_wp2_with fail
  refine (oilcakelaw11_one.calls oneW _ rfl).mono ?_
  rintro e w3 ⟨v3, rfl, hR3, hb3⟩
  have HB3 := Lib.hid (below_step (below_alloc (HB2.out) _) hb3)
  clear HB2
  have BP := Lib.hid (blk_below (blk_new w2 (.cells #[.int .i64 1, .int .i64 1] 61)) hb3)
  obtain ⟨A3, c3, rfl, hc3, hC3⟩ := Kd.R_reads hR3
  have HC3 := Lib.hid hC3
  clear hR3 hC3
  clear hb3
  go_wp2_with fail
  refine (wire_Send A3 c3 oneW (some ⟨w3.heap.size, 0, none⟩) 3 [1, 3, 2] _ (Kd.C_alloc HC3.out _) one_sz (C_lit_int w3 [1, 3, 2] 3 (by decide))).mono ?_
  rw [one_send]
  rintro e w4 ⟨rfl, hb4⟩
  have HB4 := Lib.hid (below_step (below_alloc (HB3.out) _) hb4)
  have BP4 := Lib.hid (blk_below (blk_alloc (BP.out) _) hb4)
  clear HB3
  clear hb4
  clear HC3 hc3
  go_wp2_with fail
  refine (oilcakelaw11_one.calls oneW _ rfl).mono ?_
  rintro e w5 ⟨v5, rfl, hR5, hb5⟩
  have HB5 := Lib.hid (below_step (HB4.out) hb5)
  have BP5 := Lib.hid (blk_below (BP4.out) hb5)
  clear BP4
  clear HB4
  obtain ⟨A5, c5, rfl, hc5, hC5⟩ := Kd.R_reads hR5
  have HC5 := Lib.hid hC5
  clear hR5 hC5
  clear hb5
  go_wp2_with fail
  refine (wire_Read A5 c5 oneW _ _ HC5.out one_sz (by decide)).mono ?_
  rw [one_read]
  rintro e w6 ⟨v6, rfl, ho6, hb6⟩
  have HB6 := Lib.hid (below_step (HB5.out) hb6)
  have BP6 := Lib.hid (blk_below (BP5.out) hb6)
  clear BP5
  clear HB5
  have hR6 : (Kd.int .i64).R 3 w6 _ (fun _ => True) v6 [1, 3, 2] := Kd.R_of_own ho6 (fun _ _ => trivial)
  obtain ⟨AR, cR, rfl, hcR, hCR⟩ := Kd.R_reads hR6
  have CR := Lib.hid hCR
  clear hR6 hCR ho6 HC5 hc5
  clear hb6
  go_wp2_with fail
  refine (oilcakelaw11_two.calls twoW _ rfl).mono ?_
  rintro e w7 ⟨v7, rfl, hR7, hb7⟩
  have HB7 := Lib.hid (below_step (HB6.out) hb7)
  have BP7 := Lib.hid (blk_below (BP6.out) hb7)
  clear BP6
  have CR7 := Lib.hid (Kd.C_below (CR.out) hb7)
  clear HB6
  obtain ⟨A7, c7, rfl, hc7, hC7⟩ := Kd.R_reads hR7
  have HC7 := Lib.hid hC7
  clear hR7 hC7
  clear hb7
  go_wp2_with fail
  refine (wire_Count A7 c7 twoW _ _ HC7.out two_sz (by decide)).mono ?_
  rw [two_count]
  rintro e w8 ⟨rfl, hb8⟩
  have HB8 := Lib.hid (below_step (HB7.out) hb8)
  have BP8 := Lib.hid (blk_below (BP7.out) hb8)
  clear BP7
  have CR8 := Lib.hid (Kd.C_below (CR7.out) hb8)
  clear CR7
  clear HB7
  clear hb8
  clear HC7 hc7
  go_wp2_with fail
  refine (oilcakelaw11_one.calls oneW _ rfl).mono ?_
  rintro e w9 ⟨v9, rfl, hR9, hb9⟩
  have HB9 := Lib.hid (below_step (HB8.out) hb9)
  have BP9 := Lib.hid (blk_below (BP8.out) hb9)
  clear BP8
  have CR9 := Lib.hid (Kd.C_below (CR8.out) hb9)
  clear CR8
  clear HB8
  obtain ⟨A9, c9, rfl, hc9, hC9⟩ := Kd.R_reads hR9
  have HC9 := Lib.hid hC9
  clear hR9 hC9
  clear hb9
  go_wp2_with fail
  refine (wire_Unique A9 c9 oneW _ HC9.out one_sz).mono ?_
  rintro e w10 ⟨b10, n10, rfl, hU10, hb10⟩
  have HB10 := Lib.hid (below_step (HB9.out) hb10)
  have BP10 := Lib.hid (blk_below (BP9.out) hb10)
  clear BP9
  have CR10 := Lib.hid (Kd.C_below (CR9.out) hb10)
  clear CR9
  clear HB9
  clear hb10
  have hu10 := (unique_eq hU10).symm
  rw [one_unique] at hu10
  obtain ⟨rfl, rfl⟩ := Prod.mk.inj hu10
  clear hu10 hU10 HC9 hc9
  go_wp2_with fail
  refine (oilcakelaw11_two.calls twoW _ rfl).mono ?_
  rintro e w11 ⟨v11, rfl, hR11, hb11⟩
  have HB11 := Lib.hid (below_step (HB10.out) hb11)
  have BP11 := Lib.hid (blk_below (BP10.out) hb11)
  clear BP10
  have CR11 := Lib.hid (Kd.C_below (CR10.out) hb11)
  clear CR10
  clear HB10
  obtain ⟨A11, c11, rfl, hc11, hC11⟩ := Kd.R_reads hR11
  have HC11 := Lib.hid hC11
  clear hR11 hC11
  clear hb11
  go_wp2_with fail
  refine (wire_Double A11 c11 twoW _ HC11.out two_sz).mono ?_
  rintro e w12 ⟨b12, n12, rfl, hU12, hb12⟩
  have HB12 := Lib.hid (below_step (HB11.out) hb12)
  have BP12 := Lib.hid (blk_below (BP11.out) hb12)
  clear BP11
  have CR12 := Lib.hid (Kd.C_below (CR11.out) hb12)
  clear CR11
  clear HB11
  clear hb12
  have hu12 := (double_eq hU12).symm
  rw [two_double] at hu12
  obtain ⟨rfl, rfl⟩ := Prod.mk.inj hu12
  clear hu12 hU12 HC11 hc11
  go_wp2_with fail
  refine (oilcakelaw11_one.calls oneW _ rfl).mono ?_
  rintro e w13 ⟨v13, rfl, hR13, hb13⟩
  have HB13 := Lib.hid (below_step (HB12.out) hb13)
  have BP13 := Lib.hid (blk_below (BP12.out) hb13)
  clear BP12
  have CR13 := Lib.hid (Kd.C_below (CR12.out) hb13)
  clear CR12
  clear HB12
  obtain ⟨A13, c13, rfl, hc13, hC13⟩ := Kd.R_reads hR13
  have HC13 := Lib.hid hC13
  clear hR13 hC13
  clear hb13
  go_wp2_with fail
  refine (S.wire_Cost.calls 100 A13 c13 oneW (some ⟨w13.heap.size, 0, none⟩) 3 [5, 2, 2] 13 0 _ (Kd.C_alloc HC13.out _) hc13 (C_lit_int w13 [5, 2, 2] 3 (by decide)) (by decide) one_cost).mono ?_
  rintro e w14 ⟨rfl, hb14⟩
  have HB14 := Lib.hid (below_step (below_alloc (HB13.out) _) hb14)
  have BP14 := Lib.hid (blk_below (blk_alloc (BP13.out) _) hb14)
  clear BP13
  have CR14 := Lib.hid (Kd.C_below (Kd.C_alloc (CR13.out) _) hb14)
  clear CR13
  clear HB13
  clear hb14
  clear HC13 hc13
  go_wp2_with fail
  refine (wire_Best (some ⟨w14.heap.size, 0, none⟩) 4 [5, 2, 2, 1] _ (C_lit_int w14 [5, 2, 2, 1] 3 (by decide)) (by decide)).mono ?_
  rw [best_is]
  rintro e w15 ⟨v15, rfl, ho15, hb15⟩
  have HB15 := Lib.hid (below_step (below_alloc (HB14.out) _) hb15)
  have BP15 := Lib.hid (blk_below (blk_alloc (BP14.out) _) hb15)
  clear BP14
  have CR15 := Lib.hid (Kd.C_below (Kd.C_alloc (CR14.out) _) hb15)
  clear CR14
  clear HB14
  have hR15 : Kd.string.R 9 w15 _ (fun _ => True) v15 [⟨#[45]⟩, ⟨#[46, 45]⟩, ⟨#[46, 46, 45]⟩, ⟨#[46, 46, 46]⟩] := Kd.R_of_own ho15 (fun _ _ => trivial)
  obtain ⟨AB, cB, rfl, hcB, hCB⟩ := Kd.R_reads hR15
  have CB := Lib.hid hCB
  clear hR15 hCB ho15
  clear hb15
  have cp0 : w15.cell? _ = _ := blk_cell (BP15.out) 0
  have cp1 : w15.cell? _ = _ := blk_cell (BP15.out) 1
  obtain ⟨X1, hX1⟩ : ∃ X1, X1 = w15.alloc (.cells #[.slice AB 4 cB] 24) := ⟨_, rfl⟩
  have hbx1 : Below w15.heap.size w15 X1 := by rw [hX1]; exact below1 _ _
  have hbb : X1.heap[w15.heap.size]? = some (.cells #[.slice AB 4 cB] 24 (0, 0)) := by rw [hX1]; exact blk_new _ _
  go_upto_region 9 with fail
  rw [← hX1]
  have HX1 := Lib.hid (below_step HB15.out hbx1)
  have CRx := Lib.hid (Kd.C_below CR15.out hbx1)
  have CBx := Lib.hid (Kd.C_below CB.out hbx1)
  have hbpx := blk_below BP15.out hbx1
  have BBx := Lib.hid hbb
  clear cp0 cp1 hX1 hbx1 hbb HB15
  have cp0 : X1.cell? _ = _ := blk_cell hbpx 0
  have cp1 : X1.cell? _ = _ := blk_cell hbpx 1
  clear hbpx
  go_wp2_with fail
  refine (oilcakelaw11_is.calls 100 AR cR [1, 3, 2] 0 (some ⟨X1.heap.size, 0, none⟩) 3 [1, 3, 2] true _ (Kd.C_alloc CRx.out _) hcR (C_lit_int X1 [1, 3, 2] 3 (by decide)) (by decide) (by decide +kernel)).mono ?_
  rintro e w16 ⟨rfl, hd16⟩
  have hb16 := hd16.below
  have HB16 := Lib.hid (below_step (below_alloc HX1.out _) hb16)
  have CB16 := Lib.hid (Kd.C_below (Kd.C_alloc CBx.out _) hb16)
  have hbb16 := blk_below (blk_alloc BBx.out _) hb16
  have cb16 := box_cell hbb16
  clear cp0 cp1 hb16 hd16 CRx CBx BBx HX1 hbb16
  go_wp2_with fail
  refine (oilcakelaw11_texts.calls 100 AB cB [⟨#[45]⟩, ⟨#[46, 45]⟩, ⟨#[46, 46, 45]⟩, ⟨#[46, 46, 46]⟩] 0 (some ⟨w16.heap.size, 0, none⟩) 4 [⟨#[45]⟩, ⟨#[46, 45]⟩, ⟨#[46, 46, 45]⟩, ⟨#[46, 46, 46]⟩] true _ (Kd.C_alloc CB16.out _) hcB (C_lit_str w16 [⟨#[45]⟩, ⟨#[46, 45]⟩, ⟨#[46, 46, 45]⟩, ⟨#[46, 46, 46]⟩] 9 (by decide)) (by decide) (by decide +kernel)).mono ?_
  rintro e w17 ⟨rfl, hd17⟩
  have hb17 := hd17.below
  have HB17 := Lib.hid (below_step (below_alloc HB16.out _) hb17)
  clear hb17 hd17 CB16 HB16 cb16
  go_wp2_with fail
  refine (oilcakelaw11_one.calls oneW _ rfl).mono ?_
  rintro e w18 ⟨v18, rfl, hR18, hb18⟩
  have HB18 := Lib.hid (below_step (HB17.out) hb18)
  clear HB17
  obtain ⟨A18, c18, rfl, hc18, hC18⟩ := Kd.R_reads hR18
  have HC18 := Lib.hid hC18
  clear hR18 hC18
  clear hb18
  go_wp2_with fail
  refine (wire_Mend A18 c18 oneW _ _ HC18.out one_sz (by decide)).mono ?_
  rw [one_mend]
  rintro e w19 ⟨v19, rfl, ho19, hb19⟩
  have HB19 := Lib.hid (below_step (HB18.out) hb19)
  clear HB18
  have hR19 : Kd.string.R 9 w19 _ (fun _ => True) v19 [⟨#[45, 46, 46]⟩] := Kd.R_of_own ho19 (fun _ _ => trivial)
  obtain ⟨AM, cM, rfl, hcM, hCM⟩ := Kd.R_reads hR19
  have CM := Lib.hid hCM
  clear hR19 hCM ho19 HC18 hc18
  clear hb19
  go_wp2_with fail
  refine (oilcakelaw11_one.calls oneW _ rfl).mono ?_
  rintro e w20 ⟨v20, rfl, hR20, hb20⟩
  have HB20 := Lib.hid (below_step (HB19.out) hb20)
  have CM20 := Lib.hid (Kd.C_below (CM.out) hb20)
  clear HB19
  obtain ⟨A20, c20, rfl, hc20, hC20⟩ := Kd.R_reads hR20
  have HC20 := Lib.hid hC20
  clear hR20 hC20
  clear hb20
  go_wp2_with fail
  refine (wire_Slip A20 c20 oneW _ HC20.out one_sz).mono ?_
  rintro e w21 ⟨⟨ta, tb⟩, n21, rfl, hU21, hb21⟩
  have HB21 := Lib.hid (below_step (HB20.out) hb21)
  have CM21 := Lib.hid (Kd.C_below (CM20.out) hb21)
  clear CM20
  clear HB20
  clear hb21
  have hu21 := (slip_eq hU21).symm
  rw [one_slip] at hu21
  obtain ⟨hu0, hu1⟩ := Prod.mk.inj hu21
  obtain ⟨hv1, hv2⟩ := Prod.mk.inj hu1
  clear hu1
  dsimp only at hu0 hv1
  subst hu0 hv1 hv2
  clear hu21 hU21 HC20 hc20
  go_wp2_with fail
  refine (wire_Write (some ⟨w21.heap.size, 0, none⟩) 3 [0, 3, 1] _ (C_lit_int w21 [0, 3, 1] 3 (by decide))).mono ?_
  rw [write_is]
  rintro e w22 ⟨rfl, hb22⟩
  have HB22 := Lib.hid (below_step (below_alloc (HB21.out) _) hb22)
  have CM22 := Lib.hid (Kd.C_below (Kd.C_alloc (CM21.out) _) hb22)
  clear CM21
  clear HB21
  clear hb22
  go_wp2_with fail
  refine (wire_Numbers _ (by decide) _).mono ?_
  rw [numbers_is]
  rintro e w23 ⟨v23, rfl, ho23, hb23⟩
  have HB23 := Lib.hid (below_step (HB22.out) hb23)
  have CM23 := Lib.hid (Kd.C_below (CM22.out) hb23)
  clear CM22
  clear HB22
  have hR23 : (Kd.int .i64).R 3 w23 _ (fun _ => True) v23 [0, 3, 1] := Kd.R_of_own ho23 (fun _ _ => trivial)
  obtain ⟨AN, cN, rfl, hcN, hCN⟩ := Kd.R_reads hR23
  have CN := Lib.hid hCN
  clear hR23 hCN ho23
  clear hb23
  go_wp2_with fail
  refine (wire_OfPress_none _).mono ?_
  rintro e w24 ⟨rfl, hb24⟩
  have HB24 := Lib.hid (below_step (HB23.out) hb24)
  have CM24 := Lib.hid (Kd.C_below (CM23.out) hb24)
  clear CM23
  have CN24 := Lib.hid (Kd.C_below (CN.out) hb24)
  clear HB23
  clear hb24
  go_wp2_with fail
  refine (wire_ToRoll_none _).mono ?_
  rintro e w25 ⟨rfl, hb25⟩
  have HB25 := Lib.hid (below_step (HB24.out) hb25)
  have CM25 := Lib.hid (Kd.C_below (CM24.out) hb25)
  clear CM24
  have CN25 := Lib.hid (Kd.C_below (CN24.out) hb25)
  clear CN24
  clear HB24
  clear hb25
  obtain ⟨X2, hX2⟩ : ∃ X2, X2 = w25.alloc (.cells #[nilS, nilS, nilS, nilS, nilS] 97) := ⟨_, rfl⟩
  have hbx2 : Below w25.heap.size w25 X2 := by rw [hX2]; exact below1 _ _
  go_upto_region 17 with fail
  rw [← hX2]
  have HX2 := Lib.hid (below_step HB25.out hbx2)
  have CMx := Lib.hid (Kd.C_below CM25.out hbx2)
  have CNx := Lib.hid (Kd.C_below CN25.out hbx2)
  clear hX2 hbx2 HB25 CM25 CN25
  go_wp2_with fail
  refine (oilcakelaw11_texts.calls 100 AM cM [⟨#[45, 46, 46]⟩] 0 (some ⟨X2.heap.size, 0, none⟩) 1 [⟨#[45, 46, 46]⟩] true _ (Kd.C_alloc CMx.out _) hcM (C_lit_str X2 [⟨#[45, 46, 46]⟩] 9 (by decide)) (by decide) (by decide +kernel)).mono ?_
  rintro e w26 ⟨rfl, hd26⟩
  have hb26 := hd26.below
  have HB26 := Lib.hid (below_step (below_alloc HX2.out _) hb26)
  have CN26 := Lib.hid (Kd.C_below (Kd.C_alloc CNx.out _) hb26)
  clear hd26 hb26 HX2 CMx CNx
  go_wp2_with fail
  refine (oilcakelaw11_is.calls 100 AN cN [0, 3, 1] 0 (some ⟨w26.heap.size, 0, none⟩) 3 [0, 3, 1] true _ (Kd.C_alloc CN26.out _) hcN (C_lit_int w26 [0, 3, 1] 3 (by decide)) (by decide) (by decide +kernel)).mono ?_
  rintro e w27 ⟨rfl, hd27⟩
  have hb27 := hd27.below
  have HB27 := Lib.hid (below_step (below_alloc HB26.out _) hb27)
  clear hd27 hb27 HB26 CN26
  go_wp2
  go_ret
  exact ⟨rfl, HB27.out⟩
end Go.Proofs.YtfnibmcenjiodaaGreatDoor.L
namespace Go.Proofs.YtfnibmcenjiodaaGreatDoor.N
open Go.Sort Go.Shelf Go.RowKit Go.Proofs.YtfnibmcenjiodaaGreatDoorW.PrintWords Go.Proofs.YtfnibmcenjiodaaGreatDoorW.PrintLast Go.Proofs.YtfnibmcenjiodaaGreatDoorW.PrintMore
open Go.Proofs.YtfnibmcenjiodaaGreatDoor.M Go.Proofs.YtfnibmcenjiodaaGreatDoor.R
def isReady (l : List ByteArray) : Bool := !greatB l && codeOk l
theorem great_no' {l : List ByteArray} (h : greatB l = false) : l.length ≤ 12 ∧ ∀ x ∈ l, x.size ≤ 12 := by
  unfold greatB at h
  rw [Bool.or_eq_false_iff] at h
  refine ⟨by simpa using h.1, fun x hx => ?_⟩
  have := List.any_eq_false.1 h.2 x hx
  simpa using this
theorem ready_f (l : List ByteArray) : oilcakelaw11_ready.f 1000 l = some (isReady l) := by
  unfold oilcakelaw11_ready.f isReady
  rw [great_f l 1000 (by omega)]
  cases h : greatB l
  · obtain ⟨h1, h2⟩ := great_no' h
    rw [Option.bind_some, if_neg (by decide), codeOk_f l h1 h2 1000 (by omega)]; rfl
  · rfl
theorem orders_step (l : List ByteArray) (hk : codeOk l = true) (bs : List Int) (hb : ∀ b ∈ bs, 0 ≤ b ∧ b ≤ 255) (most : Int) (k i : Nat) (acc : List Int) (hlt : i < bs.length) (hbl : bs.length ≤ 9223372036854775807) (hs : (spell l acc).length ≤ 250) (hal : acc.length ≤ (spell l acc).length) :
    ∃ (j : Nat) (hj : j < l.length), oilcakelaw11_orders.l0 (k + 1) most acc ((spell l acc).length : Int) bs (bs.length : Int) (i : Int) l = if ((spell l acc).length : Int) + (l[j].size : Int) > most then some acc else oilcakelaw11_orders.l0 k most (acc ++ [(j : Int) + 1]) (((spell l acc).length : Int) + (l[j].size : Int)) bs (bs.length : Int) ((i + 1 : Nat) : Int) l := by
  have hl := codeOk_len hk
  have hbi := hb bs[i] (List.getElem_mem hlt)
  obtain ⟨b, hbn⟩ : ∃ b : Nat, bs[i] = (b : Int) := ⟨bs[i].toNat, by omega⟩
  have hmod : b % l.length < l.length := Nat.mod_lt _ (by omega)
  have hx := codeOk_words hk l[b % l.length] (List.getElem_mem hmod)
  refine ⟨b % l.length, hmod, ?_⟩
  have c1 : (i : Int) < (bs.length : Int) := by omega
  have c2 : (0 : Int) ≤ (i : Int) := by omega
  have c3 : ¬ (l.length : Int) = 0 := by omega
  have c4 : (0 : Int) ≤ ((b % l.length : Nat) : Int) := by omega
  have c5 : ((b % l.length : Nat) : Int) < (l.length : Int) := by omega
  have c6 : acc.length < 17592186044416 := by omega
  have b1 : -9223372036854775808 ≤ (b : Int) ∧ (b : Int) ≤ 9223372036854775807 := by omega
  have b2 : -9223372036854775808 ≤ ((spell l acc).length : Int) + (l[b % l.length].size : Int) ∧ ((spell l acc).length : Int) + (l[b % l.length].size : Int) ≤ 9223372036854775807 := by omega
  have b3 : -9223372036854775808 ≤ ((b % l.length : Nat) : Int) + 1 ∧ ((b % l.length : Nat) : Int) + 1 ≤ 9223372036854775807 := by omega
  have b4 : i < 9223372036854775807 := by omega
  have ht : Int.tmod (b : Int) (l.length : Int) = ((b % l.length : Nat) : Int) := rfl
  rw [oilcakelaw11_orders.l0, if_pos c1, if_pos c2, if_pos c1, if_neg c3, rd_nat bs i hlt, hbn, w64 _ b1, ht, if_pos c4, if_pos c5, rdOf_nat _ l _ hmod, w64 _ b2, w64 _ b3, if_pos c6, w64s i b4]
theorem orders_l0 (l : List ByteArray) (hk : codeOk l = true) (bs : List Int) (hb : ∀ b ∈ bs, 0 ≤ b ∧ b ≤ 255) (hbl : bs.length ≤ 9223372036854775807) (most : Int) (hm : 0 ≤ most ∧ most ≤ 250) (k : Nat) : ∀ (i : Nat) (acc : List Int), i ≤ bs.length → bs.length - i < k → okO l acc → ((spell l acc).length : Int) ≤ most → acc.length ≤ (spell l acc).length →
    ∃ o, oilcakelaw11_orders.l0 k most acc ((spell l acc).length : Int) bs (bs.length : Int) (i : Int) l = some o ∧ okO l o ∧ ((spell l o).length : Int) ≤ most ∧ o.length ≤ (spell l o).length := by
  induction k with
  | zero => intro i acc hi hki; omega
  | succ k ih =>
    intro i acc hi hki ha hs hal
    by_cases hlt : i < bs.length
    · obtain ⟨j, hmod, e⟩ := orders_step l hk bs hb most k i acc hlt hbl (by omega) hal
      rw [e]
      have hx := codeOk_words hk l[j] (List.getElem_mem hmod)
      by_cases hgt : ((spell l acc).length : Int) + (l[j].size : Int) > most
      · rw [if_pos hgt]
        exact ⟨acc, rfl, ha, hs, hal⟩
      · rw [if_neg hgt]
        have hsp : spell l (acc ++ [(j : Int) + 1]) = spell l acc ++ l[j].data.toList := by
          unfold spell
          rw [List.flatMap_append, List.flatMap_singleton]
          congr 2
          unfold wordAt
          rw [show (j : Int) + 1 - 1 = (j : Int) by omega, rdOf_nat _ l j hmod]
        have hln : ((spell l (acc ++ [(j : Int) + 1])).length : Int) = ((spell l acc).length : Int) + (l[j].size : Int) := by
          rw [hsp, List.length_append, data_length]; omega
        rw [← hln]
        refine ih (i + 1) _ (by omega) (by omega) (fun n hn => ?_) (by omega) (by rw [List.length_append]; simp only [List.length_cons, List.length_nil]; omega)
        rcases List.mem_append.1 hn with hn | hn
        · exact ha n hn
        · rw [List.mem_singleton] at hn; omega
    · have c1 : ¬ (i : Int) < (bs.length : Int) := by omega
      rw [oilcakelaw11_orders.l0, if_neg c1]
      exact ⟨acc, rfl, ha, hs, hal⟩
theorem orders_f (l : List ByteArray) (hk : codeOk l = true) (bs : List Int) (hb : ∀ b ∈ bs, 0 ≤ b ∧ b ≤ 255) (hbl : bs.length ≤ 9223372036854775807) (most : Int) (hm : 0 ≤ most ∧ most ≤ 250) :
    ∃ o, oilcakelaw11_orders.f (bs.length + 1) l bs most = some o ∧ okO l o ∧ ((spell l o).length : Int) ≤ most ∧ o.length ≤ (spell l o).length := by
  unfold oilcakelaw11_orders.f
  exact orders_l0 l hk bs hb hbl most hm (bs.length + 1) 0 [] (by omega) (by omega) (fun n h => (by cases h)) (by simpa [spell] using hm.1) (by simp)
theorem sendLoop_ok (l : List ByteArray) : ∀ (o : List Int) (acc : List UInt8), okO l o → acc.length + (spell l o).length ≤ 250 → sendLoop l acc o = some (acc ++ spell l o)
  | [], acc, _, h => by
    unfold sendLoop
    rw [if_neg (by simp [spell] at h; omega)]; simp [spell]
  | n :: o, acc, ho, h => by
    have hn := ho n (List.mem_cons_self ..)
    rw [spell_cons, List.length_append] at h
    unfold sendLoop
    rw [inB_one, decide_eq_true hn, decide_eq_false (by omega : ¬ 250 < acc.length)]
    rw [if_pos (by decide), sendLoop_ok l o _ (fun m hm => ho m (List.mem_cons_of_mem _ hm)) (by rw [List.length_append]; omega), spell_cons, List.append_assoc]
def msg (l : List ByteArray) (o : List Int) : ByteArray := ⟨(spell l o).toArray⟩
theorem msg_size (l : List ByteArray) (o : List Int) : (msg l o).size = (spell l o).length := by show (spell l o).toArray.size = _; simp
theorem msg_reads {l : List ByteArray} {o : List Int} (h : okO l o) : Reads l (msg l o) o := ⟨h, by unfold msg; simp⟩
theorem msgOf_ok {l : List ByteArray} {o : List Int} (ho : okO l o) (h : (spell l o).length ≤ 250) : msgOf l o = (msg l o, true) := by
  unfold msgOf
  rw [sendLoop_ok l o [] ho (by simpa using h)]; rfl
theorem reads_signs {l : List ByteArray} (hk : codeOk l = true) {s : ByteArray} {o : List Int} (h : Reads l s o) : isSigns s = true := by
  have : ∀ b ∈ s.data.toList, b = 45 ∨ b = 46 := fun b hb => by
    rw [← h.2] at hb
    obtain ⟨n, hn, hb⟩ := List.mem_flatMap.1 hb
    have hw := wordAt_mem (h.1 n hn).1 (h.1 n hn).2
    simp only [codeOk, Bool.and_eq_true, List.all_eq_true] at hk
    have h1 := hk.1.2 _ hw
    simp only [wordOk, Bool.and_eq_true] at h1
    obtain ⟨i, hi, e⟩ := List.getElem_of_mem hb
    have := signs_at h1.2 i (by rw [data_length] at hi; exact hi)
    rw [← e]; simpa using this
  unfold isSigns
  rw [List.all_eq_true]
  intro b hb
  rcases this b hb with rfl | rfl <;> rfl
theorem given_ok {l : List ByteArray} (hk : codeOk l = true) {s : ByteArray} (h1 : s.size ≤ 250) (h2 : isSigns s = true) : givenE l s = 0 := by
  unfold givenE; rw [if_pos hk, if_neg (by omega), if_pos h2]
end Go.Proofs.YtfnibmcenjiodaaGreatDoor.N
namespace Go.Proofs.YtfnibmcenjiodaaGreatDoor.M
open Go.Sort Go.Shelf Go.RowKit Go.Proofs.YtfnibmcenjiodaaGreatDoorW.PrintWords Go.Proofs.YtfnibmcenjiodaaGreatDoorW.PrintLast Go.Proofs.YtfnibmcenjiodaaGreatDoorW.PrintMore
attribute [local go_sem] Oper.semAt_some
def prefixR (l : List ByteArray) : Bool × Int := if codeOk l = true then (freeB l, 0) else (false, 110)
set_option maxHeartbeats 1000000 in
theorem wire_Prefix (A : Option Addr) (c : Nat) (l : List ByteArray) (w : World) (hr : Kd.C Kd.string w A l.length l) (hsz : ∀ x ∈ l, x.size ≤ 9223372036854775807) :
    Calls Tryz.prog 43 #[.agg #[.slice A l.length c]] w fun e w' => e = .returned (.tuple #[.bool (prefixR l).1, .int .i64 (prefixR l).2]) ∧ Below w.heap.size w w' := by
  go_enter Tryz.func43, Tryz.ntmps43
  go_wp2_with fail
  refine (wire_Check A c l _ (Kd.C_alloc hr _) hsz).mono ?_
  rintro e w1 ⟨rfl, hb⟩
  have HX := Lib.hid (blk_below (blk_new w (.cells #[.slice A l.length c] 24)) hb)
  have HB := Lib.hid (below_step (below1 w (.cells #[.slice A l.length c] 24)) hb)
  have HR := Lib.hid (Kd.C_below hr HB.out)
  have hcx := box_cell HX.out
  clear hb hr
  cases hok : codeOk l
  · have hE : checkE l = 110 := by simp [checkE, hok]
    rw [hE]
    clear hE
    go_wp2
    go_ret2
    exact ⟨by simp [prefixR, hok], HB.out⟩
  have hE : checkE l = 0 := by simp [checkE, hok]
  rw [hE]
  clear hE
  have hl := codeOk_len hok
  go_wp2_with fail
  refine (free_calls A c l w1 HR.out (by omega)).mono ?_
  rintro e w2 ⟨rfl, hb⟩
  have HB2 := Lib.hid (below_step HB.out hb)
  clear hb
  go_wp2
  go_ret2
  exact ⟨by simp [prefixR, hok], HB2.out⟩
end Go.Proofs.YtfnibmcenjiodaaGreatDoor.M
namespace Go.Proofs.YtfnibmcenjiodaaGreatDoor.M
open Go.Sort Go.Shelf Go.RowKit Go.Maps Go.Proofs.YtfnibmcenjiodaaGreatDoorW.PrintWords Go.Proofs.YtfnibmcenjiodaaGreatDoorW.PrintLast Go.Proofs.YtfnibmcenjiodaaGreatDoorW.PrintMore
theorem bnd_fold {ws : List ByteArray} {E : DataW Unit} {B : Nat} (f : DataW Unit → ByteArray → DataW Unit) : ∀ (xs : List ByteArray) (D : DataW Unit), (∀ x ∈ xs, ∀ D, Bnd ws D E B → Bnd ws (f D x) E B) → Bnd ws D E B → Bnd ws (xs.foldl f D) E B
  | [], _, _, h => h
  | x :: xs, D, hf, h => bnd_fold f xs (f D x) (fun y hy => hf y (List.mem_cons_of_mem _ hy)) (hf x (List.mem_cons_self ..) D h)
theorem search_bound {ws : List ByteArray} {N : Nat} (hN : ∀ w ∈ ws, w.size ≤ N) {D E : DataW Unit} {r : ByteArray} {b : Bool} (h : Search ws D E r b) : Bnd ws D E (bndT ws E N) → r.size ≤ N * (1 + (sufs ws).length) := by
  induction h with
  | none h => intro _; exact Nat.zero_le _
  | found h => intro S; exact Nat.le_trans (S.small _ (firstIs_has h)) (bndT_le ws _ N)
  | @step D E a r b h ha k ih =>
    intro S
    have hh := firstIs_has h
    have hs := S.ends a hh
    have hf := S.free a hh
    have hg := bndT_done (N := N) S.mapE hs hf
    have ht := S.small a hh
    refine ih (bnd_fold _ ws _ (fun x hx D' hD => bnd_lead hD hN hs hx (by omega)) (bnd_del S (by omega)))
theorem bndT_start (ws : List ByteArray) {N : Nat} (hN : ∀ w ∈ ws, w.size ≤ N) : Bnd ws (startD ws) (.map []) (bndT ws (.map []) N) := by
  have h : Bnd ws (startD ws) (.map []) N := by
    unfold startD
    refine bnd_fold _ ws _ (fun v hv D hD => bnd_fold _ ws _ (fun x hx D hD => bnd_start hN hD hx) hD) ⟨isMap_nil, isMap_nil, fun a h => (by cases h), fun a h => (by cases h), fun a h => (by cases h)⟩
  refine ⟨h.mapD, h.mapE, h.ends, h.free, fun a ha => Nat.le_trans (h.small a ha) ?_⟩
  unfold bndT
  exact Nat.le_mul_of_pos_right _ (by omega)
theorem double_bound {l : List ByteArray} {s : ByteArray} {n : Int} (h : DoubleIs l s n) : s.size ≤ 1000 := by
  rcases h with ⟨_, rfl, _⟩ | ⟨h1, r, f, hS, ⟨_, rfl, _⟩ | ⟨_, rfl, _⟩⟩
  · decide
  · have hw := fun x hx => (codeOk_words h1 x hx).2
    have h2 := search_bound hw hS (bndT_start l hw)
    have h3 := sufs_length l 6 hw
    have h4 := codeOk_len h1
    omega
  · decide
end Go.Proofs.YtfnibmcenjiodaaGreatDoor.M
namespace Go.Proofs.YtfnibmcenjiodaaGreatDoor.O
open Go.Joins Go.ChangeShapes Go.WideShapes Go.RowKit Go.ChangeAt Go.Deep Go.Proofs.YtfnibmcenjiodaaGreatDoorW.PrintWords Go.Proofs.YtfnibmcenjiodaaGreatDoorW.PrintLast Go.Proofs.YtfnibmcenjiodaaGreatDoorW.PrintMore
section
variable {H : Type} {enc : TypeId × Value → H} {P : Program} {w : World} {base : Nat} {spare : Nat → Bool} {held : Bool}
theorem open_agg1 {r : Reach} {b0 : Nat} {t : TypeId} {f0 : Field} {v : Value} {d : DataW H} {p : List MemPlace} (hs : P.underlying t = some (.struct #[f0])) (hone : oneCellFields P #[f0] = true) (hC : P.cellsOf t = 1)
    (hv : Value.okWide P w r b0 t v) (h : DataW.Trod enc P w base spare held t v d p) :
    ∃ (v0 : Value) (y0 : DataW H × List MemPlace) (n : Nat), v = .agg #[v0] ∧ d = .agg [y0.1] ∧ p = y0.2 ∧ DataW.trod enc P w base spare held n f0.type [v0] = some y0 := by
  obtain ⟨cs, rfl, hsz⟩ := okWide_struct hs hv
  obtain ⟨l⟩ := cs
  match l, hsz.trans hC with
  | [c0], _ =>
    obtain ⟨fuel, hf⟩ := h
    obtain ⟨xs, n, _, hx, _, hlen, hg⟩ := DataW.trod_struct hs hf
    obtain ⟨o0, k0⟩ := hone_of hone 0 f0 rfl
    match xs, hlen with
    | [y0], _ =>
      simp only [Prod.mk.injEq] at hx
      exact ⟨c0, y0, n, rfl, by simpa using hx.1, by simpa using hx.2, by simpa [Value.cells, o0, k0] using hg 0 f0 rfl⟩
end
theorem maxLen_le : maxLen ≤ 9223372036854775807 := by unfold maxLen; decide
theorem texts_read {H : Type} {enc : TypeId × Value → H} {W : World} {n : Nat} {v : Value} {y : DataW H × List MemPlace} (h : DataW.trod enc Tryz.prog W 0 (fun _ => true) true n 22 [v] = some y) :
    ∃ (A : Option Addr) (c : Nat) (l : List ByteArray), v = .slice A l.length c ∧ l.length ≤ c ∧ Kd.C Kd.string W A l.length l ∧ ∀ x ∈ l, x.size ≤ 9223372036854775807 := by
  rcases open_strings Tryz.underlying22 Tryz.underlying9 (by kernel_rfl) h with ⟨hv, _⟩ | ⟨a, len, cap, ss, hv, _, hl, hm, hlen, _, hc, hs⟩
  · cases hv
    exact ⟨none, 0, [], rfl, Nat.le_refl _, ⟨rfl, Nat.zero_le _, fun h => absurd h (Nat.lt_irrefl _)⟩, fun x hx => by cases hx⟩
  · cases hv
    have hlen' : ss.length = cap := by simpa using hlen
    have htl : (ss.take len).length = len := by rw [List.length_take]; omega
    have hmx := maxLen_le
    refine ⟨some a, cap, ss.take len, by rw [htl], by rw [htl]; exact hl, ?_, fun x hx => by have := hs x (List.mem_of_mem_take hx); omega⟩
    refine Kd.C_of_reads (d := ByteArray.empty) (h1 := fun _ => rfl) ⟨rfl, by rw [htl]; omega, fun _ => ⟨a, rfl, fun j hj => ?_⟩⟩
    rw [htl] at hj
    rw [hc j (by omega)]
    congr 2
    simp [List.getD_eq_getElem?_getD, hj]
set_option maxRecDepth 100000 in
theorem code_read {H : Type} {enc : TypeId × Value → H} {W : World} {base : Nat} {v : Value} {d : DataW H} {p : List MemPlace} (hv : Value.okWide Tryz.prog W .any base 24 v) (h : DataW.Trod enc Tryz.prog W 0 (fun _ => true) true 24 v d p) :
    ∃ (A : Option Addr) (c : Nat) (l : List ByteArray), v = .agg #[.slice A l.length c] ∧ l.length ≤ c ∧ Kd.C Kd.string W A l.length l ∧ ∀ x ∈ l, x.size ≤ 9223372036854775807 := by
  obtain ⟨v0, y0, n, rfl, _, _, h0⟩ := open_agg1 Tryz.underlying24 (by kernel_rfl) (by kernel_rfl) hv h
  obtain ⟨A, c, l, rfl, h1, h2, h3⟩ := texts_read h0
  exact ⟨A, c, l, rfl, h1, h2, h3⟩
set_option maxRecDepth 100000 in
theorem ints_read {H : Type} {enc : TypeId × Value → H} {t e : TypeId} {k : IntKind} {W : World} {base : Nat} {v : Value} {d : DataW H} {p : List MemPlace} (ht : Tryz.prog.underlying t = some (.slice e)) (he : Tryz.prog.underlying e = some (.int k)) (hce : Tryz.prog.cellsOf e = 1)
    (hv : Value.okWide Tryz.prog W .any base t v) (h : DataW.Trod enc Tryz.prog W 0 (fun _ => true) true t v d p) :
    ∃ (A : Option Addr) (c : Nat) (l : List Int), v = .slice A l.length c ∧ l.length ≤ c ∧ Kd.C (Kd.int k) W A l.length l ∧ ∀ x ∈ l, (Lit.int k x).wf = true := by
  obtain ⟨a, len, cap, rfl⟩ := okWide_slice ht hv
  obtain ⟨fuel, hf⟩ := h
  obtain ⟨zs, hz⟩ : ∃ zs : List Int, (a = none ∧ len = 0 ∧ cap = 0 ∧ zs = []) ∨ ∃ x, a = some x ∧ len ≤ cap ∧ cap ≤ maxLen ∧ zs.length = cap ∧ (∀ i, i < zs.length → W.cell? (x.add i) = some (.int k (zs.getD i 0))) ∧ ∀ n ∈ zs, (Lit.int k n).wf = true := by
    rcases open_ints ht he hce hf with ⟨hcs, _⟩ | ⟨x, l, c, zs, hcs, _, hl, hm, hlen, _, hcell, hwf⟩
    · simp only [Value.cells] at hcs
      cases hcs
      exact ⟨[], .inl ⟨rfl, rfl, rfl, rfl⟩⟩
    · simp only [Value.cells] at hcs
      cases hcs
      exact ⟨zs, .inr ⟨x, rfl, hl, hm, by simpa using hlen, hcell, hwf⟩⟩
  obtain ⟨l, rfl, hr, _, hw, hc⟩ := ReadsInt.ofRowC hz
  exact ⟨a, cap, l, rfl, hc, Kd.C_of_reads (d := (0 : Int)) (h1 := fun _ => rfl) hr, hw⟩
end Go.Proofs.YtfnibmcenjiodaaGreatDoor.O
namespace Go.Proofs.YtfnibmcenjiodaaGreatDoor.M
open Go.Sort Go.Shelf Go.RowKit Go.Proofs.YtfnibmcenjiodaaGreatDoorW.PrintWords Go.Proofs.YtfnibmcenjiodaaGreatDoorW.PrintLast Go.Proofs.YtfnibmcenjiodaaGreatDoorW.PrintMore
theorem diffs_take (s t : List UInt8) (i : Nat) (h1 : i < s.length) (h2 : i < t.length) : diffs (s.take (i + 1)) (t.take (i + 1)) = diffs (s.take i) (t.take i) + if s[i] = t[i] then 0 else 1 := by
  rw [List.take_add_one, List.take_add_one, List.getElem?_eq_getElem h1, List.getElem?_eq_getElem h2]
  exact diffs_snoc _ _ _ _ (by rw [List.length_take, List.length_take]; omega)
theorem diffs_le : ∀ (s t : List UInt8), diffs s t ≤ s.length
  | [], _ => by simp [diffs]
  | _ :: _, [] => by simp [diffs]
  | a :: s, b :: t => by
    have := diffs_le s t
    show (if a = b then 0 else 1) + diffs s t ≤ _
    simp only [List.length_cons]
    split <;> omega
theorem diffs_self : ∀ (s : List UInt8), diffs s s = 0
  | [] => rfl
  | a :: s => by
    show (if a = a then 0 else 1) + diffs s s = 0
    rw [if_pos rfl, diffs_self s]
theorem diffs_append (a b c d : List UInt8) (h : a.length = b.length) : diffs (a ++ c) (b ++ d) = diffs a b + diffs c d := by
  induction a generalizing b with
  | nil => cases b with
    | nil => simp [diffs]
    | cons y b => cases h
  | cons x a ih => cases b with
    | nil => cases h
    | cons y b =>
      show (if x = y then 0 else 1) + diffs (a ++ c) (b ++ d) = (if x = y then 0 else 1) + diffs a b + diffs c d
      rw [ih b (by simpa using h)]; omega
theorem turnAt_data (s : ByteArray) (j : Nat) : (turnAt s j).data.toList = s.data.toList.take j ++ [flipB (s.data.getD j 0)] ++ s.data.toList.drop (j + 1) := by
  unfold turnAt
  rw [cat_data, cat_data, ByteArray.data_extract, ByteArray.data_extract, Array.toList_extract, Array.toList_extract]
  have e1 : (s.data.toList.drop 0).take (j - 0) = s.data.toList.take j := by simp
  have e2 : (s.data.toList.drop (j + 1)).take (s.size - (j + 1)) = s.data.toList.drop (j + 1) := by
    apply List.take_of_length_le
    rw [List.length_drop, data_length]; exact Nat.le_refl _
  show (s.data.toList.drop 0).take (j - 0) ++ _ ++ (s.data.toList.drop (j + 1)).take (s.size - (j + 1)) = _
  rw [e1, e2]
theorem data_split (s : ByteArray) (j : Nat) (hj : j < s.size) : s.data.toList = s.data.toList.take j ++ [s.data.getD j 0] ++ s.data.toList.drop (j + 1) := by
  have hl : j < s.data.toList.length := by rw [data_length]; exact hj
  have e : s.data.getD j 0 = s.data.toList[j] := by
    have h2 : j < s.data.size := hj
    unfold Array.getD
    rw [dif_pos h2]; simp
  rw [e, List.append_assoc, List.singleton_append, List.getElem_cons_drop, List.take_append_drop]
theorem flip_ne (b : UInt8) : ¬ b = flipB b := by
  unfold flipB
  split
  · rename_i h; rw [h]; decide
  · assumption
theorem diffs_step (s t : ByteArray) (i : Nat) (hi : i < s.size) (hj : i < t.size) : diffs (s.data.toList.take (i + 1)) (t.data.toList.take (i + 1)) = diffs (s.data.toList.take i) (t.data.toList.take i) + if (s[i]'hi).toNat = (t[i]'hj).toNat then 0 else 1 := by
  have h1 : i < s.data.toList.length := by rw [data_length]; exact hi
  have h2 : i < t.data.toList.length := by rw [data_length]; exact hj
  rw [diffs_take _ _ i h1 h2]
  have e1 : s.data.toList[i] = s[i]'hi := by show _ = s.data[i]'hi; simp
  have e2 : t.data.toList[i] = t[i]'hj := by show _ = t.data[i]'hj; simp
  rw [e1, e2]
  congr 1
  by_cases h : (s[i]'hi) = (t[i]'hj)
  · rw [if_pos h, if_pos (by rw [h])]
  · rw [if_neg h, if_neg (fun e => h (UInt8.toNat_inj.1 e))]
theorem diffs_full (s t : ByteArray) (h : s.size = t.size) : diffs (s.data.toList.take s.size) (t.data.toList.take s.size) = diffs s.data.toList t.data.toList := by
  rw [List.take_of_length_le (by rw [data_length]; exact Nat.le_refl _), List.take_of_length_le (by rw [data_length, h]; exact Nat.le_refl _)]
theorem turn_diffs (s : ByteArray) (j : Nat) (hj : j < s.size) : diffs s.data.toList (turnAt s j).data.toList = 1 := by
  rw [turnAt_data s j]
  conv => lhs; arg 1; rw [data_split s j hj]
  rw [diffs_append _ _ _ _ (by simp), diffs_append _ _ _ _ rfl, diffs_self, diffs_self]
  show 0 + (if _ = _ then 0 else 1) + diffs [] [] + 0 = 1
  rw [if_neg (flip_ne _)]; rfl
theorem signs_turn {s : ByteArray} (h : isSigns s = true) (j : Nat) : isSigns (turnAt s j) = true := by
  unfold isSigns at *
  rw [List.all_eq_true] at *
  intro b hb
  rw [turnAt_data s j] at hb
  rcases List.mem_append.1 hb with hb | hb
  · rcases List.mem_append.1 hb with hb | hb
    · exact h b (List.mem_of_mem_take hb)
    · rw [List.mem_singleton] at hb
      rw [hb]; unfold flipB; split <;> rfl
  · exact h b (List.mem_of_mem_drop hb)
theorem signs_byte {s : ByteArray} (h : isSigns s = true) (i : Nat) (hi : i < s.size) : (s[i]'hi).toNat = 45 ∨ (s[i]'hi).toNat = 46 := by
  have hd : s[i]'hi = s.data[i]'hi := rfl
  rw [hd]
  rcases signs_at h i hi with e | e
  · rw [e]; exact .inl rfl
  · rw [e]; exact .inr rfl
end Go.Proofs.YtfnibmcenjiodaaGreatDoor.M
