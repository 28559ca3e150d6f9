/- Contracts and plain laws that the claim's card stands on (texts M1 M7 M12 M2 M3 M4 M5 S0 G2 G3 of the work, put together). No statement of the seat is proved here. -/
import Derived.Test.YtfnibmcenjiodaaGreatDoorProg
import Derived.WalkKit
import Derived.Below
import Derived.Deep.QuietTactic
import Derived.BigQuiet
import Derived.OwnWalk
import Derived.Outline
import Derived.Lib.Hide
import Derived.LoopTactic
import Derived.Deep.LoopGhost
import Derived.RangeFuncNested
import Derived.RangeFuncBound
import Derived.RangeFuncCalls
import Derived.RangeFuncLeaves
import Derived.Shelf.Abstract
import Derived.Shelf.RegionOpen
import Derived.OwnWalkIn
import Derived.TacticsInMore
import Derived.LoopNIn
import Derived.LoopIn
import Derived.MapKept
import Derived.Sort.MapsRangeIn
import Derived.Sort.KeysCollected
import Derived.RangeFuncStops
import Derived.Maps.OwnSet
import Derived.Maps.OwnIn
import Derived.Shelf.Strings.Builder1
import Derived.Shelf.Strings.Builder2
import Derived.Shelf.Strings.Trim
import Derived.Shelf.Small.Utf8
import Derived.Shelf.Small.Strs
import Derived.Shelf.Small.Wraps
import Derived.Shelf.Strings.BuilderF
import Derived.Shelf.Strings.BuilderK
import Derived.Shelf.Strings.Builder2Cap
import Derived.Shelf.Strconv.Itoa0
import Derived.Shelf.Strings.Search1
import Derived.Shelf.Sort.Plain
import Derived.Shelf.Strings.Prefix
import Derived.Shelf.Strings.Runes
import Derived.Shelf.Strings.AsciiSet
import Derived.Shelf.Bits.Mul64
import Derived.Shelf.Unicode.DecodeSlow
import Derived.Shelf.Strings.BuilderCap
import Derived.Shelf.Slices.Turned
import Derived.Ground.Names2Prog
import Derived.Shelf.Slices.Clone
import Derived.Shelf.Slices.CompactS
import Derived.Shelf.Slices.Cells
import Derived.Shelf.Strings.SlTrimAscii
import Derived.Sort.OwnSorted
import Derived.Maps.AppendAt
import Derived.Shelf.Slices.In.SortNone
import Derived.Deep.RegionWith
import Derived.BigRegion
import Derived.Laws.EntriesVeiled
import Derived.LoopN
import Derived.Deep.Draws
import Derived.Deep.AppendLies
import Derived.Laws.BytesArg
import Derived.Laws.MakeOwn
import Derived.Laws.OwnMore
import Derived.Deep.OwnRows
import Derived.Tactics
import Derived.Lib.ConvBytes
import Derived.Laws.Slices
import Derived.KernelRfl
import Derived.RowKit3
import Derived.WideLaws
import Derived.Deep.DeepCutAuto
import Derived.Deep.CutBlock
import Derived.Deep.RegionHeld3
import Derived.Laws.Rows
import Derived.Lib.AppendStr
import Derived.ArgAppend
import Derived.Laws.IdiomCopy
import Derived.OrdersHeld
import Derived.Laws.BitsLemmas
import Derived.RowKit
import Derived.Laws.StructEq
import Derived.Sort.Walk0
import Derived.Laws.Cover1
import Derived.Test.YtfnibmcenjiodaaGreatDoorQ1
import Derived.Test.YtfnibmcenjiodaaGreatDoorQ2
import Derived.Test.YtfnibmcenjiodaaGreatDoorQ3
import Derived.Test.YtfnibmcenjiodaaGreatDoorQ4
import Derived.Test.YtfnibmcenjiodaaGreatDoorQ5
import Derived.Test.YtfnibmcenjiodaaGreatDoorQ6
import Derived.Test.YtfnibmcenjiodaaGreatDoorQ7
import Derived.Test.YtfnibmcenjiodaaGreatDoorQ8
import Derived.Test.YtfnibmcenjiodaaGreatDoorQ9
import Derived.Test.YtfnibmcenjiodaaGreatDoorQ10
set_option linter.unusedVariables false
set_option linter.unusedSimpArgs false
namespace Go.Proofs.YtfnibmcenjiodaaGreatDoor.M
open Go.Shelf Go.RowKit Go.Proofs.YtfnibmcenjiodaaGreatDoorW.PrintWords Go.Proofs.YtfnibmcenjiodaaGreatDoorW.PrintLast Go.Proofs.YtfnibmcenjiodaaGreatDoorW.PrintMore
theorem ret_bool {a b : Bool} (h : a = b) : Ending.returned (.bool a) = .returned (.bool b) := by rw [h]
theorem ret_int {k : IntKind} {a b : Int} (h : a = b) : Ending.returned (.int k a) = .returned (.int k b) := by rw [h]
theorem blk_new1 (w : World) (o1 o : Obj) : ((w.alloc o1).alloc o).heap[w.heap.size + 1]? = some o := by
  have := blk_new (w.alloc o1) o; rwa [World.size_alloc] at this
theorem blk_new2 (w : World) (o1 o2 o : Obj) : (((w.alloc o1).alloc o2).alloc o).heap[w.heap.size + 1 + 1]? = some o := by
  have := blk_new1 (w.alloc o1) o2 o; rwa [World.size_alloc] at this
theorem box_cell {w : World} {g : Nat} {v : Value} {t : TypeId} (h : w.heap[g]? = some (.cells #[v] t (0, 0))) : w.cell? ⟨g, 0, none⟩ = some v := blk_cell h 0
theorem box_free {w : World} {g : Nat} {v : Value} {t : TypeId} (h : w.heap[g]? = some (.cells #[v] t (0, 0))) : w.frozen? ⟨g, 0, none⟩ = false := blk_frozen h 0
theorem box_put {w : World} {g : Nat} {v : Value} {t : TypeId} (h : w.heap[g]? = some (.cells #[v] t (0, 0))) (u : Value) : (w.setCell ⟨g, 0, none⟩ u).heap[g]? = some (.cells #[u] t (0, 0)) := blk_put h 0 u rfl
theorem below1 (w : World) (o : Obj) : Below w.heap.size w (w.alloc o) := (Below.refl _ w).alloc (Nat.le_refl _) o
theorem below2 (w : World) (o o' : Obj) : Below w.heap.size w ((w.alloc o).alloc o') := below_alloc (below1 w o) o'
theorem cell_new (W : World) (v : Value) (t : TypeId) : (W.alloc (.cells #[v] t)).cell? ⟨W.heap.size, 0, none⟩ = some v := box_cell (blk_new W _)
theorem cell_new1 (W : World) (o : Obj) (v : Value) (t : TypeId) : ((W.alloc o).alloc (.cells #[v] t)).cell? ⟨W.heap.size + 1, 0, none⟩ = some v := box_cell (blk_new1 W _ _)
theorem cell_old {W : World} {a : Addr} {v : Value} (o : Obj) (h : W.cell? a = some v) : (W.alloc o).cell? a = some v := pw_cell_below (below1 W o) h
def pIdx {α : Type} (p : α → Bool) (l : List α) : Int := match l.findIdx? p with | some i => i | none => -1
theorem pIdx_none {α : Type} (p : α → Bool) (l : List α) (h : ∀ i (hi : i < l.length), p l[i] = false) : pIdx p l = -1 := by
  unfold pIdx
  rw [List.findIdx?_eq_none_iff.2]
  intro x hx
  obtain ⟨i, hi, rfl⟩ := List.getElem_of_mem hx
  exact h i hi
theorem pIdx_some {α : Type} (p : α → Bool) (l : List α) (k : Nat) (hk : k < l.length) (h : ∀ i (hi : i < k), p (l[i]'(by omega)) = false) (hp : p l[k] = true) : pIdx p l = k := by
  unfold pIdx
  rw [List.findIdx?_eq_some_iff_getElem.2 ⟨hk, hp, fun j hj => by simp [h j hj]⟩]
theorem pIdx_any {α : Type} (p : α → Bool) (l : List α) : decide (pIdx p l ≥ 0) = l.any p := by
  unfold pIdx
  cases h : l.findIdx? p with
  | none => simp [List.findIdx?_eq_none_iff] at h; simp [List.any_eq_false.2 (by simpa using h)]
  | some i =>
    obtain ⟨hi, hp, _⟩ := List.findIdx?_eq_some_iff_getElem.1 h
    simp
    exact ⟨_, List.getElem_mem hi, hp⟩
end Go.Proofs.YtfnibmcenjiodaaGreatDoor.M
namespace Go.Proofs.YtfnibmcenjiodaaGreatDoor.M
open Go.MapKept (bytes_beq run_findKey)
open Go.Shelf Go.RowKit Go.Proofs.YtfnibmcenjiodaaGreatDoorW.PrintWords Go.Proofs.YtfnibmcenjiodaaGreatDoorW.PrintLast Go.Proofs.YtfnibmcenjiodaaGreatDoorW.PrintMore
structure Keep (B : Nat) (row : Option Nat) (w w' : World) : Prop where
  os : w'.os = w.os
  tape : w'.tape = w.tape
  output : w'.output = w.output
  size : w.heap.size ≤ w'.heap.size
  block : ∀ k, k < B → some k ≠ row → w'.heap[k]? = w.heap[k]?
section
variable {B : Nat} {row : Option Nat} {w w1 w2 : World}
theorem Keep.refl (B : Nat) (row : Option Nat) (w : World) : Keep B row w w := ⟨rfl, rfl, rfl, Nat.le_refl _, fun _ _ _ => rfl⟩
theorem Keep.trans (h : Keep B row w w1) (k : Keep B row w1 w2) : Keep B row w w2 :=
  ⟨k.os.trans h.os, k.tape.trans h.tape, k.output.trans h.output, Nat.le_trans h.size k.size, fun i hi hr => (k.block i hi hr).trans (h.block i hi hr)⟩
theorem Keep.of_below (h : Below B w w1) (row : Option Nat) : Keep B row w w1 := ⟨h.os, h.tape, h.output, h.size, fun i hi _ => h.block i hi⟩
theorem Keep.mono (h : Keep B row w w1) {B' : Nat} (hB : B' ≤ B) : Keep B' row w w1 := ⟨h.os, h.tape, h.output, h.size, fun i hi hr => h.block i (Nat.lt_of_lt_of_le hi hB) hr⟩
theorem Keep.setCell (h : Keep B row w w1) {p : Addr} (hp : B ≤ p.block) (v : Value) : Keep B row w (w1.setCell p v) := h.trans (.of_below ((Below.refl B w1).setCell hp v) row)
theorem Keep.drew (h : Keep B row w w1) : Keep B row w w1.drew := ⟨h.os, h.tape, h.output, h.size, h.block⟩
theorem Keep.lose (h : Keep B row w w1) {B' : Nat} (hB : B' ≤ B) (hr : ∀ k, row = some k → B' ≤ k) : Below B' w w1 :=
  ⟨h.os, h.tape, h.output, h.size, fun i hi => h.block i (Nat.lt_of_lt_of_le hi hB) (fun e => by have := hr i e.symm; omega)⟩
theorem Keep.put (h : Keep B row w w1) {m : Nat} (o : Obj) (hm : B ≤ m ∨ row = some m) : Keep B row w (w1.putObj m o) := by
  refine h.trans ⟨rfl, rfl, rfl, by simp [World.putObj], fun i hi hr => ?_⟩
  rw [World.putObj_heap_other]
  rintro rfl
  rcases hm with hm | hm
  · omega
  · exact hr hm.symm
theorem Keep.blk (h : Keep B row w w1) {g : Nat} {o : Obj} (hb : w.heap[g]? = some o) (hg : g < B) (hr : some g ≠ row) : w1.heap[g]? = some o := (h.block g hg hr).trans hb
theorem Keep.cell (h : Keep B row w w1) {a : Addr} {v : Value} (hc : w.cell? a = some v) (hg : a.block < B) (hr : some a.block ≠ row) : w1.cell? a = some v := (World.cell?_of_block (h.block a.block hg hr)).trans hc
theorem Keep.of_grown {w2 : World} (hg : w.grownBy w2 row) : Keep w.heap.size row w w2 := ⟨hg.os, hg.tape, hg.output, hg.size, hg.block⟩
end
theorem cell_not_map {w : World} {a : Addr} {v : Value} {m : Nat} {es : Array MapEntry} {ck : Nat} (hc : w.cell? a = some v) (hm : w.heap[m]? = some (.map es ck)) : a.block ≠ m := by
  rintro rfl
  simp [World.cell?, hm] at hc
theorem C_keep_map {α : Type} {enc : α → Value} {h1 : ∀ x, (enc x).oneCell' = true} {w w1 : World} {A : Option Addr} {n m : Nat} {xs : List α} {es : Array MapEntry} {ck : Nat} (h : (Kd.scalar enc h1).C w A n xs) (hm : w.heap[m]? = some (.map es ck)) (hk : Keep w.heap.size (some m) w w1) : (Kd.scalar enc h1).C w1 A n xs := by
  refine ⟨h.1, h.2.1, fun hn => ?_⟩
  obtain ⟨ad, e, hc⟩ := h.2.2 hn
  refine ⟨ad, e, fun j p hj => ?_⟩
  obtain ⟨cs, hs, hr, hcell⟩ := hc j p hj
  exact ⟨cs, hs, hr, fun i u hu => hk.cell (hcell i u hu) (World.block_lt_of_cell? w _ (hcell i u hu)) (by have := cell_not_map (hcell i u hu) hm; simpa using this)⟩
theorem beq_self (s : ByteArray) : (s == s) = true := (bytes_beq s s).2 rfl
theorem beq_ne {s t : ByteArray} (h : ¬ s = t) : (s == t) = false := by
  cases hb : s == t with
  | false => rfl
  | true => exact absurd ((bytes_beq s t).1 hb) h
theorem getObj_map {P : Program} {w : World} {m : Nat} {es : Array MapEntry} {ck : Nat} (hm : w.heap[m]? = some (.map es ck)) : (getObj m).run P w = .ok (.map es ck) w := by simp [getObj, Sem.run, hm]
theorem setObj_map {P : Program} {w : World} {m : Nat} {es : Array MapEntry} {ck : Nat} (o : Obj) (hm : w.heap[m]? = some (.map es ck)) : (setObj m o).run P w = .ok () (w.putObj m o) := by simp [setObj, Sem.run, hm, World.putObj]
def StrKeys (es : List MapEntry) : Prop := ∀ e ∈ es, ∃ s, e.key = .string s
def findStr (s : ByteArray) : List MapEntry → Nat → Option (Nat × Value)
  | [], _ => none
  | e :: es, i => match e.key with
    | .string t => if s = t then some (i, e.val) else findStr s es (i + 1)
    | _ => none
theorem findNow_str (s : ByteArray) : ∀ (es : List MapEntry) (i : Nat), StrKeys es → Instr.findNow .string (.string s) es i = some (findStr s es i)
  | [], _, _ => rfl
  | e :: es, i, h => by
    obtain ⟨t, ht⟩ := h e (by simp)
    rw [Instr.findNow, findStr, ht]
    by_cases hst : s = t
    · subst hst; simp [Instr.sameNow, beq_self]
    · have : (s == t) = false := beq_ne hst
      simp only [Instr.sameNow, this, hst, if_false]
      exact findNow_str s es (i + 1) (fun e he => h e (by simp [he]))
theorem findStr_some {s : ByteArray} : ∀ {es : List MapEntry} {i j : Nat} {v : Value}, findStr s es i = some (j, v) → i ≤ j ∧ ∃ e, es[j - i]? = some e ∧ e.key = .string s ∧ e.val = v
  | [], _, _, _, h => by simp [findStr] at h
  | e :: es, i, j, v, h => by
    rw [findStr] at h
    split at h
    · rename_i t ht
      split at h
      · rename_i hst
        subst hst
        simp only [Option.some.injEq, Prod.mk.injEq] at h
        obtain ⟨rfl, rfl⟩ := h
        exact ⟨Nat.le_refl _, e, by simp, ht, rfl⟩
      · obtain ⟨hle, e', he, hk, hv⟩ := findStr_some h
        refine ⟨by omega, e', ?_, hk, hv⟩
        rw [show j - i = (j - (i + 1)) + 1 by omega, List.getElem?_cons_succ]
        exact he
    · cases h
theorem findStr_none {s : ByteArray} : ∀ {es : List MapEntry} {i : Nat}, StrKeys es → findStr s es i = none → ∀ e ∈ es, e.key ≠ .string s
  | [], _, _, _ => by simp
  | e :: es, i, hk, h => by
    obtain ⟨t, ht⟩ := hk e (by simp)
    rw [findStr, ht] at h
    dsimp only at h
    split at h
    · cases h
    · rename_i hst
      intro e' he'
      rcases List.mem_cons.1 he' with rfl | he'
      · rw [ht]; intro e; injection e with e; exact hst e.symm
      · exact findStr_none (fun e he => hk e (by simp [he])) h e' he'
section
variable {P : Program} {T K E : TypeId} {w : World} {m : Nat} {es : Array MapEntry} {ck : Nat}
theorem run_checkKey_str (hK : P.underlying K = some .string) (em : Bool) (n : Nat) (s : ByteArray) (w : World) : (Instr.checkKey em (n + 1) K (.string s)).run P w = .ok () w := by
  unfold Instr.checkKey
  simp only [Sem.run_bind, run_underlying hK, Result.andThen]
  rfl
theorem run_lookup_str (hT : P.underlying T = some (.map K E)) (hK : P.underlying K = some .string) (hm : w.heap[m]? = some (.map es ck)) (hs : StrKeys es.toList) (s : ByteArray) {z : Value} (hz : ∀ w, (zeroValue E).run P w = .ok z w) (ok : Bool) :
    (Instr.lookup T (.map (some m)) (.string s) ok).run P w = .ok (if ok then .tuple #[((findStr s es.toList 0).map (·.2)).getD z, .bool (findStr s es.toList 0).isSome] else ((findStr s es.toList 0).map (·.2)).getD z) w := by
  unfold Instr.lookup
  simp only [Sem.run_bind, run_underlying hT, Result.andThen, getObj_map hm, run_checkKey_str hK, run_findKey hK (findNow_str s _ 0 hs), Sem.run_pure]
  cases h : findStr s es.toList 0 with
  | none => simp only [Sem.run_bind, hz, Result.andThen, Sem.run_pure]; cases ok <;> rfl
  | some r => cases ok <;> rfl
theorem run_mapUpdate_str (hT : P.underlying T = some (.map K E)) (hK : P.underlying K = some .string) (hm : w.heap[m]? = some (.map es ck)) (hs : StrKeys es.toList) (s : ByteArray) (v : Value) :
    ∃ es' ck', (Instr.mapUpdate T (.map (some m)) (.string s) v).run P w = .ok () (w.putObj m (.map es' ck')) ∧ StrKeys es'.toList ∧
      (∀ e ∈ es'.toList, (e.key = .string s ∧ e.val = v) ∨ e ∈ es.toList) ∧ (∀ e ∈ es.toList, e.key ≠ .string s → e ∈ es'.toList) ∧ ∃ e ∈ es'.toList, e.key = .string s ∧ e.val = v := by
  cases h : findStr s es.toList 0 with
  | none =>
    refine ⟨es.push { key := .string s, val := v, born := ck }, ck + 1, ?_, ?_, ?_, ?_, ?_⟩
    · unfold Instr.mapUpdate
      simp only [Sem.run_bind, run_underlying hT, Result.andThen, getObj_map hm, run_checkKey_str hK, run_findKey hK (findNow_str s _ 0 hs), h, setObj_map _ hm]
    · intro e he
      rw [Array.toList_push, List.mem_append, List.mem_singleton] at he
      rcases he with he | rfl
      · exact hs e he
      · exact ⟨s, rfl⟩
    · intro e he
      rw [Array.toList_push, List.mem_append, List.mem_singleton] at he
      rcases he with he | rfl
      · exact .inr he
      · exact .inl ⟨rfl, rfl⟩
    · intro e he _
      rw [Array.toList_push, List.mem_append]
      exact .inl he
    · exact ⟨{ key := .string s, val := v, born := ck }, by rw [Array.toList_push, List.mem_append]; exact .inr (by simp), rfl, rfl⟩
  | some r =>
    obtain ⟨j, u⟩ := r
    obtain ⟨_, e0, he0, hk0, _⟩ := findStr_some h
    rw [Nat.sub_zero] at he0
    have hj : j < es.size := by simpa using (List.getElem?_eq_some_iff.1 he0).1
    have hej : es[j]? = some e0 := by rw [← Array.getElem?_toList]; exact he0
    have hmod : (es.modify j fun e => { e with key := .string s, val := v }).toList = es.toList.set j { e0 with key := .string s, val := v } := by
      apply List.ext_getElem
      · simp
      · intro i h1 h2
        have hjl : j < es.toList.length := by simpa using hj
        have : es[j] = e0 := by rw [Array.getElem?_eq_getElem hj] at hej; exact Option.some.inj hej
        simp only [Array.getElem_toList, List.getElem_set, Array.getElem_modify]
        by_cases hij : j = i
        · subst hij; simp [this]
        · simp [hij]
    refine ⟨es.modify j fun e => { e with key := .string s, val := v }, ck, ?_, ?_, ?_, ?_, ?_⟩
    · unfold Instr.mapUpdate
      simp only [Sem.run_bind, run_underlying hT, Result.andThen, getObj_map hm, run_checkKey_str hK, run_findKey hK (findNow_str s _ 0 hs), h, hej, Option.map_some, Option.getD_some, hk0]
      unfold Instr.keyThatStays
      simp only [Instr.sameBits, beq_self, if_true, Sem.run_pure, setObj_map _ hm]
    all_goals rw [hmod]
    · intro e he
      rcases List.mem_or_eq_of_mem_set he with he | rfl
      · exact hs e he
      · exact ⟨s, rfl⟩
    · intro e he
      rcases List.mem_or_eq_of_mem_set he with he | rfl
      · exact .inr he
      · exact .inl ⟨rfl, rfl⟩
    · intro e he hne
      obtain ⟨i, hi, rfl⟩ := List.getElem_of_mem he
      have hij : j ≠ i := by
        rintro rfl
        rw [List.getElem?_eq_getElem hi] at he0
        rw [Option.some.inj he0] at hne
        exact hne hk0
      have : (es.toList.set j { e0 with key := .string s, val := v })[i]'(by simpa using hi) = es.toList[i] := List.getElem_set_ne hij _
      rw [← this]
      exact List.getElem_mem _
    · exact ⟨{ e0 with key := .string s, val := v }, List.mem_iff_getElem.2 ⟨j, by simpa using hj, by simp⟩, rfl, rfl⟩
end
end Go.Proofs.YtfnibmcenjiodaaGreatDoor.M
namespace Go.Proofs.YtfnibmcenjiodaaGreatDoor.M
open Go.Sort Go.Shelf Go.RowKit Go.Maps Go.Proofs.YtfnibmcenjiodaaGreatDoorW.PrintWords Go.Proofs.YtfnibmcenjiodaaGreatDoorW.PrintLast Go.Proofs.YtfnibmcenjiodaaGreatDoorW.PrintMore
attribute [local go_sem] Oper.semAt_some
set_option maxRecDepth 100000 in
set_option maxHeartbeats 1000000 in
theorem keys1_in (n : Nat) (hn : 1 ≤ n) (l Bm b nn : Nat) (D0 : DataW Unit) {R : Value → Option (DataW Unit × List MemPlace)} (J Jx : List (List UInt8) → World → Prop)
    (hY : ∀ pre x W, J pre W → pre.length < Maps.size D0 → has D0 (.string x) = true → YieldAt Fence.wide (n - 1) Tryz.prog l #[encStr x] W fun e W' =>
      (e = .returned (.bool true) ∧ J (pre ++ [x]) W' ∧ KeepsWalks W W') ∨ (e = .returned (.bool false) ∧ Jx (pre ++ [x]) W'))
    (W : World) (hJ : AbidesFrom W.heap.size J) (hm : W.cell? ⟨Bm, 0, none⟩ = some (.map (some b))) (hown : W.ownsMap Tryz.prog 9 R b nn D0) (h0 : J [] W) :
    CallsIn Fence.wide n Tryz.prog 190 #[.func (.yield l) #[] #[], .pointer (some ⟨Bm, 0, none⟩)] W fun e W' => (∃ v, e = .returned v) ∧
      ((∃ ss : List (List UInt8), (ss.Perm (strKeys D0) ∧ ∀ x, x ∈ ss ↔ has D0 (.string x) = true) ∧ J ss W') ∨ (∃ pre : List (List UInt8), (pre.Nodup ∧ ∀ x ∈ pre, has D0 (.string x) = true) ∧ Jx pre W')) := by
  refine callsIn_of_wp Tryz.func190 rfl trivial ?_ rfl
  simp only [Tryz.ntmps190, List.size_toArray, List.length_cons, List.length_nil, Nat.reduceAdd, Nat.reduceSub, Array.replicate_succ, Array.replicate_zero, List.push_toArray, List.append_toArray, List.nil_append, List.cons_append]
  gi_wp2_with (first
    | (gi_at_range; refine wpListIn_range_own _ rfl _ 222 rfl 9 9 (string_keyed Tryz.underlying9) Tryz.underlying222 _ b nn _ rfl hown ?_; intro w0 hrg0 hg0 hs0)
    | gi_in)
  go_frame
  gi_loopw [3] (fun _ wr => ∃ (left : Lit → Bool) (cnt : Nat) (ss : List (List UInt8)), wr.ranges Tryz.prog 9 R b W.heap.size nn D0 left cnt ∧ ss.length + cnt ≤ Maps.size D0 ∧ Collected D0 left ss ∧ J ss wr)
    (fun _ wr => wr.rangeLeft b W.heap.size)
  case atStart =>
    exact ⟨_, _, [], hrg0, by simp, Collected.start D0, hJ [] W w0 none h0 hg0 (fun r e => by cases e)⟩
  case round =>
    obtain ⟨left, cnt, ss, hrg, hcs, hC, hJs⟩ := hrel
    gi_wp2_with (first
      | (gi_at_next; refine wpListIn_next_ranges _ rfl _ rfl 9 (string_keyed Tryz.underlying9) R encStr id (fun key kl hk => by obtain ⟨x, hx, _⟩ := Maps.keyOf_str Tryz.underlying9 hk; exact ⟨x, hx⟩) (fun v _ _ => ⟨v, rfl⟩) b W.heap.size nn _ _ _ rfl hrg ?_ ?_)
      | gi_in)
    · intro hc0 hl0
      gi_wp2
      go_end0
      exact ⟨⟨_, rfl⟩, .inl ⟨ss, ⟨hC.perm hown (string_keyed Tryz.underlying9) Tryz.underlying9 hl0, fun x => by rw [hC.2 x, hl0]; simp⟩, hJs⟩⟩
    · intro x c kl yd yp w2 cnt2 hkey hlk hv hat hrg2 hlt hg2 hs2 hen
      obtain ⟨x', ex, rfl, _⟩ := Maps.keyOf_str Tryz.underlying9 hkey
      obtain rfl : x = x' := encStr_inj ex
      have hJ2 : J ss w2 := hJ ss wr w2 (some W.heap.size) hJs hg2 (fun r e => by cases e; exact ⟨Nat.le_refl _, hrg.iter_walk⟩)
      have hC2 := hC.step hlk hat
      obtain ⟨fn, tmps, assign, body, hy, hR⟩ := hY ss x w2 hJ2 (by omega) ((hC2.2 x).1 (by simp)).1
      clear hs2
      gi_wp2
      refine hR.mono ?_
      rintro e W3 (⟨rfl, hJ3, hk3⟩ | ⟨rfl, hJx3⟩)
      · gi_wp2
        have hrg3 := hrg2.of_walks hk3
        go_roundw
        case rel => exact ⟨_, cnt2, ss ++ [x], hrg3, by simp; omega, hC2, hJ3⟩
        case measure => rw [hrg3.left_eq, hrg.left_eq]; exact hlt
      · gi_wp2
        refine bodyPost_ret (results_none rfl _ _ _) rfl ?_
        exact ⟨⟨_, rfl⟩, .inr ⟨ss ++ [x], ⟨hC2.1, fun y hy => ((hC2.2 y).1 hy).1⟩, hJx3⟩⟩
abbrev KeyOf (D : DataW Unit) := { x : List UInt8 // has D (.string x) = true }
theorem keys_stops (n : Nat) (hn : 1 ≤ n) (Bm b nn : Nat) (D0 : DataW Unit) {R : Value → Option (DataW Unit × List MemPlace)} (w : World) (hBm : Bm < w.heap.size)
    (hm : w.cell? ⟨Bm, 0, none⟩ = some (.map (some b))) (hown : w.ownsMap Tryz.prog 9 R b nn D0) :
    SeqStopsK Fence.wide n Tryz.prog 190 #[.pointer (some ⟨Bm, 0, none⟩)] (fun x : KeyOf D0 => #[encStr x.1]) KeepsWalks (fun ss => ∀ x, x ∈ ss.map (·.1) ↔ has D0 (.string x) = true) (fun _ => True) (Maps.size D0) w := fun l J Jx W hW hJ _ hY h0 => by
  have hown' : W.ownsMap Tryz.prog 9 R b nn D0 := by
    have hbl := hown.lt
    obtain ⟨es, clock, hb, Ft, hs, hD⟩ := hown
    exact ⟨es, clock, (hW.block b hbl).trans hb, Ft, hs, hD⟩
  refine (keys1_in n hn l Bm b nn D0 (fun pre W => ∃ p : List (KeyOf D0), p.map (·.1) = pre ∧ J p W) (fun pre W => ∃ p : List (KeyOf D0), p.map (·.1) = pre ∧ Jx p W) ?_ W ?_ ((hW.cell (p := ⟨Bm, 0, none⟩) hBm).trans hm) hown' ⟨[], rfl, h0⟩).mono ?_
  · rintro pre x W1 ⟨p, rfl, hJp⟩ hl hx
    refine (hY p ⟨x, hx⟩ W1 hJp (by simpa using hl)).mono ?_
    rintro e w' (⟨rfl, hJ', hk⟩ | ⟨rfl, hJ'⟩)
    · exact .inl ⟨rfl, ⟨_, by simp, hJ'⟩, hk⟩
    · exact .inr ⟨rfl, ⟨_, by simp, hJ'⟩⟩
  · rintro s W1 W2 row ⟨p, hp, hJp⟩ hg hr
    exact ⟨p, hp, hJ p W1 W2 row hJp hg hr⟩
  · rintro e W' ⟨hv, ⟨ss, hss, p, rfl, hJp⟩ | ⟨pre, _, p, rfl, hJp⟩⟩
    · exact ⟨hv, .inl ⟨p, hss.2, hJp⟩⟩
    · exact ⟨hv, .inr ⟨p, trivial, hJp⟩⟩
theorem keys_calls (b : Nat) (w : World) :
    Calls Tryz.prog 136 #[.map (some b)] w fun e w' => e = .returned (.func (.func 190) #[] #[.pointer (some ⟨w.heap.size, 0, none⟩)]) ∧ w' = w.alloc (.cells #[.map (some b)] 222) := by
  go_enter Tryz.func136, Tryz.ntmps136
  go_wp2
  go_ret
  exact ⟨rfl, rfl⟩
end Go.Proofs.YtfnibmcenjiodaaGreatDoor.M
namespace Go.Proofs
open Go.Shelf
def Tryz.lays170_ren : Go.Shelf.Ren := ⟨fun | 170 => 65 | n => n, fun | 70 => 115 | 3 => 3 | 0 => 0 | 72 => 117 | 37 => 48 | 5 => 5 | n => n, fun | n => n⟩
theorem Tryz.lays170 : Go.Proofs.Lays.n170 Tryz.prog Tryz.lays170_ren := {
  mixed := by kernel_rfl
  f170 := Tryz.func65.trans (congrArg some (by kernel_rfl))
  t0 := Tryz.underlying0
  a0 := Tryz.isAgg0
  z0 := Tryz.sizeOf0
  v0 := Tryz.zeroValue0
  t3 := Tryz.underlying3
  a3 := Tryz.isAgg3
  z3 := Tryz.sizeOf3
  v3 := Tryz.zeroValue3
  t37 := Tryz.underlying48
  a37 := Tryz.isAgg48
  z37 := Tryz.sizeOf48
  v37 := Tryz.zeroValue48
  t70 := Tryz.underlying115
  a70 := Tryz.isAgg115
  z70 := Tryz.sizeOf115
  v70 := Tryz.zeroValue115
  t72 := Tryz.underlying117
  a72 := Tryz.isAgg117
  z72 := Tryz.sizeOf117
  v72 := Tryz.zeroValue117 }
def Tryz.lays169_ren : Go.Shelf.Ren := ⟨fun | 169 => 67 | n => n, fun | 70 => 115 | 9 => 9 | 0 => 0 | 72 => 117 | 37 => 48 | 127 => 204 | 3 => 3 | 5 => 5 | n => n, fun | n => n⟩
theorem Tryz.lays169 : Go.Proofs.Lays.n169 Tryz.prog Tryz.lays169_ren := {
  mixed := by kernel_rfl
  f169 := Tryz.func67.trans (congrArg some (by kernel_rfl))
  t0 := Tryz.underlying0
  a0 := Tryz.isAgg0
  z0 := Tryz.sizeOf0
  v0 := Tryz.zeroValue0
  t3 := Tryz.underlying3
  a3 := Tryz.isAgg3
  z3 := Tryz.sizeOf3
  v3 := Tryz.zeroValue3
  t9 := Tryz.underlying9
  a9 := Tryz.isAgg9
  z9 := Tryz.sizeOf9
  v9 := Tryz.zeroValue9
  t37 := Tryz.underlying48
  a37 := Tryz.isAgg48
  z37 := Tryz.sizeOf48
  v37 := Tryz.zeroValue48
  t70 := Tryz.underlying115
  a70 := Tryz.isAgg115
  z70 := Tryz.sizeOf115
  v70 := Tryz.zeroValue115
  t72 := Tryz.underlying117
  a72 := Tryz.isAgg117
  z72 := Tryz.sizeOf117
  v72 := Tryz.zeroValue117
  t127 := Tryz.underlying204
  a127 := Tryz.isAgg204
  z127 := Tryz.sizeOf204
  v127 := Tryz.zeroValue204 }
theorem Tryz.Builder_Extra_169 : Builder.Extra Tryz.prog Tryz.lays169_ren := {
  sizeBuilder := by kernel_rfl
  liesBuilder := by kernel_rfl
  t5 := Tryz.underlying5
  a5 := Tryz.isAgg5
  z5 := Tryz.sizeOf5
  v5 := Tryz.zeroValue5
  infoByte := by kernel_rfl
  cellsByte := by kernel_rfl
  sizeByte := by kernel_rfl
  neB5 := by decide }
def Tryz.lays165_ren : Go.Shelf.Ren := ⟨fun | 165 => 187 | 240 => 114 | 241 => 242 | 276 => 167 | 277 => 258 | n => n, fun | 70 => 115 | 3 => 3 | 0 => 0 | 4 => 4 | 9 => 9 | 20 => 20 | 72 => 117 | 37 => 48 | 164 => 262 | 5 => 5 | n => n, fun | n => n⟩
theorem Tryz.lays165 : Go.Proofs.Lays.n165 Tryz.prog Tryz.lays165_ren := {
  mixed := by kernel_rfl
  f165 := Tryz.func187.trans (congrArg some (by kernel_rfl))
  f240 := Tryz.func114.trans (congrArg some (by kernel_rfl))
  f241 := Tryz.func242.trans (congrArg some (by kernel_rfl))
  f276 := Tryz.func167.trans (congrArg some (by kernel_rfl))
  f277 := Tryz.func258.trans (congrArg some (by kernel_rfl))
  t0 := Tryz.underlying0
  a0 := Tryz.isAgg0
  z0 := Tryz.sizeOf0
  v0 := Tryz.zeroValue0
  t3 := Tryz.underlying3
  a3 := Tryz.isAgg3
  z3 := Tryz.sizeOf3
  v3 := Tryz.zeroValue3
  t4 := Tryz.underlying4
  a4 := Tryz.isAgg4
  z4 := Tryz.sizeOf4
  v4 := Tryz.zeroValue4
  t9 := Tryz.underlying9
  a9 := Tryz.isAgg9
  z9 := Tryz.sizeOf9
  v9 := Tryz.zeroValue9
  t20 := Tryz.underlying20
  a20 := Tryz.isAgg20
  z20 := Tryz.sizeOf20
  v20 := Tryz.zeroValue20
  t37 := Tryz.underlying48
  a37 := Tryz.isAgg48
  z37 := Tryz.sizeOf48
  v37 := Tryz.zeroValue48
  t70 := Tryz.underlying115
  a70 := Tryz.isAgg115
  z70 := Tryz.sizeOf115
  v70 := Tryz.zeroValue115
  t72 := Tryz.underlying117
  a72 := Tryz.isAgg117
  z72 := Tryz.sizeOf117
  v72 := Tryz.zeroValue117
  t164 := Tryz.underlying262
  a164 := Tryz.isAgg262
  z164 := Tryz.sizeOf262
  v164 := Tryz.zeroValue262 }
theorem Tryz.Builder_Extra_165 : Builder.Extra Tryz.prog Tryz.lays165_ren := {
  sizeBuilder := by kernel_rfl
  liesBuilder := by kernel_rfl
  t5 := Tryz.underlying5
  a5 := Tryz.isAgg5
  z5 := Tryz.sizeOf5
  v5 := Tryz.zeroValue5
  infoByte := by kernel_rfl
  cellsByte := by kernel_rfl
  sizeByte := by kernel_rfl
  neB5 := by decide }
def Tryz.lays160_ren : Go.Shelf.Ren := ⟨fun | 160 => 168 | 232 => 226 | 231 => 225 | 227 => 227 | 234 => 229 | 233 => 228 | 236 => 231 | 235 => 230 | 228 => 254 | 271 => 170 | 151 => 255 | 197 => 233 | 120 => 232 | 152 => 262 | 260 => 256 | 137 => 188 | 119 => 263 | 224 => 264 | 225 => 265 | 217 => 243 | 266 => 259 | n => n, fun | 9 => 9 | 4 => 4 | 3 => 3 | 5 => 5 | 117 => 309 | 116 => 308 | 0 => 0 | 124 => 312 | 21 => 21 | 105 => 264 | 46 => 212 | 119 => 339 | 139 => 342 | 138 => 341 | n => n, fun | 3 => 0 | 4 => 1 | n => n⟩
theorem Tryz.lays160 : Go.Proofs.Lays.n160 Tryz.prog Tryz.lays160_ren := {
  mixed := by kernel_rfl
  f119 := Tryz.func263.trans (congrArg some (by kernel_rfl))
  f120 := Tryz.func232.trans (congrArg some (by kernel_rfl))
  f137 := Tryz.func188.trans (congrArg some (by kernel_rfl))
  f151 := Tryz.func255.trans (congrArg some (by kernel_rfl))
  f152 := Tryz.func262.trans (congrArg some (by kernel_rfl))
  f160 := Tryz.func168.trans (congrArg some (by kernel_rfl))
  f197 := Tryz.func233.trans (congrArg some (by kernel_rfl))
  f217 := Tryz.func243.trans (congrArg some (by kernel_rfl))
  f224 := Tryz.func264.trans (congrArg some (by kernel_rfl))
  f225 := Tryz.func265.trans (congrArg some (by kernel_rfl))
  f227 := Tryz.func227.trans (congrArg some (by kernel_rfl))
  f228 := Tryz.func254.trans (congrArg some (by kernel_rfl))
  f231 := Tryz.func225.trans (congrArg some (by kernel_rfl))
  f232 := Tryz.func226.trans (congrArg some (by kernel_rfl))
  f233 := Tryz.func228.trans (congrArg some (by kernel_rfl))
  f234 := Tryz.func229.trans (congrArg some (by kernel_rfl))
  f235 := Tryz.func230.trans (congrArg some (by kernel_rfl))
  f236 := Tryz.func231.trans (congrArg some (by kernel_rfl))
  f260 := Tryz.func256.trans (congrArg some (by kernel_rfl))
  f266 := Tryz.func259.trans (congrArg some (by kernel_rfl))
  f271 := Tryz.func170.trans (congrArg some (by kernel_rfl))
  t0 := Tryz.underlying0
  a0 := Tryz.isAgg0
  z0 := Tryz.sizeOf0
  v0 := Tryz.zeroValue0
  t3 := Tryz.underlying3
  a3 := Tryz.isAgg3
  z3 := Tryz.sizeOf3
  v3 := Tryz.zeroValue3
  t4 := Tryz.underlying4
  a4 := Tryz.isAgg4
  z4 := Tryz.sizeOf4
  v4 := Tryz.zeroValue4
  t5 := Tryz.underlying5
  a5 := Tryz.isAgg5
  z5 := Tryz.sizeOf5
  v5 := Tryz.zeroValue5
  t9 := Tryz.underlying9
  a9 := Tryz.isAgg9
  z9 := Tryz.sizeOf9
  v9 := Tryz.zeroValue9
  t21 := Tryz.underlying21
  a21 := Tryz.isAgg21
  z21 := Tryz.sizeOf21
  v21 := Tryz.zeroValue21
  t46 := Tryz.underlying212
  a46 := Tryz.isAgg212
  z46 := Tryz.sizeOf212
  v46 := Tryz.zeroValue212
  t105 := Tryz.underlying264
  a105 := Tryz.isAgg264
  z105 := Tryz.sizeOf264
  v105 := Tryz.zeroValue264
  t116 := Tryz.underlying308
  a116 := Tryz.isAgg308
  z116 := Tryz.sizeOf308
  t117 := Tryz.underlying309
  a117 := Tryz.isAgg309
  z117 := Tryz.sizeOf309
  v117 := Tryz.zeroValue309
  t119 := Tryz.underlying339
  a119 := Tryz.isAgg339
  z119 := Tryz.sizeOf339
  t124 := Tryz.underlying312
  a124 := Tryz.isAgg312
  z124 := Tryz.sizeOf312
  v124 := Tryz.zeroValue312
  t138 := Tryz.underlying341
  a138 := Tryz.isAgg341
  z138 := Tryz.sizeOf341
  v138 := Tryz.zeroValue341
  t139 := Tryz.underlying342
  a139 := Tryz.isAgg342
  z139 := Tryz.sizeOf342
  v139 := Tryz.zeroValue342
  g3 := by kernel_rfl
  g4 := by kernel_rfl }
def Tryz.lays137_ren : Go.Shelf.Ren := ⟨fun | 137 => 188 | 217 => 243 | 266 => 259 | n => n, fun | 9 => 9 | 5 => 5 | 3 => 3 | n => n, fun | n => n⟩
theorem Tryz.lays137 : Go.Proofs.Lays.n137 Tryz.prog Tryz.lays137_ren := {
  mixed := by kernel_rfl
  f137 := Tryz.func188.trans (congrArg some (by kernel_rfl))
  f217 := Tryz.func243.trans (congrArg some (by kernel_rfl))
  f266 := Tryz.func259.trans (congrArg some (by kernel_rfl))
  t3 := Tryz.underlying3
  a3 := Tryz.isAgg3
  z3 := Tryz.sizeOf3
  v3 := Tryz.zeroValue3
  t5 := Tryz.underlying5
  a5 := Tryz.isAgg5
  z5 := Tryz.sizeOf5
  v5 := Tryz.zeroValue5
  t9 := Tryz.underlying9
  a9 := Tryz.isAgg9
  z9 := Tryz.sizeOf9
  v9 := Tryz.zeroValue9 }
open Go.RowKit in
theorem Tryz.strings_IndexByte (s : ByteArray) (c : Int) (w : World) :
    Calls Tryz.prog 188 #[.string s, .int .u8 c] w fun e w' => e = .returned (.int .i64 (Lib.indexByte s.data.toList c.toNat.toUInt8)) ∧ w' = w := Any.strings_IndexByte Tryz.lays137 s c w
def Tryz.lays103_ren : Go.Shelf.Ren := ⟨fun | 103 => 118 | 210 => 169 | 206 => 184 | n => n, fun | 9 => 9 | 4 => 4 | 24 => 65 | 3 => 3 | n => n, fun | n => n⟩
theorem Tryz.lays103 : Go.Proofs.Lays.n103 Tryz.prog Tryz.lays103_ren := {
  mixed := by kernel_rfl
  f103 := Tryz.func118.trans (congrArg some (by kernel_rfl))
  f206 := Tryz.func184.trans (congrArg some (by kernel_rfl))
  f210 := Tryz.func169.trans (congrArg some (by kernel_rfl))
  t3 := Tryz.underlying3
  a3 := Tryz.isAgg3
  z3 := Tryz.sizeOf3
  v3 := Tryz.zeroValue3
  t4 := Tryz.underlying4
  a4 := Tryz.isAgg4
  z4 := Tryz.sizeOf4
  v4 := Tryz.zeroValue4
  t9 := Tryz.underlying9
  a9 := Tryz.isAgg9
  z9 := Tryz.sizeOf9
  v9 := Tryz.zeroValue9
  t24 := Tryz.underlying65
  a24 := Tryz.isAgg65
  z24 := Tryz.sizeOf65
  v24 := Tryz.zeroValue65 }
open Go.RowKit in
theorem Tryz.strings_CutPrefix (s p : ByteArray) (w : World) :
    Calls Tryz.prog 118 #[.string s, .string p] w fun e w' => e = .returned (.tuple #[.string ⟨(Lib.trimPrefix s.data.toList p.data.toList).toArray⟩, .bool (Lib.hasPrefix s.data.toList p.data.toList)]) ∧ w' = w := Any.strings_CutPrefix Tryz.lays103 s p w
open Go.RowKit in
theorem Tryz.Builder_Len_f (B b : Nat) (bs : List Value) (w : World) (h : Lib.IsBuilderF 117 5 B b bs w) :
    Calls Tryz.prog 65 #[.pointer (some ⟨b, 0, none⟩)] w fun e w' => e = .returned (.int .i64 bs.length) ∧ w' = w := Any.Builder_Len_f Tryz.lays170 B b bs w h
open Go.RowKit in
theorem Tryz.Builder_String_any_f (B b : Nat) (l : List UInt8) (w : World) (h : Lib.IsBuilderF 117 5 B b (Lib.byteCells l) w) (hBw : B ≤ w.heap.size) :
    Calls Tryz.prog 67 #[.pointer (some ⟨b, 0, none⟩)] w fun e w' => e = .returned (.string ⟨l.toArray⟩) ∧ (Lib.IsBuilderF 117 5 B b (Lib.byteCells l) w' ∧ Below B w w') := Any.Builder_String_any_f Tryz.lays169 Tryz.Builder_Extra_169 B b l w h hBw
open Go.RowKit in
theorem Tryz.Builder_Grow_fresh_cap (B b n : Nat) (w : World) (hB : B ≤ b) (hbk : w.heap[b]? = some (.cells #[.pointer none, .slice none 0 0] 117 (0, 0))) (hBw : B ≤ w.heap.size) (hn : n ≤ 281474976710656) :
    Calls Tryz.prog 187 #[.pointer (some ⟨b, 0, none⟩), .int .i64 n] w fun e w' => e = .returned (.tuple #[]) ∧ (Lib.BuilderAt 117 5 B b (.pointer (some ⟨b, 0, none⟩)) [] w' ∧ Below B w w') ∧ ∃ p cap, w'.cell? ⟨b, 1, none⟩ = some (.slice p 0 cap) ∧ n ≤ cap := Any.Builder_Grow_fresh_cap Tryz.lays165 Tryz.Builder_Extra_165 B b n w hB hbk hBw hn
def Tryz.lays190_ren : Go.Shelf.Ren := ⟨fun | 190 => 74 | 125 => 122 | 258 => 121 | 128 => 180 | 129 => 181 | 302 => 171 | 303 => 172 | 304 => 173 | 305 => 174 | 306 => 175 | 307 => 176 | 308 => 177 | 309 => 178 | 310 => 179 | 333 => 234 | 329 => 235 | 330 => 236 | 334 => 237 | 335 => 238 | 336 => 185 | 344 => 257 | n => n, fun | 31 => 22 | 9 => 9 | 3 => 3 | 46 => 212 | 0 => 0 | 51 => 73 | 53 => 275 | 4 => 4 | 183 => 268 | 182 => 267 | 131 => 206 | 5 => 5 | 218 => 314 | 222 => 318 | 228 => 334 | 229 => 35 | n => n, fun | n => n⟩
theorem Tryz.lays190 : Go.Proofs.Lays.n190 Tryz.prog Tryz.lays190_ren := {
  mixed := by kernel_rfl
  f125 := Tryz.func122.trans (congrArg some (by kernel_rfl))
  f128 := Tryz.func180.trans (congrArg some (by kernel_rfl))
  f129 := Tryz.func181.trans (congrArg some (by kernel_rfl))
  f190 := Tryz.func74.trans (congrArg some (by kernel_rfl))
  f258 := Tryz.func121.trans (congrArg some (by kernel_rfl))
  f302 := Tryz.func171.trans (congrArg some (by kernel_rfl))
  f303 := Tryz.func172.trans (congrArg some (by kernel_rfl))
  f304 := Tryz.func173.trans (congrArg some (by kernel_rfl))
  f305 := Tryz.func174.trans (congrArg some (by kernel_rfl))
  f306 := Tryz.func175.trans (congrArg some (by kernel_rfl))
  f307 := Tryz.func176.trans (congrArg some (by kernel_rfl))
  f308 := Tryz.func177.trans (congrArg some (by kernel_rfl))
  f309 := Tryz.func178.trans (congrArg some (by kernel_rfl))
  f310 := Tryz.func179.trans (congrArg some (by kernel_rfl))
  f329 := Tryz.func235.trans (congrArg some (by kernel_rfl))
  f330 := Tryz.func236.trans (congrArg some (by kernel_rfl))
  f333 := Tryz.func234.trans (congrArg some (by kernel_rfl))
  f334 := Tryz.func237.trans (congrArg some (by kernel_rfl))
  f335 := Tryz.func238.trans (congrArg some (by kernel_rfl))
  f336 := Tryz.func185.trans (congrArg some (by kernel_rfl))
  f344 := Tryz.func257.trans (congrArg some (by kernel_rfl))
  t0 := Tryz.underlying0
  a0 := Tryz.isAgg0
  z0 := Tryz.sizeOf0
  v0 := Tryz.zeroValue0
  t3 := Tryz.underlying3
  a3 := Tryz.isAgg3
  z3 := Tryz.sizeOf3
  v3 := Tryz.zeroValue3
  t4 := Tryz.underlying4
  a4 := Tryz.isAgg4
  z4 := Tryz.sizeOf4
  v4 := Tryz.zeroValue4
  t5 := Tryz.underlying5
  a5 := Tryz.isAgg5
  z5 := Tryz.sizeOf5
  v5 := Tryz.zeroValue5
  t9 := Tryz.underlying9
  a9 := Tryz.isAgg9
  z9 := Tryz.sizeOf9
  v9 := Tryz.zeroValue9
  t31 := Tryz.underlying22
  a31 := Tryz.isAgg22
  z31 := Tryz.sizeOf22
  v31 := Tryz.zeroValue22
  t46 := Tryz.underlying212
  a46 := Tryz.isAgg212
  z46 := Tryz.sizeOf212
  v46 := Tryz.zeroValue212
  t51 := Tryz.underlying73
  a51 := Tryz.isAgg73
  z51 := Tryz.sizeOf73
  v51 := Tryz.zeroValue73
  t53 := Tryz.underlying275
  a53 := Tryz.isAgg275
  z53 := Tryz.sizeOf275
  v53 := Tryz.zeroValue275
  t131 := Tryz.underlying206
  a131 := Tryz.isAgg206
  z131 := Tryz.sizeOf206
  v131 := Tryz.zeroValue206
  t182 := Tryz.underlying267
  a182 := Tryz.isAgg267
  z182 := Tryz.sizeOf267
  v182 := Tryz.zeroValue267
  t183 := Tryz.underlying268
  a183 := Tryz.isAgg268
  z183 := Tryz.sizeOf268
  v183 := Tryz.zeroValue268
  t218 := Tryz.underlying314
  a218 := Tryz.isAgg314
  z218 := Tryz.sizeOf314
  v218 := Tryz.zeroValue314
  t222 := Tryz.underlying318
  a222 := Tryz.isAgg318
  z222 := Tryz.sizeOf318
  v222 := Tryz.zeroValue318
  t228 := Tryz.underlying334
  a228 := Tryz.isAgg334
  z228 := Tryz.sizeOf334
  v228 := Tryz.zeroValue334
  t229 := Tryz.underlying35
  a229 := Tryz.isAgg35
  z229 := Tryz.sizeOf35
  v229 := Tryz.zeroValue35 }
open Go.Sort Go.RowKit in
theorem Tryz.slices_Sort_string (blk off cap : Nat) (ss : List (List UInt8)) (w : World) (hH : Holds encStr w blk off ss.toArray) (hblk : blk < w.heap.size) (hsz : ss.length < 4611686018427387904) :
    Calls Tryz.prog 74 #[.slice (some ⟨blk, off, none⟩) ss.length cap] w fun e w' =>
      e = .returned (.tuple #[]) ∧ ∃ n os, w' = grow (putRow encStr (Sort.ahead w n) blk off (ss.mergeSort fun x y => decide (x ≤ y)).toArray) os := Any.slices_Sort_string Tryz.lays190 blk off cap ss w hH hblk hsz
def Tryz.lays99_ren : Go.Shelf.Ren := ⟨fun | 99 => 127 | 206 => 184 | n => n, fun | 9 => 9 | 4 => 4 | 3 => 3 | n => n, fun | n => n⟩
theorem Tryz.lays99 : Go.Proofs.Lays.n99 Tryz.prog Tryz.lays99_ren := {
  mixed := by kernel_rfl
  f99 := Tryz.func127.trans (congrArg some (by kernel_rfl))
  f206 := Tryz.func184.trans (congrArg some (by kernel_rfl))
  t3 := Tryz.underlying3
  a3 := Tryz.isAgg3
  z3 := Tryz.sizeOf3
  v3 := Tryz.zeroValue3
  t4 := Tryz.underlying4
  a4 := Tryz.isAgg4
  z4 := Tryz.sizeOf4
  v4 := Tryz.zeroValue4
  t9 := Tryz.underlying9
  a9 := Tryz.isAgg9
  z9 := Tryz.sizeOf9
  v9 := Tryz.zeroValue9 }
open Go.RowKit Go.Lib in
theorem Tryz.strings_HasPrefix (s p : ByteArray) (w : World) :
    Calls Tryz.prog 127 #[.string s, .string p] w fun e w' => e = .returned (.bool (Lib.hasPrefix s.data.toList p.data.toList)) ∧ w' = w := Any.strings_HasPrefix Tryz.lays99 s p w
def Tryz.lays212_ren : Go.Shelf.Ren := ⟨fun | 212 => 186 | 263 => 240 | 264 => 241 | n => n, fun | 46 => 212 | 51 => 73 | 146 => 321 | 53 => 275 | 148 => 323 | n => n, fun | n => n⟩
theorem Tryz.lays212 : Go.Proofs.Lays.n212 Tryz.prog Tryz.lays212_ren := {
  mixed := by kernel_rfl
  f212 := Tryz.func186.trans (congrArg some (by kernel_rfl))
  f263 := Tryz.func240.trans (congrArg some (by kernel_rfl))
  f264 := Tryz.func241.trans (congrArg some (by kernel_rfl))
  t46 := Tryz.underlying212
  a46 := Tryz.isAgg212
  z46 := Tryz.sizeOf212
  v46 := Tryz.zeroValue212
  t51 := Tryz.underlying73
  a51 := Tryz.isAgg73
  z51 := Tryz.sizeOf73
  v51 := Tryz.zeroValue73
  t53 := Tryz.underlying275
  a53 := Tryz.isAgg275
  z53 := Tryz.sizeOf275
  v53 := Tryz.zeroValue275
  t146 := Tryz.underlying321
  a146 := Tryz.isAgg321
  z146 := Tryz.sizeOf321
  v146 := Tryz.zeroValue321
  t148 := Tryz.underlying323
  a148 := Tryz.isAgg323
  z148 := Tryz.sizeOf323
  v148 := Tryz.zeroValue323 }
open Go.RowKit Go.Lib in
theorem Tryz.bits_Mul (x y : Nat) (hx : x < 18446744073709551616) (hy : y < 18446744073709551616) (w : World) :
    Calls Tryz.prog 186 #[.int .u64 x, .int .u64 y] w fun e w' => e = .returned (.tuple #[.int .u64 ((x * y / 18446744073709551616 : Nat) : Int), .int .u64 ((x * y % 18446744073709551616 : Nat) : Int)]) ∧ w' = w := Any.bits_Mul Tryz.lays212 x y hx hy w
def Tryz.laysNm216_ren : Go.Shelf.Ren := ⟨fun | 16 => 79 | n => n, fun | 24 => 22 | 9 => 9 | 4 => 4 | n => n, fun | n => n⟩
theorem Tryz.laysNm216 : Go.Proofs.Lays2.n16 Tryz.prog Tryz.laysNm216_ren := {
  mixed := by kernel_rfl
  f16 := Tryz.func79.trans (congrArg some (by kernel_rfl))
  t4 := Tryz.underlying4
  a4 := Tryz.isAgg4
  z4 := Tryz.sizeOf4
  v4 := Tryz.zeroValue4
  t9 := Tryz.underlying9
  a9 := Tryz.isAgg9
  z9 := Tryz.sizeOf9
  v9 := Tryz.zeroValue9
  t24 := Tryz.underlying22
  a24 := Tryz.isAgg22
  z24 := Tryz.sizeOf22
  v24 := Tryz.zeroValue22
  i9 := by kernel_rfl }
open Go.RowKit Go.Lib in
theorem Tryz.slices_Clone_string (b off n c : Nat) (zs : List ByteArray) (w : World) (hz : n ≤ zs.length) (hbig : n * 16 ≤ 140737488355328) (hc : ∀ j, j < zs.length → w.cell? ⟨b, off + j, none⟩ = some (.string (zs.getD j ByteArray.empty))) :
    Calls Tryz.prog 79 #[.slice (some ⟨b, off, none⟩) n c] w fun e w' => ∃ v', e = .returned v' ∧ w'.ownsRow w.heap.size 9 1 v' n ((zs.take n).map (Value.string)) ∧ v' ≠ .slice none 0 0 ∧ Below w.heap.size w w' := Any.slices_Clone_string Tryz.laysNm216 b off n c zs w hz hbig hc
def Tryz.lays194_ren : Go.Shelf.Ren := ⟨fun | 194 => 148 | n => n, fun | 31 => 22 | 9 => 9 | 3 => 3 | 4 => 4 | 0 => 0 | n => n, fun | n => n⟩
theorem Tryz.lays194 : Go.Proofs.Lays.n194 Tryz.prog Tryz.lays194_ren := {
  mixed := by kernel_rfl
  f194 := Tryz.func148.trans (congrArg some (by kernel_rfl))
  t0 := Tryz.underlying0
  a0 := Tryz.isAgg0
  z0 := Tryz.sizeOf0
  v0 := Tryz.zeroValue0
  t3 := Tryz.underlying3
  a3 := Tryz.isAgg3
  z3 := Tryz.sizeOf3
  v3 := Tryz.zeroValue3
  t4 := Tryz.underlying4
  a4 := Tryz.isAgg4
  z4 := Tryz.sizeOf4
  v4 := Tryz.zeroValue4
  t9 := Tryz.underlying9
  a9 := Tryz.isAgg9
  z9 := Tryz.sizeOf9
  v9 := Tryz.zeroValue9
  t31 := Tryz.underlying22
  a31 := Tryz.isAgg22
  z31 := Tryz.sizeOf22
  v31 := Tryz.zeroValue22 }
open Go.RowKit Go.Lib Go.Sort in
theorem Tryz.slices_Compact_string (blk off cap : Nat) (zs : List (List UInt8)) (w : World) (hH : Holds encStr w blk off zs.toArray) (hsz : zs.length ≤ 9223372036854775807) (hcap : zs.length ≤ cap) :
    Calls Tryz.prog 148 #[.slice (some ⟨blk, off, none⟩) zs.length cap] w fun e w' => e = .returned (.slice (some ⟨blk, off, none⟩) (Lib.compact zs).length cap) ∧ ∃ q, w' = putRow encStr (Sort.ahead w q) blk off (Lib.compact zs ++ List.replicate (zs.length - (Lib.compact zs).length) []).toArray := Any.slices_Compact_string Tryz.lays194 blk off cap zs w hH hsz hcap
open Go.RowKit Go.Lib Go.Sort in
theorem Tryz.slices_Compact_string_empty (a : Option Addr) (cap : Nat) (w : World) :
    Calls Tryz.prog 148 #[.slice a 0 cap] w fun e w' => e = .returned (.slice a 0 cap) ∧ w' = w := Any.slices_Compact_string_empty Tryz.lays194 a cap w
open Go.RowKit in
theorem Tryz.strings_Trim_signs (s : ByteArray) (w : World) (hs : s.size ≤ 9223372036854775807) :
    Calls Tryz.prog 168 #[.string s, .string ⟨#[45, 46]⟩] w fun e w' => e = .returned (.string ⟨(Lib.trimS s.data.toList [45, 46]).toArray⟩) ∧ Below w.heap.size w w' :=
  Any.strings_Trim_laid Tryz.lays160 (by kernel_rfl) s ⟨#[45, 46]⟩ w hs (by decide) (ascii_of_all (by decide))
end Go.Proofs
namespace Go.Proofs.YtfnibmcenjiodaaGreatDoor.M
open Go.Shelf Go.RowKit Go.Proofs.YtfnibmcenjiodaaGreatDoorW.PrintWords Go.Proofs.YtfnibmcenjiodaaGreatDoorW.PrintLast Go.Proofs.YtfnibmcenjiodaaGreatDoorW.PrintMore
attribute [local go_sem] Oper.semAt_some
theorem in1 (n lo hi : Int) (p q : Addr) (w : World) (h1 : w.cell? p = some (.int .i64 lo)) (h2 : w.cell? q = some (.int .i64 hi)) :
   Calls Tryz.prog 113 #[.int .i64 n, .pointer (some p), .pointer (some q)] w fun e w' => e = .returned (.bool (decide (n < lo) || decide (hi < n))) ∧ w = w' := by
  by_cases hlt : n < lo
  · have hd : decide (n < lo) = true := by simpa using hlt
    go_enter Tryz.func113, Tryz.ntmps113
    go_wp2
    go_ret
    exact ⟨by simp [hlt], rfl⟩
  · have hd : decide (n < lo) = false := by simpa using hlt
    go_enter Tryz.func113, Tryz.ntmps113
    go_wp2
    go_ret
    exact ⟨by simp, rfl⟩
set_option maxHeartbeats 400000 in
theorem indexFunc_int (g : Nat) (cap : Array Value) (args : Int → Array Value) (P : Int → Bool) (A : Option Addr) (c : Nat) (l : List Int) (w : World) (hr : Kd.C (Kd.int .i64) w A l.length l)
   (eg : ∀ args w, (callFunc g args).run Tryz.prog w = .ok (.enter g args) w)
   (ha : Hid (∀ x, #[Value.int .i64 x] ++ cap = args x))
   (hf : Hid (∀ x, Calls Tryz.prog g (args x) w fun e w' => e = .returned (.bool (P x)) ∧ w = w')) :
   Calls Tryz.prog 166 #[.slice A l.length c, .func (.func g) #[] cap] w fun e w' => e = .returned (.int .i64 (pIdx P l)) ∧ w = w' := by
  have hmax := Kd.C_max hr
  go_enter Tryz.func166, Tryz.ntmps166
  go_wp2
  go_loop [8] (fun i => ∃ k : Nat, k ≤ l.length ∧ i = .int .i64 k ∧ Hid (∀ i (hi : i < k) (h : i < l.length), P l[i] = false)) (fun i => l.length - (intOf i).toNat)
  case atStart => exact ⟨0, by omega, rfl, Lib.hid (fun i hi => by omega)⟩
  case round =>
    obtain ⟨k, hk, rfl, H⟩ := hrel
    by_cases hlt : k < l.length
    · obtain ⟨ad, rfl, hcell⟩ := Kd.at_int hr k (by omega) (by omega)
      rw [show ((k : Int).toNat) = k from by omega] at hcell
      have hrd : Hid (rd l k = l[k]) := Lib.hid (by simp [rd, hlt])
      go_wp2_with fail
      rw [ha.out]
      refine (hf.out _).mono ?_
      rintro e w' ⟨rfl, rfl⟩
      cases hb : P (rd l k)
      · go_wp2
        go_round
        case rel => exact ⟨k + 1, by omega, by go_num, Lib.hid (fun i hi h => by
          by_cases e : i < k
          · exact H.out i e h
          · obtain rfl : i = k := by omega
            rw [← hrd.out]; exact hb)⟩
        case measure => simp [intOf]; omega
      · go_wp2
        go_ret
        exact ⟨ret_int (pIdx_some P l k hlt (fun i hi => H.out i hi (by omega)) (by rw [← hrd.out]; exact hb)).symm, rfl⟩
    · go_wp2
      go_ret
      exact ⟨ret_int (pIdx_none P l (fun i hi => H.out i (by omega) hi)).symm, rfl⟩
theorem containsFunc_int (g : Nat) (cap : Array Value) (args : Int → Array Value) (P : Int → Bool) (A : Option Addr) (c : Nat) (l : List Int) (w : World) (hr : Kd.C (Kd.int .i64) w A l.length l)
   (eg : ∀ args w, (callFunc g args).run Tryz.prog w = .ok (.enter g args) w)
   (ha : Hid (∀ x, #[Value.int .i64 x] ++ cap = args x))
   (hf : Hid (∀ x, Calls Tryz.prog g (args x) w fun e w' => e = .returned (.bool (P x)) ∧ w = w')) :
   Calls Tryz.prog 112 #[.slice A l.length c, .func (.func g) #[] cap] w fun e w' => e = .returned (.bool (l.any P)) ∧ w = w' := by
  go_enter Tryz.func112, Tryz.ntmps112
  go_wp2_with fail
  refine (indexFunc_int g cap args P A c l w hr eg ha hf).mono ?_
  rintro e w' ⟨rfl, rfl⟩
  go_wp2
  go_ret
  exact ⟨ret_bool (pIdx_any P l), rfl⟩
def inB (lo hi : Int) (l : List Int) : Bool := l.all fun n => decide (lo ≤ n) && decide (n ≤ hi)
theorem inB_any (lo hi : Int) (l : List Int) : (!l.any fun n => decide (n < lo) || decide (hi < n)) = inB lo hi l := by
  unfold inB
  rw [Bool.eq_iff_iff]
  simp [List.any_eq_false]
theorem wire_in (lo hi : Int) (A : Option Addr) (c : Nat) (l : List Int) (w : World) (hr : Kd.C (Kd.int .i64) w A l.length l) :
   Calls Tryz.prog 64 #[.int .i64 lo, .int .i64 hi, .slice A l.length c] w fun e w' => e = .returned (.bool (inB lo hi l)) ∧ Below w.heap.size w w' := by
  go_enter Tryz.func64, Tryz.ntmps64
  go_wp2_with fail
  refine (containsFunc_int 113 _ (fun x => #[.int .i64 x, .pointer (some ⟨w.heap.size, 0, none⟩), .pointer (some ⟨w.heap.size + 1, 0, none⟩)]) (fun n => decide (n < lo) || decide (hi < n)) A c l _ (Kd.C_alloc (Kd.C_alloc hr _) _) (enters_of Tryz.func113 (by kernel_rfl) rfl) (Lib.hid (fun _ => rfl)) (Lib.hid (fun x => in1 x lo hi _ _ _ (cell_old _ (cell_new _ _ _)) (cell_new1 _ _ _ _)))).mono ?_
  rintro e w' ⟨rfl, rfl⟩
  go_wp2
  go_ret
  exact ⟨ret_bool (inB_any lo hi l), below2 _ _ _⟩
def isSigns (s : ByteArray) : Bool := s.data.toList.all fun b => b == 45 || b == 46
theorem dropWhile_nil {α : Type} (p : α → Bool) (l : List α) : l.dropWhile p = [] ↔ ∀ x ∈ l, p x = true := by
  induction l with
  | nil => simp
  | cons a l ih =>
    by_cases h : p a = true
    · simp [h, ih]
    · simp [h]
theorem trimS_nil (l : List UInt8) : Lib.trimS l [45, 46] = [] ↔ ∀ b ∈ l, b = 45 ∨ b = 46 := by
  unfold Lib.trimS Lib.trimLeftS Lib.trimRightS
  rw [dropWhile_nil]
  constructor
  · intro h
    have h2 : l.reverse.dropWhile (fun x => [45, 46].contains x) = [] := by
      cases hd : l.reverse.dropWhile (fun x => [45, 46].contains x) with
      | nil => rfl
      | cons a m =>
        have := List.head_dropWhile_not (fun x => ([45, 46] : List UInt8).contains x) (l := l.reverse) (by rw [hd]; simp)
        simp only [hd, List.head_cons] at this
        have h3 := h a (by rw [hd]; simp)
        rw [h3] at this
        cases this
    rw [dropWhile_nil] at h2
    intro b hb
    have := h2 b (by simpa using hb)
    simpa using this
  · intro h x hx
    have : x ∈ l := by
      have := (List.dropWhile_sublist (fun x => ([45, 46] : List UInt8).contains x)).subset (List.mem_reverse.1 hx)
      simpa using this
    simpa using h x this
theorem isSigns_iff (s : ByteArray) : isSigns s = true ↔ ∀ b ∈ s.data.toList, b = 45 ∨ b = 46 := by
  unfold isSigns
  rw [List.all_eq_true]
  simp only [Bool.or_eq_true, beq_iff_eq]
theorem wire_signs (s : ByteArray) (w : World) (hs : s.size ≤ 9223372036854775807) :
   Calls Tryz.prog 115 #[.string s] w fun e w' => e = .returned (.bool (isSigns s)) ∧ Below w.heap.size w w' := by
  by_cases hb : isSigns s = true
  · have ht : (Lib.trimS s.data.toList [45, 46]) = [] := (trimS_nil _).2 ((isSigns_iff s).1 hb)
    have Ht := Lib.hid ht
    clear ht
    go_enter Tryz.func115, Tryz.ntmps115
    go_wp2_with fail
    refine (Tryz.strings_Trim_signs s w hs).mono ?_
    rw [Ht.out]
    rintro e w' ⟨rfl, hw⟩
    go_wp2
    go_ret
    exact ⟨by rw [hb]; rfl, hw⟩
  · have ht : (Lib.trimS s.data.toList [45, 46]) ≠ [] := fun h => hb ((isSigns_iff s).2 ((trimS_nil _).1 h))
    obtain ⟨x, y, he⟩ := List.exists_cons_of_ne_nil ht
    have Ht := Lib.hid he
    clear ht he
    go_enter Tryz.func115, Tryz.ntmps115
    go_wp2_with fail
    refine (Tryz.strings_Trim_signs s w hs).mono ?_
    rw [Ht.out]
    rintro e w' ⟨rfl, hw⟩
    go_wp2
    go_ret
    exact ⟨by rw [show isSigns s = false by simpa using hb]; rfl, hw⟩
end Go.Proofs.YtfnibmcenjiodaaGreatDoor.M
namespace Go.Proofs.YtfnibmcenjiodaaGreatDoor.M
open Go.Sort Go.Shelf Go.RowKit Go.Proofs.YtfnibmcenjiodaaGreatDoorW.PrintWords Go.Proofs.YtfnibmcenjiodaaGreatDoorW.PrintLast Go.Proofs.YtfnibmcenjiodaaGreatDoorW.PrintMore
attribute [local go_sem] Oper.semAt_some
theorem info9 : (Tryz.prog.info? 9).map (fun i => (i.zero, i.size, i.bytes)) = some (some (.string ⟨#[]⟩), 1, 16) := by kernel_rfl
theorem info3 : (Tryz.prog.info? 3).map (fun i => (i.zero, i.size, i.bytes)) = some (some (.int .i64 0), 1, 8) := by kernel_rfl
set_option maxRecDepth 100000 in
set_option maxHeartbeats 2000000 in
theorem values1_in (n : Nat) (hn : 1 ≤ n) (l Bs : Nat) (A : Option Addr) (c : Nat) (ss : List ByteArray) (w : World) (hC : Kd.C Kd.string w A ss.length ss) (hBs : Bs < w.heap.size) (hc : w.cell? ⟨Bs, 0, none⟩ = some (.slice A ss.length c)) (J Jx : List ByteArray → World → Prop)
    (hY : ∀ pre x W, J pre W → pre.length < ss.length → YieldAt Fence.wide (n - 1) Tryz.prog l #[.string x] W fun e W' =>
      (e = .returned (.bool true) ∧ J (pre ++ [x]) W' ∧ Below w.heap.size W W') ∨ (e = .returned (.bool false) ∧ Jx (pre ++ [x]) W'))
    (W : World) (hW : Below w.heap.size w W) (h0 : J [] W) :
    CallsIn Fence.wide n Tryz.prog 183 #[.func (.yield l) #[] #[], .pointer (some ⟨Bs, 0, none⟩)] W fun e W' => (∃ v, e = .returned v) ∧
      ((∃ ys, ys = ss ∧ J ys W') ∨ (∃ pre, pre <+: ss ∧ Jx pre W')) := by
  have hcW := (hW.cell (p := ⟨Bs, 0, none⟩) hBs).trans hc
  have hmax := Kd.C_max hC
  refine callsIn_of_wp Tryz.func183 rfl trivial ?_ rfl
  simp only [Tryz.ntmps183, List.size_toArray, List.length_cons, List.length_nil, Nat.reduceAdd, Nat.reduceSub, Array.replicate_succ, Array.replicate_zero, List.push_toArray, List.append_toArray, List.nil_append, List.cons_append]
  gi_wp2
  gi_loopw [7] (fun i wr => ∃ k : Nat, k ≤ ss.length ∧ i = .int .i64 k ∧ J (ss.take k) wr ∧ Below w.heap.size w wr)
    (fun i _ => ss.length - (intOf i).toNat)
  case atStart => exact ⟨0, Nat.zero_le _, rfl, h0, hW⟩
  case round =>
    obtain ⟨k, hk, rfl, hJs, hnx⟩ := hrel
    by_cases hlt : k < ss.length
    · obtain ⟨ad, rfl, hcell⟩ := Kd.at_string (Kd.C_below hC hnx) k (by omega) (by omega)
      rw [show ((k : Int).toNat) = k from by omega] at hcell
      have hrd : rdOf ByteArray.empty ss k = ss[k] := by simp [rdOf, hlt]
      rw [hrd] at hcell
      clear hrd
      obtain ⟨fn, tmps, assign, body, hy, hR⟩ := hY _ ss[k] wr hJs (by simp; omega)
      have htk : ss.take k ++ [ss[k]] = ss.take (k + 1) := (List.take_succ_eq_append_getElem hlt).symm
      rw [htk] at hR
      clear htk
      gi_wp2
      refine hR.mono ?_
      rintro e W3 (⟨rfl, hJ3, hk3⟩ | ⟨rfl, hJx3⟩)
      · gi_wp2
        go_roundw
        case rel => exact ⟨k + 1, by omega, by simp, hJ3, hnx.trans hk3⟩
        case measure => simp [intOf]; omega
      · gi_wp2
        refine bodyPost_ret (results_none rfl _ _ _) rfl ?_
        exact ⟨⟨_, rfl⟩, .inr ⟨_, List.take_prefix _ _, hJx3⟩⟩
    · obtain rfl : k = ss.length := by omega
      gi_wp2
      go_end0
      exact ⟨⟨_, rfl⟩, .inl ⟨_, rfl, by rwa [List.take_length] at hJs⟩⟩
set_option maxHeartbeats 1000000 in
theorem values_calls (A : Option Addr) (c : Nat) (len : Nat) (w : World) :
    Calls Tryz.prog 126 #[.slice A len c] w fun e w' => e = .returned (.func (.func 183) #[] #[.pointer (some ⟨w.heap.size, 0, none⟩)]) ∧ w' = w.alloc (.cells #[.slice A len c] 22) := by
  go_enter Tryz.func126, Tryz.ntmps126
  go_wp2
  go_ret
  exact ⟨rfl, rfl⟩
theorem values_stops (n : Nat) (hn : 1 ≤ n) (Bs : Nat) (A : Option Addr) (c : Nat) (ss : List ByteArray) (w : World) (hC : Kd.C Kd.string w A ss.length ss) (hBs : Bs < w.heap.size) (hc : w.cell? ⟨Bs, 0, none⟩ = some (.slice A ss.length c)) :
    SeqStopsK Fence.wide n Tryz.prog 183 #[.pointer (some ⟨Bs, 0, none⟩)] (fun x : ByteArray => #[Value.string x]) (Below w.heap.size) (fun ys => ys = ss) (fun pre => pre <+: ss) ss.length w :=
  fun l J Jx W hW _ _ hY h0 => values1_in n hn l Bs A c ss w hC hBs hc J Jx hY W hW h0
set_option maxRecDepth 100000 in
set_option maxHeartbeats 2000000 in
theorem appendSeq_calls (g : Nat) (lb : Array Value) (eg : ∀ args w, (callFunc g args).run Tryz.prog w = .ok (.enter g args) w) (S Sp : List ByteArray → Prop) (N : Nat) (hN : N ≤ 1000000000) (w : World)
    (hseq : SeqStopsK Fence.wide 8 Tryz.prog g lb (fun x : ByteArray => #[Value.string x]) (Below w.heap.size) S Sp N w) :
    Calls Tryz.prog 239 #[.slice none 0 0, .func (.func g) #[] lb] w fun e w' => ∃ (v : Value) (xs : List ByteArray), e = .returned v ∧ S xs ∧ w'.ownsRow w.heap.size 9 1 v xs.length (xs.map Value.string) ∧ (v = .slice none 0 0 ↔ xs = []) ∧ Below w.heap.size w w' := by
  obtain ⟨i0, hi, hz0, hz1, hz2⟩ := info_parts info9
  refine (callsIn_wide (n := 9)).1 ?_
  refine callsIn_of_wp_marks Tryz.func239 rfl trivial ?_ rfl
  simp only [Tryz.ntmps239, List.size_toArray, List.length_cons, List.length_nil, Nat.reduceAdd, Nat.reduceSub, Array.replicate_succ, Array.replicate_zero, List.push_toArray, List.append_toArray, List.nil_append, List.cons_append]
  gi_wp2
  have bO := Boxed.new w 22 (.slice none 0 0)
  have hB0 : Below w.heap.size w (w.alloc (.cells #[.slice none 0 0] 22)) := below1 w _
  refine wpIn_rangeFunc_ownG rfl (by decide) (gf := g) (lb := lb) rfl trivial eg (w0 := w)
    hseq belowK_t (belowK_b (by simp)) hB0 (fun _ => rfl)
    (fun pre W => (∃ v, Boxed W w.heap.size 22 v ∧ W.ownsRow w.heap.size 9 1 v pre.length (pre.map Value.string) ∧ (v = .slice none 0 0 ↔ pre = [])) ∧ Below w.heap.size w W)
    (fun _ _ _ => False)
    (OwnFrom.and (Own.from (holdsRow_own w.heap.size w.heap.size 22 9 1 (fun pre : List ByteArray => pre.length) (fun pre => pre.map Value.string) (fun pre v => v = .slice none 0 0 ↔ pre = [])) _) (ownFrom_below (Nat.le_refl _) (by simp)))
    (fun _ _ _ _ _ hs _ _ => hs)
    ⟨⟨_, bO, World.ownsRow_nil _ _ _ _, by simp⟩, hB0⟩
    (fun x => { tmps := #[.slice none 0 0, .func (.func g) #[] lb, .pointer (some ⟨w.heap.size, 0, none⟩), undef, .slice none 0 0, .string x, .func (.func g) #[] lb, .string x, undef, undef, undef, undef, undef], defers := [] }) ?assign ?body ?done ?stop
  case assign =>
    intro l x W K hK
    gi_wp2
    exact hK
  case body =>
    rintro l pre x W ⟨⟨v, hv, hrow, hnil⟩, hB⟩ hlt
    have hc := hv.cell
    gi_wp2_with (gi_at_builtin; refine wpListIn_append_own _ rfl _ _ 22 rfl w.heap.size 9 i0 (.string ⟨#[]⟩) 1 16 Tryz.underlying22 hi hz0 hz1 hz2 rfl (by decide) _ _ _ rfl (hrow.alloc _) ⟨W.heap.size, 0, none⟩ 1 1 [.string x] rfl rfl (cell_one_new _ _ _) (by simp [Value.oneCell']) (by unfold maxLen; omega) (by omega) (by have := hB.size; simp; omega) ?_; intro v' w1 hown' hgrow _; obtain ⟨g', cap', rfl⟩ := ownsRow_succ hown'; obtain ⟨hv1, hv2, hr2, hk2, hb2⟩ := hv.appended (by decide) hrow hB.size (Nat.le_refl _) hown' hgrow; have hc1 := hv1.cell; have hf1 := hv1.frozen)
    exact ⟨hk2.from _, hb2, ⟨_, hv2, by simpa using hr2, by simp⟩, hB.trans hb2⟩
  case done =>
    rintro D ys W hD hs ⟨⟨v, hv, hrow, hnil⟩, hB⟩ hK
    have hc := hv.cell
    gi_wp2
    refine ⟨by simp, .inl ⟨_, _, rfl, run_takeDeferred hK, ?_⟩⟩
    exact ⟨_, results_tmp rfl _ _ _, v, ys, rfl, hs, ownsRow_putObj hrow _ hK rfl, hnil, hB.trans (belowK_b (w := w) (Nat.le_refl _) W D _ _ (by simp at hD; omega) hK rfl rfl)⟩
  case stop =>
    rintro D c pre W _ _ h _
    exact h.elim
theorem collect_calls (g : Nat) (lb : Array Value) (eg : ∀ args w, (callFunc g args).run Tryz.prog w = .ok (.enter g args) w) (S Sp : List ByteArray → Prop) (N : Nat) (hN : N ≤ 1000000000) (w : World)
    (hseq : SeqStopsK Fence.wide 8 Tryz.prog g lb (fun x : ByteArray => #[Value.string x]) (Below w.heap.size) S Sp N w) :
    Calls Tryz.prog 182 #[.func (.func g) #[] lb] w fun e w' => ∃ (v : Value) (xs : List ByteArray), e = .returned v ∧ S xs ∧ w'.ownsRow w.heap.size 9 1 v xs.length (xs.map Value.string) ∧ (v = .slice none 0 0 ↔ xs = []) ∧ Below w.heap.size w w' := by
  go_enter Tryz.func182, Tryz.ntmps182
  go_wp2_with fail
  refine (appendSeq_calls g lb eg S Sp N hN w hseq).mono ?_
  rintro e w' ⟨v, xs, rfl, h1, h2, h3, h4⟩
  go_wp2
  go_ret
  exact ⟨v, xs, rfl, h1, h2, h3, h4⟩
def sortB (ss : List ByteArray) : List (List UInt8) := (ss.map (·.data.toList)).mergeSort fun x y => decide (x ≤ y)
theorem map_string_enc (ss : List ByteArray) : ss.map Value.string = (ss.map (·.data.toList)).map encStr := by
  rw [List.map_map]; rfl
set_option maxHeartbeats 1000000 in
theorem sorted_calls (g : Nat) (lb : Array Value) (eg : ∀ args w, (callFunc g args).run Tryz.prog w = .ok (.enter g args) w) (S Sp : List ByteArray → Prop) (N : Nat) (hN : N ≤ 1000000000) (w : World)
    (hseq : SeqStopsK Fence.wide 8 Tryz.prog g lb (fun x : ByteArray => #[Value.string x]) (Below w.heap.size) S Sp N w) (hS : ∀ xs, S xs → xs.length ≤ N) :
    Calls Tryz.prog 125 #[.func (.func g) #[] lb] w fun e w' => ∃ (v : Value) (xs : List ByteArray), e = .returned v ∧ S xs ∧ w'.ownsRow w.heap.size 9 1 v xs.length ((sortB xs).map encStr) ∧ (v = .slice none 0 0 ↔ xs = []) ∧ Below w.heap.size w w' := by
  go_enter Tryz.func125, Tryz.ntmps125
  go_wp2_with fail
  refine (collect_calls g lb eg S Sp N hN w hseq).mono ?_
  rintro e w' ⟨v, xs, rfl, h1, hrow, hnil, hb⟩
  rw [map_string_enc] at hrow
  rcases hrow.2 with ⟨rfl, hz⟩ | ⟨gb, cap, cur, rfl, hbase, hgb, r1, r2, r3, r4⟩
  · have hxs : xs = [] := List.eq_nil_of_length_eq_zero hz
    subst hxs
    go_wp2_with fail
    refine (Any.slices_Sort_string_none Tryz.lays190 none 0 w').mono ?_
    rintro e w' ⟨rfl, rfl⟩
    go_wp2
    go_ret
    exact ⟨.slice none 0 0, [], rfl, h1, by simpa [sortB] using hrow, by simp, hb⟩
  · have hH : Holds encStr w' gb 0 (xs.map (·.data.toList)).toArray := holds_of_block hgb (by simpa using r4)
    have hgl : gb < w'.heap.size := (Array.getElem?_eq_some_iff.1 hgb).1
    have hlen : (xs.map (·.data.toList)).length = xs.length := by simp
    have cS := Tryz.slices_Sort_string gb 0 cap (xs.map (·.data.toList)) w' hH hgl (by rw [hlen]; have := hS _ h1; omega)
    rw [hlen] at cS
    have HL := Lib.hid hlen
    clear hlen
    go_wp2_with fail
    refine cS.mono ?_
    rintro e w2 ⟨rfl, nn, os, rfl⟩
    go_wp2
    go_ret
    refine ⟨_, xs, rfl, h1, ?_, hnil, hb.grown (grownBy_sorted _) hb.size (fun j hj => by cases hj; exact hbase)⟩
    have := ownsRow_sorted (n := nn) (os := os) (ss := xs.map (·.data.toList)) (ts := sortB xs) (by simp [sortB]) hbase hgb (by simpa using r1) r2 r3
    rw [HL.out] at this
    exact this
end Go.Proofs.YtfnibmcenjiodaaGreatDoor.M
namespace Go.Proofs.YtfnibmcenjiodaaGreatDoor.M
open Go.Sort Go.Shelf Go.RowKit Go.Proofs.YtfnibmcenjiodaaGreatDoorW.PrintWords Go.Proofs.YtfnibmcenjiodaaGreatDoorW.PrintLast Go.Proofs.YtfnibmcenjiodaaGreatDoorW.PrintMore
attribute [local go_sem] Oper.semAt_some
theorem C_one_int {W : World} {b : Nat} {v : Int} {t : TypeId} (h : W.heap[b]? = some (.cells #[.int .i64 v] t (0, 0))) : Kd.C (Kd.int .i64) W (some ⟨b, 0, none⟩) 1 [v] := by
  refine ⟨rfl, by simp, fun _ => ⟨_, rfl, fun i p hp => ?_⟩⟩
  cases i with
  | zero =>
    simp at hp; subst hp
    refine ⟨[.int .i64 v], rfl, rfl, fun j u hu => ?_⟩
    cases j with
    | zero => simp at hu; subst hu; exact box_cell h
    | succ j => simp at hu
  | succ i => simp at hp
theorem wire_in1 (lo hi x : Int) (A : Option Addr) (c : Nat) (w : World) (hr : Kd.C (Kd.int .i64) w A 1 [x]) :
   Calls Tryz.prog 64 #[.int .i64 lo, .int .i64 hi, .slice A 1 c] w fun e w' => e = .returned (.bool (inB lo hi [x])) ∧ Below w.heap.size w w' := wire_in lo hi A c [x] w hr
theorem checks1 (A : Option Addr) (c len : Nat) (w : World) :
    Calls Tryz.prog 143 #[.agg #[.slice A len c]] w fun e w' => e = .returned (.bool (inB 1 7 [(len : Int)])) ∧ Below w.heap.size w w' := by
  go_enter Tryz.func143, Tryz.ntmps143
  go_wp2_with fail
  refine (wire_in1 1 7 (len : Int) _ _ _ (C_one_int (blk_new1 _ _ _))).mono ?_
  rintro e w' ⟨rfl, hb⟩
  go_wp2
  go_ret
  exact ⟨rfl, below_step (below2 _ _ _) hb⟩
set_option maxHeartbeats 400000 in
theorem indexFunc_str (g : Nat) (cap : Array Value) (args : ByteArray → Array Value) (P : ByteArray → Bool) (A : Option Addr) (c : Nat) (l : List ByteArray) (w : World) (hr : Kd.C Kd.string w A l.length l)
   (eg : ∀ args w, (callFunc g args).run Tryz.prog w = .ok (.enter g args) w)
   (ha : Hid (∀ x, #[Value.string x] ++ cap = args x))
   (hf : Hid (∀ x ∈ l, ∀ W, Below w.heap.size w W → Calls Tryz.prog g (args x) W fun e w' => e = .returned (.bool (P x)) ∧ Below W.heap.size W w')) :
   Calls Tryz.prog 212 #[.slice A l.length c, .func (.func g) #[] cap] w fun e w' => e = .returned (.int .i64 (pIdx P l)) ∧ Below w.heap.size w w' := by
  have hmax := Kd.C_max hr
  go_enter Tryz.func212, Tryz.ntmps212
  go_wp2
  go_loopw [8] (fun i wr => ∃ k : Nat, k ≤ l.length ∧ i = .int .i64 k ∧ Hid (∀ i (hi : i < k) (h : i < l.length), P l[i] = false) ∧ Below w.heap.size w wr) (fun i _ => l.length - (intOf i).toNat)
  case atStart => exact ⟨0, by omega, rfl, Lib.hid (fun i hi => by omega), Below.refl _ _⟩
  case round =>
    obtain ⟨k, hk, rfl, H, hb⟩ := hrel
    by_cases hlt : k < l.length
    · obtain ⟨ad, rfl, hcell⟩ := Kd.at_string (Kd.C_below hr hb) k (by omega) (by omega)
      rw [show ((k : Int).toNat) = k from by omega] at hcell
      have hrd : rdOf ByteArray.empty l k = l[k] := by simp [rdOf, hlt]
      rw [hrd] at hcell
      clear hrd
      have hf' := Lib.hid (hf.out l[k] (List.getElem_mem hlt))
      go_wp2_with fail
      rw [ha.out]
      refine (hf'.out _ hb).mono ?_
      rintro e w2 ⟨rfl, hb2⟩
      have hb3 := below_step hb hb2
      cases hP : P l[k]
      · go_wp2
        go_roundw
        case rel => exact ⟨k + 1, by omega, by go_num, Lib.hid (fun i hi h => by
          by_cases e : i < k
          · exact H.out i e h
          · obtain rfl : i = k := by omega
            exact hP), hb3⟩
        case measure => simp [intOf]; omega
      · go_wp2
        go_ret
        exact ⟨ret_int (pIdx_some P l k hlt (fun i hi => H.out i hi (by omega)) hP).symm, hb3⟩
    · go_wp2
      go_ret
      exact ⟨ret_int (pIdx_none P l (fun i hi => H.out i (by omega) hi)).symm, hb⟩
theorem containsFunc_str (g : Nat) (cap : Array Value) (args : ByteArray → Array Value) (P : ByteArray → Bool) (A : Option Addr) (c : Nat) (l : List ByteArray) (w : World) (hr : Kd.C Kd.string w A l.length l)
   (eg : ∀ args w, (callFunc g args).run Tryz.prog w = .ok (.enter g args) w)
   (ha : Hid (∀ x, #[Value.string x] ++ cap = args x))
   (hf : Hid (∀ x ∈ l, ∀ W, Below w.heap.size w W → Calls Tryz.prog g (args x) W fun e w' => e = .returned (.bool (P x)) ∧ Below W.heap.size W w')) :
   Calls Tryz.prog 145 #[.slice A l.length c, .func (.func g) #[] cap] w fun e w' => e = .returned (.bool (l.any P)) ∧ Below w.heap.size w w' := by
  go_enter Tryz.func145, Tryz.ntmps145
  go_wp2_with fail
  refine (indexFunc_str g cap args P A c l w hr eg ha hf).mono ?_
  rintro e w' ⟨rfl, hb⟩
  go_wp2
  go_ret
  exact ⟨ret_bool (pIdx_any P l), hb⟩
def wordOk (x : ByteArray) : Bool := inB 1 6 [(x.size : Int)] && isSigns x
theorem checks21 (x : ByteArray) (w : World) (hs : x.size ≤ 9223372036854775807) :
    Calls Tryz.prog 146 #[.string x] w fun e w' => e = .returned (.bool (!wordOk x)) ∧ Below w.heap.size w w' := by
  cases hi : inB 1 6 [(x.size : Int)]
  · go_enter Tryz.func146, Tryz.ntmps146
    go_wp2_with fail
    refine (wire_in1 1 6 (x.size : Int) _ _ _ (C_one_int (blk_new _ _))).mono ?_
    rintro e w' ⟨rfl, hb⟩
    rw [hi]
    go_wp2
    go_ret
    exact ⟨by simp [wordOk, hi], below_step (below1 _ _) hb⟩
  · go_enter Tryz.func146, Tryz.ntmps146
    go_wp2_with fail
    refine (wire_in1 1 6 (x.size : Int) _ _ _ (C_one_int (blk_new _ _))).mono ?_
    rintro e w' ⟨rfl, hb⟩
    rw [hi]
    go_wp2_with fail
    refine (wire_signs x w' hs).mono ?_
    rintro e w2 ⟨rfl, hb2⟩
    go_wp2
    go_ret
    exact ⟨by simp [wordOk, hi], below_step (below_step (below1 _ _) hb) hb2⟩
theorem checks2 (A : Option Addr) (c : Nat) (l : List ByteArray) (w : World) (hr : Kd.C Kd.string w A l.length l) (hsz : ∀ x ∈ l, x.size ≤ 9223372036854775807) :
    Calls Tryz.prog 144 #[.agg #[.slice A l.length c]] w fun e w' => e = .returned (.bool (l.all wordOk)) ∧ Below w.heap.size w w' := by
  go_enter Tryz.func144, Tryz.ntmps144
  go_wp2_with fail
  refine (containsFunc_str 146 #[] (fun x => #[.string x]) (fun x => !wordOk x) A c l _ (Kd.C_alloc hr _) (enters_of Tryz.func146 (by kernel_rfl) rfl) (Lib.hid (fun _ => rfl)) (Lib.hid (fun x hx W _ => checks21 x W (hsz x hx)))).mono ?_
  rintro e w' ⟨rfl, hb⟩
  go_wp2
  go_ret
  exact ⟨ret_bool (by rw [Bool.eq_iff_iff]; simp [List.any_eq_false]), below_step (below1 _ _) hb⟩
theorem compact_own {base n : Nat} {v : Value} {zs : List (List UInt8)} {w : World} (h : w.ownsRow base 9 1 v n (zs.map encStr)) (hn : zs.length = n) :
    Calls Tryz.prog 148 #[v] w fun e w' => ∃ A c, e = .returned (.slice A (Lib.compact zs).length c) ∧ Below base w w' := by
  subst hn
  rcases h.2 with ⟨rfl, hz⟩ | ⟨gb, cap, cur, rfl, hbase, hgb, r1, r2, r3, r4⟩
  · have : zs = [] := List.eq_nil_of_length_eq_zero hz
    subst this
    exact (Tryz.slices_Compact_string_empty none 0 w).mono fun e w' ⟨he, hw⟩ => ⟨none, 0, he, by rw [hw]; exact Below.refl _ _⟩
  · have hH : Holds encStr w gb 0 zs.toArray := holds_of_block hgb (by simpa using r4)
    refine (Tryz.slices_Compact_string gb 0 cap zs w hH (by unfold maxLen at *; omega) r1).mono ?_
    rintro e w' ⟨he, q, hw⟩
    refine ⟨_, _, he, ?_⟩
    rw [hw]
    have hg := grownBy_sorted (w := w) (n := q) (g := gb) (os := #[]) (Lib.compact zs ++ List.replicate (zs.length - (Lib.compact zs).length) []).toArray
    rw [grow_empty] at hg
    exact (Below.refl base w).grown hg (by have := (Array.getElem?_eq_some_iff.1 hgb).1; omega) (fun j hj => by cases hj; exact hbase)
set_option maxHeartbeats 1000000 in
theorem checks3 (A : Option Addr) (c : Nat) (l : List ByteArray) (w : World) (hr : Kd.C Kd.string w A l.length l) (hl : l.length ≤ 1000000000) :
    Calls Tryz.prog 147 #[.agg #[.slice A l.length c]] w fun e w' => e = .returned (.bool ((Lib.compact (sortB l)).length == l.length)) ∧ Below w.heap.size w w' := by
  go_enter Tryz.func147, Tryz.ntmps147
  go_wp2_with fail
  refine (values_calls A c l.length _).mono ?_
  rintro e w' ⟨rfl, rfl⟩
  go_wp2_with fail
  refine (sorted_calls 183 _ (enters_of Tryz.func183 (by kernel_rfl) rfl) _ _ l.length hl _ (values_stops 8 (by decide) (w.heap.size + 1) A c l _ (Kd.C_alloc (Kd.C_alloc hr _) _) (by simp) (cell_new1 _ _ _ _)) (fun xs h => by rw [h]; exact Nat.le_refl _)).mono ?_
  rintro e w' ⟨v, xs, rfl, rfl, hrow, hnil, hb⟩
  clear hnil
  have hbx := blk_below (blk_alloc (blk_new w (.cells #[.slice A xs.length c] 24)) (.cells #[.slice A xs.length c] 22)) hb
  have hc1 := box_cell hbx
  have hbw := below_step (below2 w (.cells #[.slice A xs.length c] 24) (.cells #[.slice A xs.length c] 22)) hb
  have hsl : (sortB xs).length = xs.length := by simp [sortB]
  have hcmp := compact_own (w := w'.drew) hrow hsl
  have hlb : w.heap.size < ((w.alloc (Obj.cells #[Value.slice A xs.length c] 24)).alloc (Obj.cells #[Value.slice A xs.length c] 22)).heap.size := by simp only [World.size_alloc]; omega
  clear hb hsl hrow
  generalize ((w.alloc (Obj.cells #[Value.slice A xs.length c] 24)).alloc (Obj.cells #[Value.slice A xs.length c] 22)).heap.size = base at hcmp hlb
  have Hcmp := Lib.hid hcmp
  have Hbw := Lib.hid hbw
  have Hbx := Lib.hid hbx
  clear hcmp hbw hbx
  go_wp2_with fail
  go_region_with (go_at_call 148; refine Hcmp.out.mono ?_; rintro e w2 ⟨A2, c2, rfl, hb2⟩; have hc2 : w2.cell? ⟨w.heap.size, 0, none⟩ = some (Value.slice A xs.length c) := (hb2.cell (p := ⟨w.heap.size, 0, none⟩) hlb).trans hc1)
  all_goals
    go_wp2
    go_ret
    show Ending.returned (.bool (((Lib.compact (sortB xs)).length : Int) == (xs.length : Int))) = _ ∧ _
    exact ⟨ret_bool (by rw [Bool.eq_iff_iff]; simp; omega), Hbw.out.drew.trans (hb2.mono (by omega))⟩
theorem checks_calls (w : World) :
    Calls Tryz.prog 99 #[] w fun e w' => e = .returned (.agg #[.func (.func 143) #[] #[], .func (.func 144) #[] #[], .func (.func 147) #[] #[]]) ∧ Below w.heap.size w w' := by
  go_enter Tryz.func99, Tryz.ntmps99
  go_wp2
  refine bodyPost_ret (v := .agg #[.func (.func 143) #[] #[], .func (.func 144) #[] #[], .func (.func 147) #[] #[]]) (by simp [results, Tryz.results99, go_sem]) rfl ⟨rfl, below1 _ _⟩
def codeOk (l : List ByteArray) : Bool := inB 1 7 [(l.length : Int)] && l.all wordOk && ((Lib.compact (sortB l)).length == l.length)
def checkE (l : List ByteArray) : Int := if codeOk l then 0 else 110
set_option maxHeartbeats 1000000 in
theorem wire_Check (A : Option Addr) (c : Nat) (l : List ByteArray) (w : World) (hr : Kd.C Kd.string w A l.length l) (hsz : ∀ x ∈ l, x.size ≤ 9223372036854775807) :
    Calls Tryz.prog 53 #[.agg #[.slice A l.length c]] w fun e w' => e = .returned (.int .i64 (checkE l)) ∧ Below w.heap.size w w' := by
  have i0 : ∀ w, (Instr.index 182 (.agg #[.func (.func 143) #[] #[], .func (.func 144) #[] #[], .func (.func 147) #[] #[]]) (.int .i64 0)).run Tryz.prog w = .ok (.agg #[.func (.func 143) #[] #[]]) w := fun _ => by kernel_rfl
  have i1 : ∀ w, (Instr.index 182 (.agg #[.func (.func 143) #[] #[], .func (.func 144) #[] #[], .func (.func 147) #[] #[]]) (.int .i64 1)).run Tryz.prog w = .ok (.agg #[.func (.func 144) #[] #[]]) w := fun _ => by kernel_rfl
  have i2 : ∀ w, (Instr.index 182 (.agg #[.func (.func 143) #[] #[], .func (.func 144) #[] #[], .func (.func 147) #[] #[]]) (.int .i64 2)).run Tryz.prog w = .ok (.agg #[.func (.func 147) #[] #[]]) w := fun _ => by kernel_rfl
  go_enter Tryz.func53, Tryz.ntmps53
  go_wp2_with fail
  refine (checks_calls _).mono ?_
  rintro e w1 ⟨rfl, hb⟩
  have hx1 := Lib.hid (blk_below (blk_new w (.cells #[.slice A l.length c] 24)) hb)
  have HB1 := Lib.hid (below_step (below1 w (.cells #[.slice A l.length c] 24)) hb)
  have HR1 := Lib.hid (Kd.C_below hr HB1.out)
  have hc1 := box_cell hx1.out
  have hz1 := blk_lt hx1.out
  clear hb hr
  go_wp2
  refine wp_loop_rounds 4 ?_
  rw [rounds_succ]
  go_wp2_with fail
  refine (checks1 A c l.length _).mono ?_
  rintro e w2 ⟨rfl, hb2⟩
  have hx2 := Lib.hid (blk_below (blk_alloc hx1.out _) hb2)
  have HB2 := Lib.hid (below_step (below_alloc HB1.out _) hb2)
  have HR2 := Lib.hid (Kd.C_below (Kd.C_alloc HR1.out _) hb2)
  have hc2 := box_cell hx2.out
  have hz2 := blk_lt hx2.out
  clear hb2 hc1 hz1
  cases h1 : inB 1 7 [(l.length : Int)]
  · go_wp2
    go_ret
    exact ⟨by simp [checkE, codeOk, h1], HB2.out⟩
  have hl : Hid (l.length ≤ 1000000000) := Lib.hid (by simp [inB] at h1; omega)
  have H1 := Lib.hid h1
  clear h1
  go_wp2
  rw [rounds_succ]
  go_wp2_with fail
  refine (checks2 A c l _ (Kd.C_alloc HR2.out _) hsz).mono ?_
  rintro e w3 ⟨rfl, hb3⟩
  have hx3 := Lib.hid (blk_below (blk_alloc hx2.out _) hb3)
  have HB3 := Lib.hid (below_step (below_alloc HB2.out _) hb3)
  have HR3 := Lib.hid (Kd.C_below (Kd.C_alloc HR2.out _) hb3)
  have hc3 := box_cell hx3.out
  have hz3 := blk_lt hx3.out
  clear hb3 hc2 hz2
  cases h2 : l.all wordOk
  · go_wp2
    go_ret
    exact ⟨by simp only [checkE, codeOk, h2, Bool.and_false, Bool.false_and]; rfl, HB3.out⟩
  have H2 := Lib.hid h2
  clear h2
  go_wp2
  rw [rounds_succ]
  go_wp2_with fail
  refine (checks3 A c l _ (Kd.C_alloc HR3.out _) hl.out).mono ?_
  rintro e w4 ⟨rfl, hb4⟩
  have HB4 := Lib.hid (below_step (below_alloc HB3.out _) hb4)
  clear hb4 hc3 hz3
  cases h3 : ((Lib.compact (sortB l)).length == l.length)
  · go_wp2
    go_ret
    exact ⟨by simp only [checkE, codeOk, h3, Bool.and_false]; rfl, HB4.out⟩
  have H3 := Lib.hid h3
  clear h3
  go_wp2
  rw [rounds_succ]
  go_wp2
  go_ret
  exact ⟨by simp only [checkE, codeOk, H1.out, H2.out, H3.out]; rfl, HB4.out⟩
end Go.Proofs.YtfnibmcenjiodaaGreatDoor.M
namespace Go.Proofs.YtfnibmcenjiodaaGreatDoor.S
open Go.RowKit Go.Proofs.YtfnibmcenjiodaaGreatDoorW.PrintWords Go.Proofs.YtfnibmcenjiodaaGreatDoorW.PrintLast Go.Proofs.YtfnibmcenjiodaaGreatDoorW.PrintMore
attribute [local go_sem] max2_int min2_int max_two min_two max_three min_three max_four min_four   -- for this text's walks alone
def errW : Option Int → Value
  | none => .nilIface
  | some c => .iface 0 (.int .i64 c)
theorem errW_none : errW none = .nilIface := rfl
theorem errW_some (c : Int) : errW (some c) = .iface 0 (.int .i64 c) := rfl
theorem info3 : (Tryz.prog.info? 3).map (fun i => (i.zero, i.size, i.bytes)) = some (some (.int .i64 0), 1, 8) := by kernel_rfl
end Go.Proofs.YtfnibmcenjiodaaGreatDoor.S
namespace Go.Proofs.YtfnibmcenjiodaaGreatDoor
open Go.Sort Go.Shelf Go.RowKit Go.Proofs.YtfnibmcenjiodaaGreatDoorW.PrintWords Go.Proofs.YtfnibmcenjiodaaGreatDoorW.PrintLast Go.Proofs.YtfnibmcenjiodaaGreatDoorW.PrintMore
open Go.Proofs.YtfnibmcenjiodaaGreatDoor.M
def gCheck.f (l0_0 : List ByteArray) : Option Int := if l0_0.all (fun x => decide (x.size ≤ 1000000)) = true then some (checkE l0_0) else none
theorem gCheck.calls (A0_0 : Option Addr) (c0_0 : Nat) (l0_0 : List ByteArray) (r : Int) (w : World) (hr0_0 : Kd.C Kd.string w A0_0 l0_0.length l0_0) (hc0_0 : l0_0.length ≤ c0_0) (h : gCheck.f l0_0 = some r) :
    Calls Tryz.prog 53 #[.agg #[.slice A0_0 l0_0.length c0_0]] w fun e w' => e = .returned (.int .i64 r) ∧ Below w.heap.size w w' := by
  unfold gCheck.f at h
  split at h
  · rename_i hs
    obtain rfl := Option.some.inj h
    exact wire_Check A0_0 c0_0 l0_0 w hr0_0 (fun x hx => by have := List.all_eq_true.1 hs x hx; simp at this; omega)
  · cases h
def gIn.f (a0 : Int) (a1 : Int) (l2 : List Int) : Option Bool := some (inB a0 a1 l2)
theorem gIn.calls (a0 : Int) (a1 : Int) (A2 : Option Addr) (c2 : Nat) (l2 : List Int) (r : Bool) (w : World) (hr2 : Kd.C (Kd.int .i64) w A2 l2.length l2) (hc2 : l2.length ≤ c2) (h : gIn.f a0 a1 l2 = some r) :
    Calls Tryz.prog 64 #[.int .i64 a0, .int .i64 a1, .slice A2 l2.length c2] w fun e w' => e = .returned (.bool r) ∧ Below w.heap.size w w' := by
  unfold gIn.f at h
  obtain rfl := Option.some.inj h
  exact wire_in a0 a1 A2 c2 l2 w hr2
end Go.Proofs.YtfnibmcenjiodaaGreatDoor
namespace Go.Proofs.YtfnibmcenjiodaaGreatDoor
open Go.Sort Go.Shelf Go.RowKit Go.Proofs.YtfnibmcenjiodaaGreatDoorW.PrintWords Go.Proofs.YtfnibmcenjiodaaGreatDoorW.PrintLast Go.Proofs.YtfnibmcenjiodaaGreatDoorW.PrintMore
def cmpS (a b : ByteArray) : Int := if Op.bytesLess a.toList b.toList = true then -1 else if Op.bytesLess b.toList a.toList = true then 1 else 0
set_option maxHeartbeats 1000000 in
theorem isNaN_string (x : ByteArray) (w : World) : Calls Tryz.prog 185 #[.string x] w fun e w' => e = .returned (.bool false) ∧ w' = w := by
  go_enter Tryz.func185, Tryz.ntmps185
  go_wp2
  go_ret
  exact ⟨by simp, rfl⟩
set_option maxHeartbeats 2000000 in
theorem cmp_Compare_string (x y : ByteArray) (w : World) : Calls Tryz.prog 129 #[.string x, .string y] w fun e w' => e = .returned (.int .i64 (cmpS x y)) ∧ w' = w := by
  cases h1 : Op.bytesLess x.toList y.toList
  · cases h2 : Op.bytesLess y.toList x.toList
    · by_cases he : x.toList = y.toList
      · have hc : cmpS x y = 0 := by unfold cmpS; rw [h1, h2]; rfl
        have he' : (x.toList == y.toList) = true := by rw [he]; exact beq_self_eq_true _
        clear he
        go_enter Tryz.func129, Tryz.ntmps129
        go_wp2_with (go_at_call 185; refine (isNaN_string _ _).mono ?_; rintro e w' ⟨rfl, rfl⟩)
        all_goals go_ret
        all_goals exact ⟨by rw [hc] <;> rfl, rfl⟩
      · exfalso
        rw [bytesLess_eq] at h1 h2
        have h1' := of_decide_eq_false h1
        have h2' := of_decide_eq_false h2
        exact he (List.le_antisymm (List.not_lt.1 h2') (List.not_lt.1 h1'))
    · have hc : cmpS x y = 1 := by unfold cmpS; rw [h1, h2]; rfl
      have hne : (x.toList == y.toList) = false := by
        rw [beq_eq_false_iff_ne]
        intro e
        rw [e] at h1 h2
        rw [h1] at h2; cases h2
      go_enter Tryz.func129, Tryz.ntmps129
      go_wp2_with (go_at_call 185; refine (isNaN_string _ _).mono ?_; rintro e w' ⟨rfl, rfl⟩)
      all_goals go_ret
      all_goals exact ⟨by rw [hc] <;> rfl, rfl⟩
  · have hc : cmpS x y = -1 := by unfold cmpS; rw [h1]; rfl
    go_enter Tryz.func129, Tryz.ntmps129
    go_wp2_with (go_at_call 185; refine (isNaN_string _ _).mono ?_; rintro e w' ⟨rfl, rfl⟩)
    all_goals go_ret
    all_goals exact ⟨by rw [hc] <;> rfl, rfl⟩
def gCmpS.f (a0 : ByteArray) (a1 : ByteArray) : Option Int := some (cmpS a0 a1)
theorem gCmpS.calls (a0 : ByteArray) (a1 : ByteArray) (r : Int) (w : World) (h : gCmpS.f a0 a1 = some r) :
    Calls Tryz.prog 129 #[.string a0, .string a1] w fun e w' => e = .returned (.int .i64 r) ∧ Drawn0 w w' := by
  obtain rfl := Option.some.inj h
  refine (cmp_Compare_string a0 a1 w).mono ?_
  rintro e w' ⟨rfl, rfl⟩
  exact ⟨rfl, Drawn0.refl _⟩
end Go.Proofs.YtfnibmcenjiodaaGreatDoor
