/- Maps whose keys are strings, told by their entries; what is kept but for one block. No statement of the seat is proved here. -/
import Derived.Test.YtfnibmcenjiodaaGreatDoorM1
import Derived.MapKept
namespace Go.Proofs.YtfnibmcenjiodaaGreatDoor.M
open Go.MapKept (bytes_beq run_findKey)
open Go.Shelf Go.RowKit Go.Proofs.YtfnibmcenjiodaaGreatDoorW.PrintWords Go.Proofs.YtfnibmcenjiodaaGreatDoorW.PrintLast Go.Proofs.YtfnibmcenjiodaaGreatDoorW.PrintMore

/-- Below block B all is as it was, but for the block row. -/
structure Keep (B : Nat) (row : Option Nat) (w w' : World) : Prop where
  os : w'.os = w.os
  tape : w'.tape = w.tape
  output : w'.output = w.output
  size : w.heap.size ≤ w'.heap.size
  block : ∀ k, k < B → some k ≠ row → w'.heap[k]? = w.heap[k]?
section
variable {B : Nat} {row : Option Nat} {w w1 w2 : World}
theorem Keep.refl (B : Nat) (row : Option Nat) (w : World) : Keep B row w w := ⟨rfl, rfl, rfl, Nat.le_refl _, fun _ _ _ => rfl⟩
theorem Keep.trans (h : Keep B row w w1) (k : Keep B row w1 w2) : Keep B row w w2 :=
  ⟨k.os.trans h.os, k.tape.trans h.tape, k.output.trans h.output, Nat.le_trans h.size k.size, fun i hi hr => (k.block i hi hr).trans (h.block i hi hr)⟩
theorem Keep.of_below (h : Below B w w1) (row : Option Nat) : Keep B row w w1 := ⟨h.os, h.tape, h.output, h.size, fun i hi _ => h.block i hi⟩
theorem Keep.below (h : Keep B none w w1) : Below B w w1 := ⟨h.os, h.tape, h.output, h.size, fun i hi => h.block i hi (by simp)⟩
theorem Keep.mono (h : Keep B row w w1) {B' : Nat} (hB : B' ≤ B) : Keep B' row w w1 := ⟨h.os, h.tape, h.output, h.size, fun i hi hr => h.block i (Nat.lt_of_lt_of_le hi hB) hr⟩
theorem Keep.alloc (h : Keep B row w w1) (hB : B ≤ w1.heap.size) (o : Obj) : Keep B row w (w1.alloc o) := h.trans (.of_below ((Below.refl B w1).alloc hB o) row)
theorem Keep.setCell (h : Keep B row w w1) {p : Addr} (hp : B ≤ p.block) (v : Value) : Keep B row w (w1.setCell p v) := h.trans (.of_below ((Below.refl B w1).setCell hp v) row)
theorem Keep.drew (h : Keep B row w w1) : Keep B row w w1.drew := ⟨h.os, h.tape, h.output, h.size, h.block⟩
theorem Keep.drewN (h : Keep B row w w1) (n : Nat) : Keep B row w (w1.drewN n) := ⟨h.os, h.tape, h.output, h.size, h.block⟩
/-- The block is new since: nothing that was has turned. -/
theorem Keep.lose (h : Keep B row w w1) {B' : Nat} (hB : B' ≤ B) (hr : ∀ k, row = some k → B' ≤ k) : Below B' w w1 :=
  ⟨h.os, h.tape, h.output, h.size, fun i hi => h.block i (Nat.lt_of_lt_of_le hi hB) (fun e => by have := hr i e.symm; omega)⟩
theorem Keep.put (h : Keep B row w w1) {m : Nat} (o : Obj) (hm : B ≤ m ∨ row = some m) : Keep B row w (w1.putObj m o) := by
  refine h.trans ⟨rfl, rfl, rfl, by simp [World.putObj], fun i hi hr => ?_⟩
  rw [World.putObj_heap_other]
  rintro rfl
  rcases hm with hm | hm
  · omega
  · exact hr hm.symm
theorem Keep.blk (h : Keep B row w w1) {g : Nat} {o : Obj} (hb : w.heap[g]? = some o) (hg : g < B) (hr : some g ≠ row) : w1.heap[g]? = some o := (h.block g hg hr).trans hb
theorem Keep.cell (h : Keep B row w w1) {a : Addr} {v : Value} (hc : w.cell? a = some v) (hg : a.block < B) (hr : some a.block ≠ row) : w1.cell? a = some v := (World.cell?_of_block (h.block a.block hg hr)).trans hc
theorem Keep.of_grown {w2 : World} (hg : w.grownBy w2 row) : Keep w.heap.size row w w2 := ⟨hg.os, hg.tape, hg.output, hg.size, hg.block⟩
end
theorem cell_not_map {w : World} {a : Addr} {v : Value} {m : Nat} {es : Array MapEntry} {ck : Nat} (hc : w.cell? a = some v) (hm : w.heap[m]? = some (.map es ck)) : a.block ≠ m := by
  rintro rfl
  simp [World.cell?, hm] at hc
/-- What is read of scalars stays, where the one block that turns is a map. -/
theorem C_keep_map {α : Type} {enc : α → Value} {h1 : ∀ x, (enc x).oneCell' = true} {w w1 : World} {A : Option Addr} {n m : Nat} {xs : List α} {es : Array MapEntry} {ck : Nat} (h : (Kd.scalar enc h1).C w A n xs) (hm : w.heap[m]? = some (.map es ck)) (hk : Keep w.heap.size (some m) w w1) : (Kd.scalar enc h1).C w1 A n xs := by
  refine ⟨h.1, h.2.1, fun hn => ?_⟩
  obtain ⟨ad, e, hc⟩ := h.2.2 hn
  refine ⟨ad, e, fun j p hj => ?_⟩
  obtain ⟨cs, hs, hr, hcell⟩ := hc j p hj
  exact ⟨cs, hs, hr, fun i u hu => hk.cell (hcell i u hu) (World.block_lt_of_cell? w _ (hcell i u hu)) (by have := cell_not_map (hcell i u hu) hm; simpa using this)⟩

/-! ### Entries under strings -/
theorem beq_self (s : ByteArray) : (s == s) = true := (bytes_beq s s).2 rfl
theorem beq_ne {s t : ByteArray} (h : ¬ s = t) : (s == t) = false := by
  cases hb : s == t with
  | false => rfl
  | true => exact absurd ((bytes_beq s t).1 hb) h
theorem getObj_map {P : Program} {w : World} {m : Nat} {es : Array MapEntry} {ck : Nat} (hm : w.heap[m]? = some (.map es ck)) : (getObj m).run P w = .ok (.map es ck) w := by simp [getObj, Sem.run, hm]
theorem setObj_map {P : Program} {w : World} {m : Nat} {es : Array MapEntry} {ck : Nat} (o : Obj) (hm : w.heap[m]? = some (.map es ck)) : (setObj m o).run P w = .ok () (w.putObj m o) := by simp [setObj, Sem.run, hm, World.putObj]
/-- All keys are strings. -/
def StrKeys (es : List MapEntry) : Prop := ∀ e ∈ es, ∃ s, e.key = .string s
/-- The first entry under a string: its place (from i on) and its value. -/
def findStr (s : ByteArray) : List MapEntry → Nat → Option (Nat × Value)
  | [], _ => none
  | e :: es, i => match e.key with
    | .string t => if s = t then some (i, e.val) else findStr s es (i + 1)
    | _ => none
theorem findNow_str (s : ByteArray) : ∀ (es : List MapEntry) (i : Nat), StrKeys es → Instr.findNow .string (.string s) es i = some (findStr s es i)
  | [], _, _ => rfl
  | e :: es, i, h => by
    obtain ⟨t, ht⟩ := h e (by simp)
    rw [Instr.findNow, findStr, ht]
    by_cases hst : s = t
    · subst hst; simp [Instr.sameNow, beq_self]
    · have : (s == t) = false := beq_ne hst
      simp only [Instr.sameNow, this, hst, if_false]
      exact findNow_str s es (i + 1) (fun e he => h e (by simp [he]))
theorem findStr_some {s : ByteArray} : ∀ {es : List MapEntry} {i j : Nat} {v : Value}, findStr s es i = some (j, v) → i ≤ j ∧ ∃ e, es[j - i]? = some e ∧ e.key = .string s ∧ e.val = v
  | [], _, _, _, h => by simp [findStr] at h
  | e :: es, i, j, v, h => by
    rw [findStr] at h
    split at h
    · rename_i t ht
      split at h
      · rename_i hst
        subst hst
        simp only [Option.some.injEq, Prod.mk.injEq] at h
        obtain ⟨rfl, rfl⟩ := h
        exact ⟨Nat.le_refl _, e, by simp, ht, rfl⟩
      · obtain ⟨hle, e', he, hk, hv⟩ := findStr_some h
        refine ⟨by omega, e', ?_, hk, hv⟩
        rw [show j - i = (j - (i + 1)) + 1 by omega, List.getElem?_cons_succ]
        exact he
    · cases h
theorem findStr_none {s : ByteArray} : ∀ {es : List MapEntry} {i : Nat}, StrKeys es → findStr s es i = none → ∀ e ∈ es, e.key ≠ .string s
  | [], _, _, _ => by simp
  | e :: es, i, hk, h => by
    obtain ⟨t, ht⟩ := hk e (by simp)
    rw [findStr, ht] at h
    dsimp only at h
    split at h
    · cases h
    · rename_i hst
      intro e' he'
      rcases List.mem_cons.1 he' with rfl | he'
      · rw [ht]; intro e; injection e with e; exact hst e.symm
      · exact findStr_none (fun e he => hk e (by simp [he])) h e' he'

section
variable {P : Program} {T K E : TypeId} {w : World} {m : Nat} {es : Array MapEntry} {ck : Nat}
theorem run_checkKey_str (hK : P.underlying K = some .string) (em : Bool) (n : Nat) (s : ByteArray) (w : World) : (Instr.checkKey em (n + 1) K (.string s)).run P w = .ok () w := by
  unfold Instr.checkKey
  simp only [Sem.run_bind, run_underlying hK, Result.andThen]
  rfl
theorem run_lookup_str (hT : P.underlying T = some (.map K E)) (hK : P.underlying K = some .string) (hm : w.heap[m]? = some (.map es ck)) (hs : StrKeys es.toList) (s : ByteArray) {z : Value} (hz : ∀ w, (zeroValue E).run P w = .ok z w) (ok : Bool) :
    (Instr.lookup T (.map (some m)) (.string s) ok).run P w = .ok (if ok then .tuple #[((findStr s es.toList 0).map (·.2)).getD z, .bool (findStr s es.toList 0).isSome] else ((findStr s es.toList 0).map (·.2)).getD z) w := by
  unfold Instr.lookup
  simp only [Sem.run_bind, run_underlying hT, Result.andThen, getObj_map hm, run_checkKey_str hK, run_findKey hK (findNow_str s _ 0 hs), Sem.run_pure]
  cases h : findStr s es.toList 0 with
  | none => simp only [Sem.run_bind, hz, Result.andThen, Sem.run_pure]; cases ok <;> rfl
  | some r => cases ok <;> rfl
/-- A store under a string: what the entries are behind it. -/
theorem run_mapUpdate_str (hT : P.underlying T = some (.map K E)) (hK : P.underlying K = some .string) (hm : w.heap[m]? = some (.map es ck)) (hs : StrKeys es.toList) (s : ByteArray) (v : Value) :
    ∃ es' ck', (Instr.mapUpdate T (.map (some m)) (.string s) v).run P w = .ok () (w.putObj m (.map es' ck')) ∧ StrKeys es'.toList ∧
      (∀ e ∈ es'.toList, (e.key = .string s ∧ e.val = v) ∨ e ∈ es.toList) ∧ (∀ e ∈ es.toList, e.key ≠ .string s → e ∈ es'.toList) ∧ ∃ e ∈ es'.toList, e.key = .string s ∧ e.val = v := by
  cases h : findStr s es.toList 0 with
  | none =>
    refine ⟨es.push { key := .string s, val := v, born := ck }, ck + 1, ?_, ?_, ?_, ?_, ?_⟩
    · unfold Instr.mapUpdate
      simp only [Sem.run_bind, run_underlying hT, Result.andThen, getObj_map hm, run_checkKey_str hK, run_findKey hK (findNow_str s _ 0 hs), h, setObj_map _ hm]
    · intro e he
      rw [Array.toList_push, List.mem_append, List.mem_singleton] at he
      rcases he with he | rfl
      · exact hs e he
      · exact ⟨s, rfl⟩
    · intro e he
      rw [Array.toList_push, List.mem_append, List.mem_singleton] at he
      rcases he with he | rfl
      · exact .inr he
      · exact .inl ⟨rfl, rfl⟩
    · intro e he _
      rw [Array.toList_push, List.mem_append]
      exact .inl he
    · exact ⟨{ key := .string s, val := v, born := ck }, by rw [Array.toList_push, List.mem_append]; exact .inr (by simp), rfl, rfl⟩
  | some r =>
    obtain ⟨j, u⟩ := r
    obtain ⟨_, e0, he0, hk0, _⟩ := findStr_some h
    rw [Nat.sub_zero] at he0
    have hj : j < es.size := by simpa using (List.getElem?_eq_some_iff.1 he0).1
    have hej : es[j]? = some e0 := by rw [← Array.getElem?_toList]; exact he0
    have hmod : (es.modify j fun e => { e with key := .string s, val := v }).toList = es.toList.set j { e0 with key := .string s, val := v } := by
      apply List.ext_getElem
      · simp
      · intro i h1 h2
        have hjl : j < es.toList.length := by simpa using hj
        have : es[j] = e0 := by rw [Array.getElem?_eq_getElem hj] at hej; exact Option.some.inj hej
        simp only [Array.getElem_toList, List.getElem_set, Array.getElem_modify]
        by_cases hij : j = i
        · subst hij; simp [this]
        · simp [hij]
    refine ⟨es.modify j fun e => { e with key := .string s, val := v }, ck, ?_, ?_, ?_, ?_, ?_⟩
    · unfold Instr.mapUpdate
      simp only [Sem.run_bind, run_underlying hT, Result.andThen, getObj_map hm, run_checkKey_str hK, run_findKey hK (findNow_str s _ 0 hs), h, hej, Option.map_some, Option.getD_some, hk0]
      unfold Instr.keyThatStays
      simp only [Instr.sameBits, beq_self, if_true, Sem.run_pure, setObj_map _ hm]
    all_goals rw [hmod]
    · intro e he
      rcases List.mem_or_eq_of_mem_set he with he | rfl
      · exact hs e he
      · exact ⟨s, rfl⟩
    · intro e he
      rcases List.mem_or_eq_of_mem_set he with he | rfl
      · exact .inr he
      · exact .inl ⟨rfl, rfl⟩
    · intro e he hne
      obtain ⟨i, hi, rfl⟩ := List.getElem_of_mem he
      have hij : j ≠ i := by
        rintro rfl
        rw [List.getElem?_eq_getElem hi] at he0
        rw [Option.some.inj he0] at hne
        exact hne hk0
      have : (es.toList.set j { e0 with key := .string s, val := v })[i]'(by simpa using hi) = es.toList[i] := List.getElem_set_ne hij _
      rw [← this]
      exact List.getElem_mem _
    · exact ⟨{ e0 with key := .string s, val := v }, List.mem_iff_getElem.2 ⟨j, by simpa using hj, by simp⟩, rfl, rfl⟩
end
end Go.Proofs.YtfnibmcenjiodaaGreatDoor.M
