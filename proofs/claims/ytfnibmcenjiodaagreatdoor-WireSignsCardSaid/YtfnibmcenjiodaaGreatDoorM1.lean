/- General words for this seat's walks: boxes of one cell, fences, functions of lists. No statement of the seat is proved here. -/
import Derived.Test.YtfnibmcenjiodaaGreatDoorProg
import Derived.Test.YtfnibmcenjiodaaGreatDoorWMore
import Derived.Test.YtfnibmcenjiodaaGreatDoorWKept
import Derived.WalkKit
import Derived.Below
import Derived.Deep.QuietTactic
import Derived.BigQuiet
import Derived.OwnWalk
import Derived.Outline
import Derived.Lib.Hide
import Derived.LoopTactic
import Derived.Deep.LoopGhost
import Derived.RangeFuncNested
import Derived.RangeFuncBound
import Derived.RangeFuncCalls
import Derived.RangeFuncLeaves
import Derived.Shelf.Abstract
import Derived.Shelf.RegionOpen
import Derived.OwnWalkIn
import Derived.TacticsInMore
import Derived.LoopNIn
import Derived.LoopIn
namespace Go.Proofs.YtfnibmcenjiodaaGreatDoor.M
open Go.Shelf Go.RowKit Go.Proofs.YtfnibmcenjiodaaGreatDoorW.PrintWords Go.Proofs.YtfnibmcenjiodaaGreatDoorW.PrintLast Go.Proofs.YtfnibmcenjiodaaGreatDoorW.PrintMore

theorem ret_bool {a b : Bool} (h : a = b) : Ending.returned (.bool a) = .returned (.bool b) := by rw [h]
theorem ret_int {k : IntKind} {a b : Int} (h : a = b) : Ending.returned (.int k a) = .returned (.int k b) := by rw [h]
theorem ret_str {a b : ByteArray} (h : a = b) : Ending.returned (.string a) = .returned (.string b) := by rw [h]

theorem blk_new1 (w : World) (o1 o : Obj) : ((w.alloc o1).alloc o).heap[w.heap.size + 1]? = some o := by
  have := blk_new (w.alloc o1) o; rwa [World.size_alloc] at this
theorem blk_new2 (w : World) (o1 o2 o : Obj) : (((w.alloc o1).alloc o2).alloc o).heap[w.heap.size + 1 + 1]? = some o := by
  have := blk_new1 (w.alloc o1) o2 o; rwa [World.size_alloc] at this
/-- A box of one cell: what it holds, that it may be written. -/
theorem box_cell {w : World} {g : Nat} {v : Value} {t : TypeId} (h : w.heap[g]? = some (.cells #[v] t (0, 0))) : w.cell? ⟨g, 0, none⟩ = some v := blk_cell h 0
theorem box_free {w : World} {g : Nat} {v : Value} {t : TypeId} (h : w.heap[g]? = some (.cells #[v] t (0, 0))) : w.frozen? ⟨g, 0, none⟩ = false := blk_frozen h 0
theorem box_put {w : World} {g : Nat} {v : Value} {t : TypeId} (h : w.heap[g]? = some (.cells #[v] t (0, 0))) (u : Value) : (w.setCell ⟨g, 0, none⟩ u).heap[g]? = some (.cells #[u] t (0, 0)) := blk_put h 0 u rfl
theorem below1 (w : World) (o : Obj) : Below w.heap.size w (w.alloc o) := (Below.refl _ w).alloc (Nat.le_refl _) o
theorem below2 (w : World) (o o' : Obj) : Below w.heap.size w ((w.alloc o).alloc o') := below_alloc (below1 w o) o'
theorem cell_new (W : World) (v : Value) (t : TypeId) : (W.alloc (.cells #[v] t)).cell? ⟨W.heap.size, 0, none⟩ = some v := box_cell (blk_new W _)
theorem cell_new1 (W : World) (o : Obj) (v : Value) (t : TypeId) : ((W.alloc o).alloc (.cells #[v] t)).cell? ⟨W.heap.size + 1, 0, none⟩ = some v := box_cell (blk_new1 W _ _)
theorem cell_old {W : World} {a : Addr} {v : Value} (o : Obj) (h : W.cell? a = some v) : (W.alloc o).cell? a = some v := pw_cell_below (below1 W o) h

/-- The first index at which a test holds, or -1. -/
def pIdx {α : Type} (p : α → Bool) (l : List α) : Int := match l.findIdx? p with | some i => i | none => -1
theorem pIdx_none {α : Type} (p : α → Bool) (l : List α) (h : ∀ i (hi : i < l.length), p l[i] = false) : pIdx p l = -1 := by
  unfold pIdx
  rw [List.findIdx?_eq_none_iff.2]
  intro x hx
  obtain ⟨i, hi, rfl⟩ := List.getElem_of_mem hx
  exact h i hi
theorem pIdx_some {α : Type} (p : α → Bool) (l : List α) (k : Nat) (hk : k < l.length) (h : ∀ i (hi : i < k), p (l[i]'(by omega)) = false) (hp : p l[k] = true) : pIdx p l = k := by
  unfold pIdx
  rw [List.findIdx?_eq_some_iff_getElem.2 ⟨hk, hp, fun j hj => by simp [h j hj]⟩]
theorem pIdx_any {α : Type} (p : α → Bool) (l : List α) : decide (pIdx p l ≥ 0) = l.any p := by
  unfold pIdx
  cases h : l.findIdx? p with
  | none => simp [List.findIdx?_eq_none_iff] at h; simp [List.any_eq_false.2 (by simpa using h)]
  | some i =>
    obtain ⟨hi, hp, _⟩ := List.findIdx?_eq_some_iff_getElem.1 h
    simp
    exact ⟨_, List.getElem_mem hi, hp⟩
end Go.Proofs.YtfnibmcenjiodaaGreatDoor.M
