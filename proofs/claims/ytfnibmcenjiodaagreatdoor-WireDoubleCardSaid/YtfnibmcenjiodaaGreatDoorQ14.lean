/- Contracts and plain laws that the claim's card stands on (texts M10 N11 R0 R1 of the work, put together). No statement of the seat is proved here. -/
import Derived.Sort.LoopGhostIn
import Derived.Test.YtfnibmcenjiodaaGreatDoorProg
import Derived.Below
import Derived.Deep.Draws
import Derived.Deep.AppendLies
import Derived.Maps.AppendAt
import Derived.OwnWalk
import Derived.Laws.BytesArg
import Derived.Laws.MakeOwn
import Derived.Laws.OwnMore
import Derived.Deep.OwnRows
import Derived.Tactics
import Derived.Lib.ConvBytes
import Derived.Laws.Slices
import Derived.WalkKit
import Derived.KernelRfl
import Derived.RowKit3
import Derived.Deep.LoopGhost
import Derived.Deep.QuietTactic
import Derived.BigQuiet
import Derived.WideLaws
import Derived.Deep.DeepCutAuto
import Derived.Deep.CutBlock
import Derived.Deep.RegionHeld3
import Derived.Laws.Rows
import Derived.Lib.AppendStr
import Derived.ArgAppend
import Derived.Laws.IdiomCopy
import Derived.OrdersHeld
import Derived.Laws.BitsLemmas
import Derived.RowKit
import Derived.Laws.StructEq
import Derived.Test.YtfnibmcenjiodaaGreatDoorQ1
import Derived.Test.YtfnibmcenjiodaaGreatDoorQ2
import Derived.Test.YtfnibmcenjiodaaGreatDoorQ3
import Derived.Test.YtfnibmcenjiodaaGreatDoorQ4
import Derived.Test.YtfnibmcenjiodaaGreatDoorQ5
import Derived.Test.YtfnibmcenjiodaaGreatDoorQ6
import Derived.Test.YtfnibmcenjiodaaGreatDoorQ7
import Derived.Test.YtfnibmcenjiodaaGreatDoorQ8
import Derived.Test.YtfnibmcenjiodaaGreatDoorQ9
import Derived.Test.YtfnibmcenjiodaaGreatDoorQ10
import Derived.Test.YtfnibmcenjiodaaGreatDoorQ13
set_option linter.unusedVariables false
set_option linter.unusedSimpArgs false
namespace Go.Proofs.YtfnibmcenjiodaaGreatDoor.M
open Go.Sort Go.Shelf Go.RowKit Go.Proofs.YtfnibmcenjiodaaGreatDoorW.PrintWords Go.Proofs.YtfnibmcenjiodaaGreatDoorW.PrintLast Go.Proofs.YtfnibmcenjiodaaGreatDoorW.PrintMore
attribute [local go_sem] Oper.semAt_some
def marks (Ds : List Nat) : List Deferred := Ds.map fun D => { target := .collected D, args := #[] }
def shut (W : World) (Ds : List Nat) : World := Ds.foldl (fun W D => W.putObj D (.deferred none)) W
theorem leaves_marks {F : Fence} {n : Nat} {P : Program} {fn : Func} {tmps : Array Value} {R : Ending → World → Prop} {v : Value} (hres : ∀ W, (results fn tmps).run P W = .ok v W) :
    ∀ (Ds : List Nat) (W : World), (∀ D ∈ Ds, W.heap[D]? = some (.deferred (some []))) → Ds.Nodup → R (.returned v) (shut W Ds) → LeavesInM F n P fn tmps R (marks Ds) .returning W
  | [], W, _, _, h => ⟨v, hres W, h⟩
  | D :: Ds, W, hD, hn, h => by
    refine ⟨by simp, .inl ⟨D, W.putObj D (.deferred none), rfl, run_takeDeferred (hD D (by simp)), ?_⟩⟩
    have hn' := List.nodup_cons.1 hn
    exact leaves_marks hres Ds _ (fun E hE => by rw [World.putObj_heap_other (by rintro rfl; exact hn'.1 hE)]; exact hD E (by simp [hE])) hn'.2 h
theorem shut_below {B : Nat} {w : World} : ∀ (Ds : List Nat) (W : World), Below B w W → (∀ D ∈ Ds, B ≤ D) → Below B w (shut W Ds)
  | [], _, h, _ => h
  | D :: Ds, W, h, hD => shut_below Ds _ (h.trans ⟨rfl, rfl, rfl, by simp [World.putObj], fun k hk => World.putObj_heap_other (by have := hD D (by simp); omega)⟩) (fun E hE => hD E (by simp [hE]))
theorem shut_own {base : Nat} {e : TypeId} {size k : Nat} {v : Value} {xs : List Value} : ∀ (Ds : List Nat) (W : World), W.ownsRow base e size v k xs → (∀ D ∈ Ds, W.heap[D]? = some (.deferred (some []))) → Ds.Nodup → (shut W Ds).ownsRow base e size v k xs
  | [], _, h, _, _ => h
  | D :: Ds, W, h, hD, hn => by
    have hn' := List.nodup_cons.1 hn
    exact shut_own Ds _ (ownsRow_putObj h _ (hD D (by simp)) rfl) (fun E hE => by rw [World.putObj_heap_other (by rintro rfl; exact hn'.1 hE)]; exact hD E (by simp [hE])) hn'.2
def readF (ws : List ByteArray) : Nat → ByteArray → List Int
  | 0, _ => []
  | f + 1, s => if s.size = 0 then [] else match (headsL ws s).find? (fun x => decide (0 < waysV ws x.2)) with | some x => x.1 :: readF ws f x.2 | none => []
def readR (l : List ByteArray) (s : ByteArray) : List Int × Int :=
  if givenE l s = 0 then (if waysV l s = 0 then ([], 6) else (readF l (s.size + 1) s, 0)) else ([], givenE l s)
theorem readF_eq (ws : List ByteArray) (hw : ∀ x ∈ ws, 1 ≤ x.size) : ∀ f g s, s.size < f → s.size < g → readF ws f s = readF ws g s
  | 0, _, _, h, _ => by omega
  | _, 0, _, _, h => by omega
  | f + 1, g + 1, s, hf, hg => by
    unfold readF
    split
    · rfl
    · cases h : (headsL ws s).find? (fun x => decide (0 < waysV ws x.2)) with
      | none => rfl
      | some x =>
        obtain ⟨w, hmem, hs, he⟩ := headsL_mem (List.mem_of_find?_eq_some h)
        have := restOf_size s w hs
        have := hw w hmem
        rw [← he] at *
        simp only
        rw [readF_eq ws hw f g x.2 (by omega) (by omega)]
theorem fold_zero (f : Int × ByteArray → Int) (hf : ∀ x, 0 ≤ f x) : ∀ (l : List (Int × ByteArray)), (∀ x ∈ l, f x = 0) → l.foldl (fun n x => min 1000001 (n + f x)) 0 = 0
  | [], _ => rfl
  | x :: l, h => by
    rw [List.foldl_cons, h x (by simp)]
    exact fold_zero f hf l (fun y hy => h y (by simp [hy]))
structure RdSt (l : List ByteArray) (A : Option Addr) (c b3 b6 b8 b9 bm bk bf m : Nat) (w : World) (s : ByteArray) (acc : List Int) (Ds : List Nat) (W : World) : Prop where
  h3 : W.heap[b3]? = some (.cells #[.string s] 9 (0, 0))
  h6 : W.heap[b6]? = some (.cells #[.slice A l.length c] 126 (0, 0))
  h8 : W.heap[b8]? = some (.cells #[.func (.func 116) #[] #[.pointer (some ⟨bm, 0, none⟩), .pointer (some ⟨bk, 0, none⟩), .pointer (some ⟨bf, 0, none⟩)]] 129 (0, 0))
  h9 : ∃ v, W.heap[b9]? = some (.cells #[v] 25 (0, 0)) ∧ W.ownsRow b9 3 1 v acc.length (acc.map (Value.int .i64))
  hbm : W.heap[bm]? = some (.cells #[.map (some m)] 205 (0, 0))
  hbk : W.heap[bk]? = some (.cells #[.slice A l.length c] 126 (0, 0))
  hbf : W.heap[bf]? = some (.cells #[.func (.func 116) #[] #[.pointer (some ⟨bm, 0, none⟩), .pointer (some ⟨bk, 0, none⟩), .pointer (some ⟨bf, 0, none⟩)]] 129 (0, 0))
  map : MapOk l m W
  below : Below w.heap.size w W
  ds : ∀ D ∈ Ds, W.heap[D]? = some (.deferred (some [])) ∧ w.heap.size ≤ D
  nodup : Ds.Nodup
section
variable {l : List ByteArray} {A : Option Addr} {c b3 b6 b8 b9 bm bk bf m : Nat} {w : World} {s : ByteArray} {acc : List Int} {Ds : List Nat} {W W' : World}
theorem RdSt.made (h : RdSt l A c b3 b6 b8 b9 bm bk bf m w s acc Ds W) (hw : ∀ x ∈ l, 1 ≤ x.size) (hC : Kd.C Kd.string w A l.length l) : Made l A c bm bk bf m W :=
  ⟨hw, h.hbm, h.hbk, h.hbf, Kd.C_below hC h.below, by obtain ⟨es, ck, hm, _⟩ := h.map; exact ⟨es, ck, hm⟩⟩
theorem RdSt.move (h : RdSt l A c b3 b6 b8 b9 bm bk bf m w s acc Ds W) {s' : ByteArray} {acc' : List Int}
    (hk : ∀ k o, W.heap[k]? = some o → (∀ cs t fz, o = .cells cs t fz → t ≠ 3 ∧ t ≠ 9 ∧ t ≠ 25) → k ≠ m → W'.heap[k]? = some o) (hb : Below w.heap.size W W')
    (h3 : W'.heap[b3]? = some (.cells #[.string s'] 9 (0, 0))) (h9 : ∃ v, W'.heap[b9]? = some (.cells #[v] 25 (0, 0)) ∧ W'.ownsRow b9 3 1 v acc'.length (acc'.map (Value.int .i64))) (hm : MapOk l m W') :
    RdSt l A c b3 b6 b8 b9 bm bk bf m w s' acc' Ds W' := by
  obtain ⟨es, ck, hmm, _⟩ := h.map
  have ne : ∀ {k : Nat} {cs : Array Value} {t : TypeId} {fz : Nat × Nat}, W.heap[k]? = some (.cells cs t fz) → k ≠ m := by rintro k cs t fz e rfl; rw [hmm] at e; cases e
  refine ⟨h3, hk _ _ h.h6 ?_ (ne h.h6), hk _ _ h.h8 ?_ (ne h.h8), h9, hk _ _ h.hbm ?_ (ne h.hbm), hk _ _ h.hbk ?_ (ne h.hbk), hk _ _ h.hbf ?_ (ne h.hbf), hm, h.below.trans hb, fun D hD => ⟨hk _ _ (h.ds D hD).1 ?_ ?_, (h.ds D hD).2⟩, h.nodup⟩
  · intro cs t fz e; cases e; decide
  · intro cs t fz e; cases e; decide
  · intro cs t fz e; cases e; decide
  · intro cs t fz e; cases e; decide
  · intro cs t fz e; cases e; decide
  · intro cs t fz e; cases e
  · rintro rfl; have := (h.ds _ hD).1; rw [hmm] at this; cases this
theorem own_kept_obj {w W' : World} {row : Option Nat} {base n : Nat} {e : TypeId} {size : Nat} {v : Value} {xs : List Value} (h : w.ownsRow base e size v n xs) (hg : w.grownBy W' row) (hr : ∀ r, row = some r → ∃ o : Obj, w.heap[r]? = some o ∧ o.isCells = false) : W'.ownsRow base e size v n xs := by
  refine h.kept hg ?_
  rcases h.2 with ⟨rfl, _⟩ | ⟨g, cap, cur, rfl, _, hgb, _⟩
  · exact .inl rfl
  · refine .inr fun e' => ?_
    obtain ⟨o, ho, hc⟩ := hr g (by simpa [Value.ownBlock] using e'.symm)
    rw [hgb] at ho; cases ho; cases hc
theorem RdSt.grown {row : Option Nat} (h : RdSt l A c b3 b6 b8 b9 bm bk bf m w s acc Ds W) (hg : W.grownBy W' row)
    (hr : ∀ r, row = some r → w.heap.size ≤ r ∧ (∃ o : Obj, W.heap[r]? = some o ∧ o.isCells = false) ∧ r ∉ Ds) (hm : MapOk l m W') : RdSt l A c b3 b6 b8 b9 bm bk bf m w s acc Ds W' := by
  have cells : ∀ {b : Nat} {cs : Array Value} {t : TypeId}, W.heap[b]? = some (.cells cs t (0, 0)) → W'.heap[b]? = some (.cells cs t (0, 0)) := fun hb =>
    (hg.block _ (blk_lt hb) (fun e => by obtain ⟨_, ⟨o, ho, hc⟩, _⟩ := hr _ e.symm; rw [hb] at ho; cases ho; cases hc)).trans hb
  obtain ⟨v, hv1, hv2⟩ := h.h9
  exact ⟨cells h.h3, cells h.h6, cells h.h8, ⟨v, cells hv1, own_kept_obj hv2 hg (fun r e => (hr r e).2.1)⟩, cells h.hbm, cells h.hbk, cells h.hbf, hm,
    h.below.trans ⟨hg.os, hg.tape, hg.output, hg.size, fun k hk => hg.block k (Nat.lt_of_lt_of_le hk h.below.size) (fun e => by have := (hr _ e.symm).1; omega)⟩,
    fun D hD => ⟨(hg.block D (blk_lt (h.ds D hD).1) (fun e => (hr _ e.symm).2.2 hD)).trans (h.ds D hD).1, (h.ds D hD).2⟩, h.nodup⟩
theorem RdSt.kept (h : RdSt l A c b3 b6 b8 b9 bm bk bf m w s acc Ds W) (hk : Keep W.heap.size (some m) W W') (hmw : w.heap.size ≤ m) (hm : MapOk l m W') : RdSt l A c b3 b6 b8 b9 bm bk bf m w s acc Ds W' := by
  obtain ⟨es, ck, hmm, _⟩ := h.map
  refine h.grown ⟨hk.os, hk.tape, hk.output, hk.size, hk.block⟩ ?_ hm
  rintro r e
  cases e
  refine ⟨hmw, ⟨_, hmm, rfl⟩, fun hD => ?_⟩
  have := (h.ds _ hD).1
  rw [hmm] at this; cases this
theorem RdSt.appended (h : RdSt l A c b3 b6 b8 b9 bm bk bf m w s acc Ds W) (hb3 : w.heap.size ≤ b3) (hb9 : w.heap.size ≤ b9) {v v' : Value} {w1 : World} {tmp : Obj} {r : ByteArray} {i : Int} (hv : W.heap[b9]? = some (.cells #[v] 25 (0, 0))) (hrow : W.ownsRow b9 3 1 v acc.length (acc.map (Value.int .i64)))
    (hown' : w1.ownsRow b9 3 1 v' (acc.length + 1) (acc.map (Value.int .i64) ++ [.int .i64 i])) (hgrow : (W.alloc tmp).grownBy w1 v.ownBlock) :
    w1.heap[b9]? = some (.cells #[v] 25 (0, 0)) ∧ w1.heap[b3]? = some (.cells #[.string s] 9 (0, 0)) ∧ (w1.setCell ⟨b9, 0, none⟩ v').heap[b3]? = some (.cells #[.string s] 9 (0, 0)) ∧
    RdSt l A c b3 b6 b8 b9 bm bk bf m w r (acc ++ [i]) Ds ((w1.setCell ⟨b9, 0, none⟩ v').setCell ⟨b3, 0, none⟩ (.string r)) := by
  have hblk : ∀ g, v.ownBlock = some g → ∃ cur, W.heap[g]? = some (.cells cur 3 (0, 0)) ∧ b9 ≤ g := by
    intro g hg
    rcases hrow.2 with ⟨rfl, _⟩ | ⟨g', cap, cur, rfl, hb, hgb, _⟩
    · cases hg
    · cases hg; exact ⟨_, hgb, hb⟩
  have keepO : ∀ (k : Nat) (o : Obj), W.heap[k]? = some o → (∀ cs fz, o ≠ Obj.cells cs 3 fz) → w1.heap[k]? = some o := by
    intro k o ho hne
    refine (hgrow.block k (by have := blk_lt ho; simp only [World.size_alloc]; omega) (fun e => ?_)).trans ((Below.heap_alloc _ _ _ (blk_lt ho)).trans ho)
    obtain ⟨cur, hc, _⟩ := hblk k e.symm
    rw [ho] at hc; cases hc; exact hne _ _ rfl
  have n3 : ∀ {cs : Array Value} {t : TypeId}, t ≠ 3 → ∀ cs' fz, Obj.cells cs t (0, 0) ≠ .cells cs' 3 fz := by rintro cs t ht cs' fz e; cases e; exact ht rfl
  have h9 := keepO _ _ hv (n3 (by decide))
  have h3 := keepO _ _ h.h3 (n3 (by decide))
  have hne : b3 ≠ b9 := by rintro rfl; rw [h.h3] at hv; cases hv
  have h3' : (w1.setCell ⟨b9, 0, none⟩ v').heap[b3]? = some (.cells #[.string s] 9 (0, 0)) := by rw [Below.heap_setCell _ _ _ _ (by exact hne)]; exact h3
  refine ⟨h9, h3, h3', h.move ?_ ?_ (box_put h3' _) ⟨v', ?_, ?_⟩ ?_⟩
  · intro k o ho ht hkm
    have hk1 := keepO k o ho (by rintro cs fz rfl; exact (ht _ _ _ rfl).1 rfl)
    rw [Below.heap_setCell _ _ _ _ (by rintro rfl; have := h.h3; rw [ho] at this; cases this; exact (ht _ _ _ rfl).2.1 rfl), Below.heap_setCell _ _ _ _ (by rintro rfl; rw [ho] at hv; cases hv; exact (ht _ _ _ rfl).2.2 rfl)]
    exact hk1
  · refine Below.setCell (Below.setCell ?_ (by exact hb9) _) (by exact hb3) _
    have hW := h.below.size
    refine (((Below.refl _ W).alloc (Nat.le_refl _) tmp).mono hW).trans ⟨hgrow.os, hgrow.tape, hgrow.output, hgrow.size, fun k hk => hgrow.block k (by simp only [World.size_alloc]; omega) (fun e => ?_)⟩
    obtain ⟨_, _, hb⟩ := hblk k e.symm; omega
  · rw [Below.heap_setCell _ _ _ _ (by exact fun e => hne e.symm)]; exact box_put h9 _
  · have e1 : (w1.setCell ⟨b9, 0, none⟩ v').ownsRow b9 3 1 v' (acc.length + 1) (acc.map (Value.int .i64) ++ [.int .i64 i]) := by
      refine hown'.kept (grownBy_setCell' w1 b9 v') (.inr ?_)
      rcases hown'.2 with ⟨rfl, h0⟩ | ⟨g', cap, cur, rfl, hb, hgb, _⟩
      · omega
      · intro e; cases e; rw [h9] at hgb; cases hgb
    have e2 := e1.kept (grownBy_setCell' (w1.setCell ⟨b9, 0, none⟩ v') b3 (.string r)) (.inr (by
      rcases e1.2 with ⟨rfl, h0⟩ | ⟨g', cap, cur, rfl, hb, hgb, _⟩
      · omega
      · intro e; cases e; rw [h3'] at hgb; cases hgb))
    simpa using e2
  · obtain ⟨es, ck, hmm, hrest⟩ := h.map
    refine ⟨es, ck, ?_, hrest⟩
    have := keepO _ _ hmm (by simp)
    rw [Below.heap_setCell _ _ _ _ (by rintro rfl; have := h.h3; rw [hmm] at this; cases this), Below.heap_setCell _ _ _ _ (by rintro rfl; rw [hmm] at hv; cases hv)]
    exact this
end
theorem RdSt.cons {l : List ByteArray} {A : Option Addr} {c b3 b6 b8 b9 bm bk bf m : Nat} {w : World} {s : ByteArray} {acc : List Int} {Ds : List Nat} {W : World} (h : RdSt l A c b3 b6 b8 b9 bm bk bf m w s acc Ds W) {D : Nat} (hD : W.heap[D]? = some (.deferred (some []))) (hw : w.heap.size ≤ D) (hn : ∀ E ∈ Ds, E < D) :
    RdSt l A c b3 b6 b8 b9 bm bk bf m w s acc (D :: Ds) W :=
  ⟨h.h3, h.h6, h.h8, h.h9, h.hbm, h.hbk, h.hbf, h.map, h.below, fun E hE => by rcases List.mem_cons.1 hE with rfl | hE; exact ⟨hD, hw⟩; exact h.ds E hE, List.nodup_cons.2 ⟨fun hd => by have := hn D hd; omega, h.nodup⟩⟩
theorem find_prefix {α : Type} (p : α → Bool) {pre : List α} {x : α} {l : List α} (h : pre ++ [x] <+: l) (h0 : ∀ y ∈ pre, p y = false) (hx : p x = true) : l.find? p = some x := by
  obtain ⟨t, rfl⟩ := h
  rw [List.append_assoc, List.find?_append, List.find?_eq_none.2 (fun y hy => by simp [h0 y hy])]
  simp [hx]
theorem own_lower {w : World} {base base' n : Nat} {e : TypeId} {size : Nat} {v : Value} {xs : List Value} (h : w.ownsRow base e size v n xs) (hb : base' ≤ base) : w.ownsRow base' e size v n xs := by
  refine ⟨h.1, ?_⟩
  rcases h.2 with h | ⟨g, cap, cur, rfl, h1, h2⟩
  · exact .inl h
  · exact .inr ⟨g, cap, cur, rfl, Nat.le_trans hb h1, h2⟩
theorem givenE_size {l : List ByteArray} {s : ByteArray} (h : givenE l s = 0) : s.size ≤ 250 := by
  unfold givenE at h
  split at h
  · split at h
    · simp at h
    · rename_i hg; simpa using hg
  · simp at h
theorem str_nonempty {s : ByteArray} (h : s.size ≠ 0) : s.toList ≠ [] := by
  intro e
  rw [Lib.toList_data] at e
  have := congrArg List.length e
  rw [data_length] at this
  exact h this
set_option maxRecDepth 100000 in
set_option maxHeartbeats 8000000 in
theorem wire_Read (A : Option Addr) (c : Nat) (l : List ByteArray) (s : ByteArray) (w : World) (hr : Kd.C Kd.string w A l.length l) (hsz : ∀ x ∈ l, x.size ≤ 9223372036854775807) (hs : s.size ≤ 9223372036854775807) :
    Calls Tryz.prog 20 #[.agg #[.slice A l.length c], .string s] w fun e w' => ∃ v, e = .returned (.tuple #[v, .int .i64 (readR l s).2]) ∧ w'.ownsRow w.heap.size 3 1 v (readR l s).1.length ((readR l s).1.map (Value.int .i64)) ∧ Below w.heap.size w w' := by
  refine (callsIn_wide (n := 12)).1 ?_
  refine callsIn_of_wp_marks Tryz.func20 rfl trivial ?_ rfl
  simp only [Tryz.ntmps20, List.size_toArray, List.length_cons, List.length_nil, Nat.reduceAdd, Nat.reduceSub, Array.replicate_succ, Array.replicate_zero, List.push_toArray, List.append_toArray, List.nil_append, List.cons_append]
  gi_wp2_with fail
  refine ⟨trivial, ?_⟩
  refine (callsIn_wide.2 (given_calls A c l s _ (Kd.C_alloc (Kd.C_alloc hr _) _) hsz hs)).mono ?_
  rintro e w1 ⟨v, rfl, hv, ⟨A', n', c', rfl⟩, hb⟩
  have HB := Lib.hid (below_step (below2 w _ _) hb)
  have hbs := blk_below (blk_new1 w _ _) hb
  clear hb
  have HR := Lib.hid (Kd.C_below hr HB.out)
  have Hr := Lib.hid hr
  clear hr
  obtain ⟨g, hg⟩ : ∃ g, g = givenE l s := ⟨_, rfl⟩
  rw [← hg] at hv ⊢
  have HV := Lib.hid hv
  have HG := Lib.hid hg
  clear hv hg
  rcases (show g = 0 ∨ g = 110 ∨ g = 112 by rw [HG.out]; exact givenE_cases l s) with rfl | rfl | rfl
  rotate_left
  · gi_wp2
    have hR : readR l s = ([], 110) := by unfold readR; rw [← HG.out]; rfl
    rw [hR]
    exact ⟨_, results_tmp2 rfl _ _ _, _, rfl, World.ownsRow_nil _ _ _ _, below_alloc HB.out _⟩
  · gi_wp2
    have hR : readR l s = ([], 112) := by unfold readR; rw [← HG.out]; rfl
    rw [hR]
    exact ⟨_, results_tmp2 rfl _ _ _, _, rfl, World.ownsRow_nil _ _ _ _, below_alloc HB.out _⟩
  have hv' := HV.out rfl
  simp only [Value.slice.injEq] at hv'
  obtain ⟨h1, h2, h3⟩ := hv'
  subst A' n' c'
  have hw := Lib.hid (fun x hx => (codeOk_words (givenE_ok HG.out.symm) x hx).1)
  have hlt3 := blk_lt hbs
  clear HV
  gi_wp2_with fail
  refine ⟨trivial, ?_⟩
  refine (callsIn_wide.2 (counter_calls A c l _ (Kd.C_alloc HR.out _) hw.out)).mono ?_
  rintro e w2 ⟨rfl, hM, hMap, hb2⟩
  have hb6 := blk_below (blk_new w1 (.cells #[.slice A l.length c] 126)) hb2
  have hbs2 := blk_below (blk_alloc hbs _) hb2
  have HB2 := Lib.hid (below_step (below_alloc HB.out _) hb2)
  have hlt6 := blk_lt hb6
  have hltM := hb2.size
  clear hb2
  simp only [World.size_alloc] at hM hMap hltM ⊢
  have HM := Lib.hid hM
  have HMap := Lib.hid hMap
  clear hM hMap
  have hcs := box_cell hbs2
  have hlt3' := blk_lt hbs2
  obtain ⟨m, hm⟩ : ∃ m, m = w1.heap.size + 1 + 1 := ⟨_, rfl⟩
  obtain ⟨bm, hbm⟩ : ∃ m, m = w1.heap.size + 1 + 1 + 1 := ⟨_, rfl⟩
  obtain ⟨bk, hbk⟩ : ∃ m, m = w1.heap.size + 1 := ⟨_, rfl⟩
  obtain ⟨bf, hbf⟩ : ∃ m, m = w1.heap.size + 1 + 1 + 1 + 1 := ⟨_, rfl⟩
  rw [← hbf, ← hbm, ← hm, ← hbk] at HM
  rw [← hm] at HMap
  rw [← hbf, ← hbm, ← hbk]
  have Hms := Lib.hid (And.intro hm (And.intro hbm (And.intro hbk hbf)))
  clear hm hbm hbk hbf
  gi_wp2_with fail
  refine ⟨trivial, ?_⟩
  refine (callsIn_wide.2 (count_calls HM.out (s.size + 1) s _ (by omega) (.of_below (below1 w2 _) _) (HMap.out.of_heap (by exact (below1 w2 _).block _ HMap.out.lt)))).mono ?_
  rintro e w3 ⟨rfl, hk3, hm3⟩
  obtain ⟨n0, hn0⟩ : ∃ n0, n0 = waysV l s := ⟨_, rfl⟩
  rw [← hn0]
  have h8 : w3.heap[w2.heap.size]? = some (.cells #[.func (.func 116) #[] #[.pointer (some ⟨bm, 0, none⟩), .pointer (some ⟨bk, 0, none⟩), .pointer (some ⟨bf, 0, none⟩)]] 129 (0, 0)) := hk3.blk (blk_new w2 _) (by simp) (by intro e; cases e; have := HMap.out.lt; omega)
  have h6 := hk3.blk (blk_alloc hb6 _) (by have := blk_lt hb6; simp only [World.size_alloc]; omega) (by intro e; cases e; have := Hms.out.1; omega)
  have h3 := hk3.blk (blk_alloc hbs2 _) (by simp only [World.size_alloc]; omega) (by intro e; cases e; have := Hms.out.1; omega)
  have HK : Hid (Keep w2.heap.size (some m) w2 w3 ∧ Below w.heap.size w w3) := Lib.hid (by
    have h1 : Keep w2.heap.size (some m) w2 w3 := (Keep.of_below (below1 w2 _) _).trans (hk3.mono (by simp only [World.size_alloc]; omega))
    exact ⟨h1, HB2.out.trans (h1.lose HB2.out.size (fun k e => by cases e; have := Hms.out.1; omega))⟩)
  have Hm3 := Lib.hid hm3
  clear hk3 hm3 hb6 hbs2 hcs
  by_cases hz : n0 = 0
  · subst hz
    gi_wp2
    have hR : readR l s = ([], 6) := by unfold readR; rw [← HG.out, if_pos rfl, if_pos hn0.symm]
    rw [hR]
    exact ⟨_, results_tmp2 rfl _ _ _, _, rfl, World.ownsRow_nil _ _ _ _, HK.out.2⟩
  have HR0 : Hid (readR l s = (readF l (s.size + 1) s, 0)) := Lib.hid (by unfold readR; rw [← HG.out, if_pos rfl, if_neg (by rw [← hn0]; exact hz)])
  have hn1 : 0 < waysV l s := by have := (waysF_bound l (s.size + 1) s).1; unfold waysV at hn0 ⊢; omega
  have HSt : Hid (RdSt l A c (w.heap.size + 1) w1.heap.size w2.heap.size w3.heap.size bm bk bf m w s [] [] (w3.alloc (.cells #[.slice none 0 0] 25))) := Lib.hid
    ⟨blk_alloc h3 _, blk_alloc h6 _, blk_alloc h8 _, ⟨_, blk_new w3 _, World.ownsRow_nil _ _ _ _⟩,
      blk_alloc (HK.out.1.blk HM.out.hbm (blk_lt HM.out.hbm) (by intro e; cases e; have := HM.out.hbm; rw [HMap.out.choose_spec.choose_spec.1] at this; cases this)) _,
      blk_alloc (HK.out.1.blk HM.out.hbk (blk_lt HM.out.hbk) (by intro e; cases e; have := HM.out.hbk; rw [HMap.out.choose_spec.choose_spec.1] at this; cases this)) _,
      blk_alloc (HK.out.1.blk HM.out.hbf (blk_lt HM.out.hbf) (by intro e; cases e; have := HM.out.hbf; rw [HMap.out.choose_spec.choose_spec.1] at this; cases this)) _,
      Hm3.out.of_heap ((below1 w3 _).block _ Hm3.out.lt), below_alloc HK.out.2 _, by simp, by simp⟩
  have Hsz := Lib.hid (givenE_size HG.out.symm)
  clear h3 h6 h8
  gi_wp2_with fail
  refine wpIn_loop_ghost (fun n a W => ∃ (s' : ByteArray) (acc : List Int) (Ds : List Nat) (u27 u28 u29 u30 u31 : Value), s'.size = n ∧ acc.length + s'.size ≤ 250 ∧ 0 < waysV l s' ∧ acc ++ readF l (s'.size + 1) s' = readF l (s.size + 1) s ∧
    RdSt l A c (w.heap.size + 1) w1.heap.size w2.heap.size w3.heap.size bm bk bf m w s' acc Ds W ∧ a = ⟨#[.agg #[.slice A l.length c], .string s, .pointer (some ⟨w.heap.size, 0, none⟩), .pointer (some ⟨w.heap.size + 1, 0, none⟩), .slice none 0 0, .int .i64 0, .pointer (some ⟨w1.heap.size, 0, none⟩), .int .i64 0,
      .pointer (some ⟨w2.heap.size, 0, none⟩), .pointer (some ⟨w3.heap.size, 0, none⟩), undef, undef, .tuple #[.agg #[.slice A l.length c], .int .i64 0], .agg #[.slice A l.length c], .string s, .tuple #[.agg #[.slice A l.length c], .int .i64 0], .agg #[.slice A l.length c], .int .i64 0, .int .i64 0, .bool false, undef, .agg #[.slice A l.length c],
      .func (.func 116) #[] #[.pointer (some ⟨bm, 0, none⟩), .pointer (some ⟨bk, 0, none⟩), .pointer (some ⟨bf, 0, none⟩)], .func (.func 116) #[] #[.pointer (some ⟨bm, 0, none⟩), .pointer (some ⟨bk, 0, none⟩), .pointer (some ⟨bf, 0, none⟩)], .string s, .int .i64 n0, .bool (n0 == 0), u27, u28, u29, u30, u31, undef, undef, undef, undef, undef, undef, undef, undef, undef, undef, undef, undef], marks Ds⟩) s.size
    ⟨s, [], [], undef, undef, undef, undef, undef, rfl, by simpa using Hsz.out, hn1, rfl, HSt.out, by rw [hn0]; rfl⟩ ?_
  rintro n a W ⟨s', acc, Ds, u27, u28, u29, u30, u31, rfl, hlen, hpos, hacc, hS, rfl⟩
  have Hacc := Lib.hid hacc
  have HS := Lib.hid hS
  have hc3 := box_cell hS.h3
  have hf3 := box_free hS.h3
  have hc6 := box_cell hS.h6
  have hc8 := box_cell hS.h8
  obtain ⟨v9, hv9, hown⟩ := hS.h9
  have hc9 := box_cell hv9
  have hlt9 := blk_lt hv9
  clear hacc hS hv9 hown
  by_cases h0 : s'.size = 0
  · obtain rfl : s' = ⟨#[]⟩ := by obtain ⟨d⟩ := s'; rw [Array.eq_empty_of_size_eq_zero h0]
    gi_wp2
    have hfull : acc = readF l (s.size + 1) s := by rw [← Hacc.out, readF, if_pos h0]; simp
    rw [HR0.out, ← hfull]
    obtain ⟨v, hv, hown⟩ := HS.out.h9
    have hcv := box_cell hv
    rw [hc9] at hcv; cases hcv
    have hW := HB2.out.size
    have hW3 := HK.out.2.size
    exact leaves_marks (fun W' => results_tmp2 rfl _ _ W') Ds W (fun D hD => (HS.out.ds D hD).1) HS.out.nodup ⟨v9, rfl, shut_own Ds W (own_lower hown hW3) (fun D hD => (HS.out.ds D hD).1) HS.out.nodup, shut_below Ds W HS.out.below (fun D hD => (HS.out.ds D hD).2)⟩
  have hne : (!s'.toList.isEmpty) = true := by have := str_nonempty h0; simp [this]
  gi_wp2_with fail
  refine ⟨trivial, ?_⟩
  refine (callsIn_wide.2 (heads_calls A c l.length s' _)).mono ?_
  rintro e wL ⟨rfl, hwL⟩
  have hbL : Below W.heap.size W wL := by rw [hwL]; exact below2 _ _ _
  have hszL : wL.heap.size = W.heap.size + 1 + 1 := by rw [hwL]; simp only [World.size_alloc]
  have hk1 : wL.heap[W.heap.size]? = some (.cells #[.slice A l.length c] 126 (0, 0)) := by rw [hwL]; exact blk_alloc (blk_new W _) _
  have hs1 : wL.heap[W.heap.size + 1]? = some (.cells #[.string s'] 9 (0, 0)) := by rw [hwL]; exact blk_new1 W _ _
  clear hwL
  have hmw : w.heap.size ≤ m := by have := HB.out.size; have := Hms.out.1; omega
  have hSL : RdSt l A c (w.heap.size + 1) w1.heap.size w2.heap.size w3.heap.size bm bk bf m w s' acc Ds wL := HS.out.kept (.of_below hbL _) hmw (HS.out.map.of_heap (hbL.block _ HS.out.map.lt))
  gi_wp2_with fail
  have hDs : ∀ D ∈ Ds, D < wL.heap.size := fun D hD => Nat.lt_of_lt_of_le (blk_lt (HS.out.ds D hD).1) hbL.size
  have hWw : w.heap.size ≤ wL.heap.size := hSL.below.size
  have HSL := Lib.hid hSL
  have Hr' := Hr.out
  have hCL : Kd.C Kd.string wL A l.length l := Kd.C_below Hr' HSL.out.below
  obtain ⟨es, ck, hmL, _⟩ := hSL.map
  have hmlt := blk_lt hmL
  obtain ⟨b6, hb6⟩ : ∃ b, b = w1.heap.size := ⟨_, rfl⟩
  obtain ⟨b8, hb8⟩ : ∃ b, b = w2.heap.size := ⟨_, rfl⟩
  obtain ⟨b9, hb9⟩ : ∃ b, b = w3.heap.size := ⟨_, rfl⟩
  have hb9w : w.heap.size ≤ b9 := by rw [hb9]; exact HK.out.2.size
  rw [← hb6, ← hb8, ← hb9] at HSL ⊢
  have Hb := Lib.hid (And.intro hb6 (And.intro hb8 hb9))
  clear hSL HB HB2 HK Hms hb6 hb8 hb9 hc3 hf3 hc6 hc8 hc9
  refine wpIn_rangeFunc_ownG rfl (by decide) (gf := 117) (lb := #[.pointer (some ⟨W.heap.size, 0, none⟩), .pointer (some ⟨W.heap.size + 1, 0, none⟩)]) rfl trivial (enters_of Tryz.func117 (by kernel_rfl) rfl) (w0 := wL)
    (heads_stops 11 (by decide) _ _ m A c l s' wL wL hmL hCL (Keep.refl _ _ _) hk1 hs1) (fun h k => h.trans k) ?hKb (Below.refl _ _) (fun _ => rfl)
    (fun pre W' => (∀ x ∈ pre, waysV l x.1.2 = 0) ∧ RdSt l A c (w.heap.size + 1) b6 b8 b9 bm bk bf m w s' acc Ds W' ∧ wL.heap.size ≤ W'.heap.size)
    (fun cc pre W' => cc = .exit 2 ∧ ∃ p x, pre = p ++ [x] ∧ (∀ y ∈ p, waysV l y.1.2 = 0) ∧ 0 < waysV l x.1.2 ∧ RdSt l A c (w.heap.size + 1) b6 b8 b9 bm bk bf m w x.1.2 (acc ++ [x.1.1]) Ds W')
    ?hI ?hIx
    ⟨by simp, HSL.out, Nat.le_refl _⟩
    (fun x => { tmps := #[.agg #[.slice A l.length c], .string s, .pointer (some ⟨w.heap.size, 0, none⟩), .pointer (some ⟨w.heap.size + 1, 0, none⟩), .slice none 0 0, .int .i64 0, .pointer (some ⟨b6, 0, none⟩), .int .i64 0,
      .pointer (some ⟨b8, 0, none⟩), .pointer (some ⟨b9, 0, none⟩), .int .i64 x.1.1, .string x.1.2, .tuple #[.agg #[.slice A l.length c], .int .i64 0], .agg #[.slice A l.length c], .string s, .tuple #[.agg #[.slice A l.length c], .int .i64 0], .agg #[.slice A l.length c], .int .i64 0, .int .i64 0, .bool false, undef, .agg #[.slice A l.length c],
      .func (.func 116) #[] #[.pointer (some ⟨bm, 0, none⟩), .pointer (some ⟨bk, 0, none⟩), .pointer (some ⟨bf, 0, none⟩)], .func (.func 116) #[] #[.pointer (some ⟨bm, 0, none⟩), .pointer (some ⟨bk, 0, none⟩), .pointer (some ⟨bf, 0, none⟩)], .string s, .int .i64 (waysV l s), .bool false, .string s', .bool true, .agg #[.slice A l.length c], .string s', .func (.func 117) #[] #[.pointer (some ⟨W.heap.size, 0, none⟩), .pointer (some ⟨W.heap.size + 1, 0, none⟩)], .int .i64 x.1.1, .string x.1.2, undef, undef, undef, undef, undef, undef, undef, undef, undef, undef], defers := [] }) ?assign ?body ?done ?stop
  case hKb =>
    intro W' L o o' hl h _ _
    exact ⟨(Keep.refl _ _ _).put o' (.inl hl), World.putObj_heap_other (by omega), World.putObj_heap_other (by omega)⟩
  case hI =>
    intro pre X Y row hs hg hr
    refine ⟨hs.1, hs.2.1.grown hg (fun r e => ⟨by have := (hr r e).1; omega, (hr r e).2, fun hD => by have := hDs r hD; have := (hr r e).1; omega⟩) (hs.2.1.map.of_heap (hg.block _ hs.2.1.map.lt (fun e => by have := (hr _ e.symm).1; omega))), Nat.le_trans hs.2.2 hg.size⟩
  case hIx =>
    rintro cc pre X Y row ⟨rfl, p, x, rfl, hp, hx, hs⟩ hg hr
    exact ⟨rfl, p, x, rfl, hp, hx, hs.grown hg (fun r e => ⟨by have := (hr r e).1; omega, (hr r e).2, fun hD => by have := hDs r hD; have := (hr r e).1; omega⟩) (hs.map.of_heap (hg.block _ hs.map.lt (fun e => by have := (hr _ e.symm).1; omega)))⟩
  case assign =>
    intro L x W' K hK
    gi_wp2
    exact hK
  case body =>
    rintro L pre ⟨x, hx⟩ W' ⟨hz', hR, hle'⟩ hlt
    dsimp only
    have hc8 := box_cell hR.h8
    have hcall := count_calls (hR.made hw.out Hr') (x.2.size + 1) x.2 W' (by omega) (Keep.refl _ _ _) hR.map
    obtain ⟨nx, hnx⟩ : ∃ nx, nx = waysV l x.2 := ⟨_, rfl⟩
    rw [← hnx] at hcall
    have Hnx := Lib.hid hnx
    have HR' := Lib.hid hR
    have Hcall := Lib.hid hcall
    have Hz := Lib.hid hz'
    have hge : 0 ≤ nx := by rw [hnx]; exact (waysF_bound l _ x.2).1
    clear hz' hR hcall hlt hnx
    gi_wp2_with fail
    refine ⟨trivial, ?_⟩
    refine (CallsIn.inRound L (callsIn_wide.2 Hcall.out)).mono ?_
    rintro e W1 ⟨rfl, hk4, hm4⟩
    have hR1 := HR'.out.kept hk4 hmw hm4
    have HR1 := Lib.hid hR1
    have hc3 := box_cell hR1.h3
    have hf3 := box_free hR1.h3
    obtain ⟨v9, hv9, hown⟩ := hR1.h9
    have hc9 := box_cell hv9
    have hf9 := box_free hv9
    have Hk4 := Lib.hid hk4
    clear hk4 hm4 hR1
    by_cases hpx : 0 < nx
    · obtain ⟨i0, hi, hz0, hz1, hz2⟩ := info_parts info3
      gi_wp2_with (gi_at_builtin; refine wpListIn_append_own _ rfl _ _ 25 rfl b9 3 i0 (.int .i64 0) 1 8 Tryz.underlying25 hi hz0 hz1 hz2 rfl (by decide) _ _ _ rfl (hown.alloc _) ⟨W1.heap.size, 0, none⟩ 1 1 [.int .i64 x.1] rfl rfl (cell_one_new _ _ _) (by simp [Value.oneCell']) (by unfold maxLen; omega) (by omega) (by have := blk_lt hv9; simp; omega) ?_; intro v' w1' hown' hgrow _; obtain ⟨g', cap', rfl⟩ := ownsRow_succ hown'; have hgrow' : (W1.alloc (.cells #[.int .i64 x.1] 3)).grownBy w1' v9.ownBlock := hgrow; clear hgrow; obtain ⟨q9, q3, q3', qR⟩ := HR1.out.appended (r := x.2) (by omega) hb9w hv9 hown hown' hgrow'; have p9 := box_cell q9; have f9 := box_free q9; have p3 := box_cell q3'; have f3 := box_free q3'; have HqR := Lib.hid qR; have Hgr := Lib.hid hgrow'; clear qR hgrow')
      have hk5 := keepsFrom_keep Hk4.out (show m < wL.heap.size by omega)
      refine ⟨?_, rfl, pre, ⟨x, hx⟩, rfl, Hz.out, by rw [← Hnx.out]; exact hpx, HqR.out⟩
      refine hk5.trans ((KeepsFrom.trans ?_ ((KeepsOthers.setCell _ _ _).from _)).trans ((KeepsOthers.setCell _ _ _).from _))
      refine ((KeepsOthers.alloc W1 _).trans (KeepsOthers.of_grownBy Hgr.out fun j o ej hj => ?_)).from _
      rcases (hown.alloc (.cells #[.int .i64 x.1] 3)).2 with ⟨rfl, _⟩ | ⟨g, cap, cur, rfl, _, hgb, _⟩
      · simp [Value.ownBlock] at ej
      · obtain rfl : g = j := by simpa [Value.ownBlock] using ej
        rw [hgb] at hj; cases hj; rfl
    · have h0x : nx = 0 := by omega
      subst h0x
      gi_wp2
      have h1 := HR'.out.below.size
      refine ⟨keepsFrom_keep Hk4.out (by omega), ⟨Hk4.out.mono ?_, ?_, ?_⟩, ?_, HR1.out, Nat.le_trans hle' Hk4.out.size⟩
      · exact hle'
      · exact Hk4.out.block _ (by omega) (by intro e; cases e; rw [hmL] at hk1; cases hk1)
      · exact Hk4.out.block _ (by omega) (by intro e; cases e; rw [hmL] at hs1; cases hs1)
      · intro y hy
        rcases List.mem_append.1 hy with h | h
        · exact Hz.out y h
        · rw [List.mem_singleton] at h; subst h; exact Hnx.out.symm
  case done =>
    rintro D ys W' hD hS ⟨hz', _⟩ hK
    exfalso
    have h := waysV_step l hw.out s' h0
    rw [fold_zero (fun x => waysV l x.2) (fun x => (waysF_bound l _ x.2).1) (headsL l s') (fun x hx => by
      rw [← hS] at hx
      obtain ⟨y, hy, rfl⟩ := List.mem_map.1 hx
      exact hz' y hy)] at h
    omega
  case stop =>
    rintro D cc pre W' hD hpre ⟨rfl, p, x, rfl, hp, hx, hs⟩ hK
    have hfind : (headsL l s').find? (fun x => decide (0 < waysV l x.2)) = some x.1 := by
      rw [List.map_append] at hpre
      refine find_prefix _ hpre ?_ (by simpa using hx)
      intro y hy
      obtain ⟨z, hz, rfl⟩ := List.mem_map.1 hy
      simp [hp z hz]
    obtain ⟨wd, hmem, hst, he⟩ := headsL_mem x.2
    have h1 := restOf_size s' wd hst
    have h2 := hw.out wd hmem
    rw [← he] at h1
    rw [Hb.out.1, Hb.out.2.1, Hb.out.2.2] at hs ⊢
    gi_wp2
    refine ⟨x.1.2.size, by omega, x.1.2, acc ++ [x.1.1], D :: Ds, _, _, _, _, _, rfl, by simp; omega, hx, ?_, hs.cons hK (by omega) (fun E hE => by have := hDs E hE; omega), by rw [hn0, show (waysV l s == 0) = false by rw [← hn0]; simpa using hz]; rfl⟩
    have hq : readF l (s'.size + 1) s' = x.1.1 :: readF l s'.size x.1.2 := by rw [readF, if_neg h0, hfind]
    rw [← Hacc.out, hq]
    simp only [List.append_assoc, List.singleton_append]
    rw [readF_eq l hw.out s'.size (x.1.2.size + 1) x.1.2 (by omega) (by omega)]
end Go.Proofs.YtfnibmcenjiodaaGreatDoor.M
namespace Go.Proofs.YtfnibmcenjiodaaGreatDoor.M
open Go.Sort Go.Shelf Go.RowKit Go.Maps Go.Proofs.YtfnibmcenjiodaaGreatDoorW.PrintWords Go.Proofs.YtfnibmcenjiodaaGreatDoorW.PrintLast Go.Proofs.YtfnibmcenjiodaaGreatDoorW.PrintMore
def spell (ws : List ByteArray) (o : List Int) : List UInt8 := o.flatMap (fun n => (wordAt ws n).data.toList)
def okO (ws : List ByteArray) (o : List Int) : Prop := ∀ n ∈ o, 1 ≤ n ∧ n ≤ (ws.length : Int)
def rdgF (ws : List ByteArray) : Nat → ByteArray → List (List Int)
  | 0, _ => []
  | f + 1, s => if s.size = 0 then [[]] else (headsL ws s).flatMap (fun x => (rdgF ws f x.2).map (fun o => x.1 :: o))
theorem fold_len (f : Int × ByteArray → Int) (g : Int × ByteArray → List (List Int)) (h : ∀ x, f x = min 1000001 ((g x).length : Int)) : ∀ (l : List (Int × ByteArray)) (m : Nat),
    l.foldl (fun n x => min 1000001 (n + f x)) (min 1000001 (m : Int)) = min 1000001 ((m + (l.flatMap g).length : Nat) : Int)
  | [], m => by simp
  | x :: l, m => by
    rw [List.foldl_cons]
    have e : min 1000001 (min 1000001 (m : Int) + f x) = min 1000001 ((m + (g x).length : Nat) : Int) := by rw [h x]; omega
    rw [e, fold_len f g h l (m + (g x).length), List.flatMap_cons, List.length_append, Nat.add_assoc]
theorem waysF_rdg (ws : List ByteArray) : ∀ f s, waysF ws f s = min 1000001 ((rdgF ws f s).length : Int)
  | 0, s => by unfold waysF rdgF; rfl
  | f + 1, s => by
    unfold waysF rdgF
    split
    · rfl
    · have := fold_len (fun x => waysF ws f x.2) (fun x => (rdgF ws f x.2).map (fun o => x.1 :: o)) (fun x => by simp only [waysF_rdg ws f x.2, List.length_map]) (headsL ws s) 0
      rw [Nat.zero_add] at this
      exact this
theorem headsL_iff {ws : List ByteArray} {s : ByteArray} {x : Int × ByteArray} : x ∈ headsL ws s ↔ 1 ≤ x.1 ∧ x.1 ≤ (ws.length : Int) ∧ startsB s (wordAt ws x.1) = true ∧ x.2 = restOf s (wordAt ws x.1) := by
  unfold headsL headsTo
  rw [List.mem_flatMap]
  constructor
  · rintro ⟨j, hj, h⟩
    have hj := List.mem_range.1 hj
    unfold headAt at h
    split at h
    · rename_i hs
      rw [List.mem_singleton] at h
      subst h
      have e : wordAt ws ((j : Int) + 1) = rdOf ByteArray.empty ws j := by unfold wordAt; congr 1; omega
      refine ⟨by simp; omega, by simp; omega, ?_, ?_⟩
      · rw [e]; exact hs
      · rw [e]
    · cases h
  · rintro ⟨h1, h2, h3, h4⟩
    refine ⟨(x.1 - 1).toNat, List.mem_range.2 (by omega), ?_⟩
    have e : rdOf ByteArray.empty ws (((x.1 - 1).toNat : Nat) : Int) = wordAt ws x.1 := by unfold wordAt; congr 1; omega
    unfold headAt
    rw [e, if_pos h3, List.mem_singleton]
    exact Prod.ext (by dsimp only; omega) h4
theorem wordAt_nat {ws : List ByteArray} {n : Int} (h1 : 1 ≤ n) (h2 : n ≤ (ws.length : Int)) : ∃ (k : Nat) (h : k < ws.length), n = (k : Int) + 1 ∧ wordAt ws n = ws[k] := by
  obtain ⟨k, rfl⟩ : ∃ k : Nat, n = (k : Int) + 1 := ⟨(n - 1).toNat, by omega⟩
  have hk : k < ws.length := by omega
  refine ⟨k, hk, rfl, ?_⟩
  unfold wordAt
  rw [show (k : Int) + 1 - 1 = (k : Int) by omega]
  simp [rdOf, hk]
theorem wordAt_mem {ws : List ByteArray} {n : Int} (h1 : 1 ≤ n) (h2 : n ≤ (ws.length : Int)) : wordAt ws n ∈ ws := by
  obtain ⟨k, hk, _, e⟩ := wordAt_nat h1 h2
  rw [e]; exact List.getElem_mem hk
theorem spell_cons (ws : List ByteArray) (n : Int) (o : List Int) : spell ws (n :: o) = (wordAt ws n).data.toList ++ spell ws o := by simp [spell]
theorem data_nil {s : ByteArray} (h : s.size = 0) : s.data.toList = [] := List.eq_nil_of_length_eq_zero (by rw [data_length]; exact h)
theorem mem_rdg {ws : List ByteArray} (hw : ∀ x ∈ ws, 1 ≤ x.size) : ∀ f s o, s.size < f → (o ∈ rdgF ws f s ↔ okO ws o ∧ spell ws o = s.data.toList)
  | 0, s, o, h => by omega
  | f + 1, s, o, h => by
    unfold rdgF
    split
    · rename_i h0
      rw [data_nil h0, List.mem_singleton]
      constructor
      · rintro rfl; exact ⟨fun n h => (by cases h), rfl⟩
      · rintro ⟨h1, h2⟩
        cases o with
        | nil => rfl
        | cons n o =>
          rw [spell_cons] at h2
          have h3 := h1 n (List.mem_cons_self ..)
          have := hw _ (wordAt_mem h3.1 h3.2)
          have h4 := congrArg List.length h2
          rw [List.length_append, data_length, List.length_nil] at h4
          omega
    · rename_i h0
      rw [List.mem_flatMap]
      constructor
      · rintro ⟨x, hx, ho⟩
        obtain ⟨o', ho', rfl⟩ := List.mem_map.1 ho
        obtain ⟨h1, h2, h3, h4⟩ := headsL_iff.1 hx
        have hs := restOf_size _ _ h3
        have hp := hw _ (wordAt_mem h1 h2)
        obtain ⟨k1, k2⟩ := (mem_rdg hw f x.2 o' (by rw [h4]; omega)).1 ho'
        refine ⟨fun n hn => ?_, ?_⟩
        · rcases List.mem_cons.1 hn with rfl | hn
          · exact ⟨h1, h2⟩
          · exact k1 n hn
        · rw [spell_cons, k2, h4]; exact (restOf_cat h3).symm
      · rintro ⟨h1, h2⟩
        cases o with
        | nil => exact absurd (show s.size = 0 by rw [← data_length, ← h2]; rfl) h0
        | cons n o =>
          have h3 := h1 n (List.mem_cons_self ..)
          rw [spell_cons] at h2
          have h4 : startsB s (wordAt ws n) = true := startsB_of ⟨_, h2⟩
          have h5 := restOf_cat h4
          have hs := restOf_size _ _ h4
          have hp := hw _ (wordAt_mem h3.1 h3.2)
          refine ⟨(n, restOf s (wordAt ws n)), headsL_iff.2 ⟨h3.1, h3.2, h4, rfl⟩, List.mem_map.2 ⟨o, (mem_rdg hw f _ o (by dsimp only; omega)).2 ⟨fun m hm => h1 m (List.mem_cons_of_mem _ hm), ?_⟩, rfl⟩⟩
          rw [h5] at h2
          exact List.append_cancel_left h2
theorem heads_lt (ws : List ByteArray) (s : ByteArray) : (headsL ws s).Pairwise (fun x y => x.1 < y.1) := by
  unfold headsL headsTo
  rw [List.pairwise_flatMap]
  constructor
  · intro j _; unfold headAt; split <;> simp
  · refine List.pairwise_lt_range.imp (fun {i j} hij x hx y hy => ?_)
    unfold headAt at hx hy
    split at hx
    · split at hy
      · rw [List.mem_singleton] at hx hy; subst hx hy; dsimp only; omega
      · cases hy
    · cases hx
theorem nodup_rdg (ws : List ByteArray) : ∀ f s, (rdgF ws f s).Nodup
  | 0, s => List.nodup_nil
  | f + 1, s => by
    unfold rdgF
    split
    · simp
    · unfold List.Nodup
      rw [List.pairwise_flatMap]
      refine ⟨fun x _ => ?_, (heads_lt ws s).imp (fun {x y} h a ha b hb => ?_)⟩
      · rw [List.pairwise_map]
        exact (nodup_rdg ws f x.2).imp (fun {a b} h e => h (List.cons.inj e).2)
      · obtain ⟨a', _, rfl⟩ := List.mem_map.1 ha
        obtain ⟨b', _, rfl⟩ := List.mem_map.1 hb
        intro e
        have := (List.cons.inj e).1
        omega
def Reads (ws : List ByteArray) (s : ByteArray) (o : List Int) : Prop := okO ws o ∧ spell ws o = s.data.toList
theorem mem_reads {ws : List ByteArray} (hw : ∀ x ∈ ws, 1 ≤ x.size) {s : ByteArray} {o : List Int} : o ∈ rdgF ws (s.size + 1) s ↔ Reads ws s o := mem_rdg hw _ s o (by omega)
theorem ways_pos {ws : List ByteArray} (hw : ∀ x ∈ ws, 1 ≤ x.size) {s : ByteArray} : 0 < waysV ws s ↔ ∃ o, Reads ws s o := by
  unfold waysV
  rw [waysF_rdg]
  constructor
  · intro h
    cases e : rdgF ws (s.size + 1) s with
    | nil => rw [e] at h; exact absurd h (by decide)
    | cons o l => exact ⟨o, (mem_reads hw).1 (by rw [e]; exact List.mem_cons_self ..)⟩
  · rintro ⟨o, h⟩
    have := List.length_pos_of_mem ((mem_reads hw).2 h)
    omega
theorem ways_two {ws : List ByteArray} (hw : ∀ x ∈ ws, 1 ≤ x.size) {s : ByteArray} : 2 ≤ waysV ws s ↔ ∃ o o', Reads ws s o ∧ Reads ws s o' ∧ o ≠ o' := by
  unfold waysV
  rw [waysF_rdg]
  constructor
  · intro h
    have hn := nodup_rdg ws (s.size + 1) s
    match e : rdgF ws (s.size + 1) s with
    | [] => rw [e] at h; exact absurd h (by decide)
    | [o] => rw [e, List.length_cons, List.length_nil] at h; omega
    | o :: o' :: l =>
      rw [e] at hn
      refine ⟨o, o', (mem_reads hw).1 (by rw [e]; simp), (mem_reads hw).1 (by rw [e]; simp), fun h => ?_⟩
      subst h
      exact (List.nodup_cons.1 hn).1 (List.mem_cons_self ..)
  · rintro ⟨o, o', h1, h2, h3⟩
    have m1 := (mem_reads hw).2 h1
    have m2 := (mem_reads hw).2 h2
    match e : rdgF ws (s.size + 1) s with
    | [] => rw [e] at m1; cases m1
    | [a] =>
      rw [e, List.mem_singleton] at m1 m2
      exact absurd (m1.trans m2.symm) h3
    | a :: b :: l => rw [List.length_cons, List.length_cons]; omega
theorem wordAt_inj {ws : List ByteArray} (hn : ws.Nodup) {m n : Int} (hm : 1 ≤ m ∧ m ≤ (ws.length : Int)) (h : 1 ≤ n ∧ n ≤ (ws.length : Int)) (e : wordAt ws m = wordAt ws n) : m = n := by
  obtain ⟨j, hj, rfl, e1⟩ := wordAt_nat hm.1 hm.2
  obtain ⟨k, hk, rfl, e2⟩ := wordAt_nat h.1 h.2
  rw [e1, e2] at e
  have := (List.getElem_inj hn).1 e
  omega
theorem spell_cat (ws : List ByteArray) (o : List Int) : spell ws o = catW (o.map (wordAt ws)) := by
  unfold spell catW; rw [List.flatMap_map]
theorem row_orders {ws : List ByteArray} : ∀ (xs : List ByteArray), (∀ x ∈ xs, x ∈ ws) → ∃ o, okO ws o ∧ o.map (wordAt ws) = xs
  | [], _ => ⟨[], fun n h => (by cases h), rfl⟩
  | x :: xs, h => by
    obtain ⟨o, h1, h2⟩ := row_orders xs (fun y hy => h y (List.mem_cons_of_mem _ hy))
    obtain ⟨j, hj, e⟩ := List.getElem_of_mem (h x (List.mem_cons_self ..))
    refine ⟨((j : Int) + 1) :: o, fun n hn => ?_, ?_⟩
    · rcases List.mem_cons.1 hn with rfl | hn
      · omega
      · exact h1 n hn
    · rw [List.map_cons, h2]
      congr 1
      unfold wordAt
      rw [show ((j : Int) + 1 - 1) = (j : Int) by omega, ← e]
      simp [rdOf, hj]
theorem lead_two {ws : List ByteArray} (hw : ∀ x ∈ ws, 1 ≤ x.size) {t : ByteArray} (h : Lead ws ⟨#[]⟩ t) : 2 ≤ waysV ws t := by
  obtain ⟨v, x, xs, ys, hv, hx, hvx, hxs, hys, hh⟩ := lead_rows h
  obtain ⟨a, b, hab, ha, hb, e1, e2⟩ : ∃ a b : List ByteArray, a ≠ b ∧ (∀ z ∈ a, z ∈ ws) ∧ (∀ z ∈ b, z ∈ ws) ∧ t.data.toList = catW a ∧ t.data.toList = catW b := by
    rcases hh with ⟨e1, e2⟩ | ⟨e1, e2⟩
    · exact ⟨x :: xs, v :: ys, fun e => hvx (List.cons.inj e).1.symm, by simpa using ⟨hx, hxs⟩, by simpa using ⟨hv, hys⟩, e1, by rw [e2]; simp⟩
    · exact ⟨v :: xs, x :: ys, fun e => hvx (List.cons.inj e).1, by simpa using ⟨hv, hxs⟩, by simpa using ⟨hx, hys⟩, e1, by rw [e2]; simp⟩
  obtain ⟨o, o1, o2⟩ := row_orders a ha
  obtain ⟨p, p1, p2⟩ := row_orders b hb
  refine (ways_two hw).2 ⟨o, p, ⟨o1, by rw [spell_cat, o2, e1]⟩, ⟨p1, by rw [spell_cat, p2, e2]⟩, ?_⟩
  rintro rfl
  exact hab (o2.symm.trans p2)
theorem orders_inj {ws : List ByteArray} (hn : ws.Nodup) : ∀ (o p : List Int), okO ws o → okO ws p → o.map (wordAt ws) = p.map (wordAt ws) → o = p
  | [], [], _, _, _ => rfl
  | [], _ :: _, _, _, e => by cases e
  | _ :: _, [], _, _, e => by cases e
  | a :: o, b :: p, ho, hp, e => by
    rw [List.map_cons, List.map_cons] at e
    obtain ⟨e1, e2⟩ := List.cons.inj e
    rw [wordAt_inj hn (ho a (List.mem_cons_self ..)) (hp b (List.mem_cons_self ..)) e1, orders_inj hn o p (fun n hn => ho n (List.mem_cons_of_mem _ hn)) (fun n hn => hp n (List.mem_cons_of_mem _ hn)) e2]
theorem two_lead {ws : List ByteArray} (hw : ∀ x ∈ ws, 1 ≤ x.size) (hn : ws.Nodup) {s : ByteArray} (h : 2 ≤ waysV ws s) : ∃ t, Lead ws ⟨#[]⟩ t ∧ leT t s := by
  obtain ⟨o, p, ⟨o1, o2⟩, ⟨p1, p2⟩, hne⟩ := (ways_two hw).1 h
  refine rows_lead (fun w h e => by have := hw w h; rw [e] at this; exact absurd this (by decide)) (o.map (wordAt ws)) (p.map (wordAt ws)) ?_ ?_ ?_ ?_ s ?_
  · intro z hz; obtain ⟨n, hn, rfl⟩ := List.mem_map.1 hz; exact wordAt_mem (o1 n hn).1 (o1 n hn).2
  · intro z hz; obtain ⟨n, hn, rfl⟩ := List.mem_map.1 hz; exact wordAt_mem (p1 n hn).1 (p1 n hn).2
  · exact fun e => hne (orders_inj hn o p o1 p1 e)
  · rw [← spell_cat, ← spell_cat, o2, p2]
  · rw [← spell_cat, o2]
end Go.Proofs.YtfnibmcenjiodaaGreatDoor.M
namespace Go.Proofs.YtfnibmcenjiodaaGreatDoor.R
open Go.RowKit Go.Proofs.YtfnibmcenjiodaaGreatDoorW.PrintWords Go.Proofs.YtfnibmcenjiodaaGreatDoorW.PrintLast Go.Proofs.YtfnibmcenjiodaaGreatDoorW.PrintMore
attribute [local go_sem] max2_int min2_int max_two min_two max_three min_three max_four min_four   -- for this text's walks alone
def errW : Option Int → Value
  | none => .nilIface
  | some c => .iface 0 (.int .i64 c)
theorem errW_none : errW none = .nilIface := rfl
theorem errW_some (c : Int) : errW (some c) = .iface 0 (.int .i64 c) := rfl
theorem info3 : (Tryz.prog.info? 3).map (fun i => (i.zero, i.size, i.bytes)) = some (some (.int .i64 0), 1, 8) := by kernel_rfl
theorem info9 : (Tryz.prog.info? 9).map (fun i => (i.zero, i.size, i.bytes)) = some (some (.string ⟨#[]⟩), 1, 16) := by kernel_rfl
end Go.Proofs.YtfnibmcenjiodaaGreatDoor.R
namespace Go.Proofs.YtfnibmcenjiodaaGreatDoor.R
open Go.RowKit Go.Proofs.YtfnibmcenjiodaaGreatDoorW.PrintWords Go.Proofs.YtfnibmcenjiodaaGreatDoorW.PrintLast Go.Proofs.YtfnibmcenjiodaaGreatDoorW.PrintMore
attribute [local go_sem] max2_int min2_int max_two min_two max_three min_three max_four min_four   -- for this text's walks alone
def oilcakeref11_Great.l0 : Nat → List ByteArray → Int → Int → Option (Bool)
  | 0, _, _, _ => none
  | k + 1, x10, x11, x12 => if x12 < x11 then (if 0 ≤ x12 then (if x12 < (x10.length : Int) then (if ((rdOf ByteArray.empty x10 x12).size : Int) > 12 then (some true) else (oilcakeref11_Great.l0 k x10 x11 (wrap64 (x12 + 1)))) else (none)) else (none)) else (some false)
def oilcakeref11_Great.f (k : Nat) (l0_0 : List ByteArray) : Option (Bool) := if (l0_0.length : Int) > 12 then (some true) else (oilcakeref11_Great.l0 k l0_0 (l0_0.length : Int) 0)
set_option maxHeartbeats 8000000 in
set_option maxRecDepth 100000 in
theorem oilcakeref11_Great.calls (k : Nat) (A0_0 : Option Addr) (c0_0 : Nat) (l0_0 : List ByteArray) (r : Bool) (w : World) (hr0_0 : Kd.C Kd.string w A0_0 l0_0.length l0_0) (hc0_0 : l0_0.length ≤ c0_0) (h : oilcakeref11_Great.f k l0_0 = some r) :
    Calls Tryz.prog 14 #[.agg #[.slice A0_0 l0_0.length c0_0]] w fun e w' => e = .returned (.bool r) ∧ Below w.heap.size w w' := by
  have hu24 := Tryz.underlying24
  have HR0_0 := Aside0.mk hr0_0
  have HC0_0 := Aside0.mk hc0_0
  clear hr0_0 hc0_0
  have HB := Aside0.mk (Below.refl w.heap.size w)
  have H : (if (l0_0.length : Int) > 12 then (some true) else (oilcakeref11_Great.l0 k l0_0 (l0_0.length : Int) 0)) = some r := h
  clear h
  by_cases c2 : (l0_0.length : Int) > 12
  · rw [if_pos c2] at H
    have c2b0 : decide (12 < (l0_0.length : Int)) = true := decide_eq_true c2
    have c2b1 : decide (12 < l0_0.length) = true := decide_eq_true (by omega)
    clear c2
    obtain rfl := Option.some.inj H
    go_enter Tryz.func14, Tryz.ntmps14
    go_wp2_with (first | ((with_reducible refine gate_dst (N := 1) rfl ?_); refine box_event ?hg (N := 1) ?hd (cs := #[.slice A0_0 l0_0.length c0_0]) (t := 24) ?hr ?_; (case hd => rfl); (case hg => rfl); (case hr => first | (go_simp; done) | (go_simp; rfl)); intro gb101 hg w3 hbox hb; have n0_ := Aside0.mk (below_step (by repeat (first | (with_reducible first | exact HB.out | apply below_alloc | apply pw_below_drewN | apply below_drew1) | exact HB.out)) hb); have n1_ := Aside0.mk (hbox); have n2_ := Aside0.mk ((by rw [hg]; exact (below_size (by repeat (first | (with_reducible first | exact HB.out | apply below_alloc | apply pw_below_drewN | apply below_drew1) | exact HB.out))) : w.heap.size ≤ gb101)); have n3_ := Aside0.mk ((by rw [hg]; exact (below_size (by repeat (first | (with_reducible first | exact HB.out | apply below_alloc | apply pw_below_drewN | apply below_drew1) | exact HB.out))) : w.heap.size ≤ gb101)); clear HB; have HB := n0_; have BK101 := n1_; have GW101 := n2_; have GE101 := n3_; clear n0_ n1_ n2_ n3_; clear hb hbox hg; have hcz4_0 : w3.cell? ⟨gb101, 0, none⟩ = some (.slice A0_0 l0_0.length c0_0) := (blk_cell BK101.out 0).trans rfl; have hfz4_0 := blk_frozen BK101.out 0))
    go_ret
    exact ⟨by first | rfl | (simp [errW_none, errW_some] <;> rfl) | (simp [*, errW_none, errW_some] <;> rfl), by repeat (first | (with_reducible first | exact HB.out | apply below_alloc | apply pw_below_drewN | apply below_drew1 | refine below_set ?_ GE101.out) | exact HB.out)⟩
  · rw [if_neg c2] at H
    have c2b0 : decide (12 < (l0_0.length : Int)) = false := decide_eq_false c2
    have c2b1 : decide (12 < l0_0.length) = false := decide_eq_false (by omega)
    clear c2
    have H' := Aside0.mk H
    clear H
    go_enter Tryz.func14, Tryz.ntmps14
    go_wp2_with (first | ((with_reducible refine gate_dst (N := 1) rfl ?_); refine box_event ?hg (N := 1) ?hd (cs := #[.slice A0_0 l0_0.length c0_0]) (t := 24) ?hr ?_; (case hd => rfl); (case hg => rfl); (case hr => first | (go_simp; done) | (go_simp; rfl)); intro gb101 hg w5 hbox hb; have n0_ := Aside0.mk (below_step (by repeat (first | (with_reducible first | exact HB.out | apply below_alloc | apply pw_below_drewN | apply below_drew1) | exact HB.out)) hb); have n1_ := Aside0.mk (hbox); have n2_ := Aside0.mk ((by rw [hg]; exact (below_size (by repeat (first | (with_reducible first | exact HB.out | apply below_alloc | apply pw_below_drewN | apply below_drew1) | exact HB.out))) : w.heap.size ≤ gb101)); have n3_ := Aside0.mk ((by rw [hg]; exact (below_size (by repeat (first | (with_reducible first | exact HB.out | apply below_alloc | apply pw_below_drewN | apply below_drew1) | exact HB.out))) : w.heap.size ≤ gb101)); clear HB; have HB := n0_; have BK101 := n1_; have GW101 := n2_; have GE101 := n3_; clear n0_ n1_ n2_ n3_; clear hb hbox hg; have hcz6_0 : w5.cell? ⟨gb101, 0, none⟩ = some (.slice A0_0 l0_0.length c0_0) := (blk_cell BK101.out 0).trans rfl; have hfz6_0 := blk_frozen BK101.out 0))
    go_loopg [12] k (fun kq v12 w' => ∃ (x12_1 : Int), v12 = .int .i64 x12_1 ∧ Aside0 (oilcakeref11_Great.l0 kq l0_0 (l0_0.length : Int) x12_1 = some r) ∧ Aside0 (kq ≤ k) ∧ Aside0 (w'.heap[gb101]? = some (.cells #[(.slice A0_0 l0_0.length c0_0)] 24 (0, 0))) ∧ Aside0 (Below w.heap.size w w'))
    case atStart => exact ⟨(0), (by first | rfl | (simp; done) | (simp [*]; done)), H', ⟨Nat.le_refl _⟩, ⟨by (with_reducible repeat (first | refine blk_drewN ?_ _ | refine blk_drew ?_ | refine blk_alloc ?_ _)); exact BK101.out⟩, ⟨by repeat (first | (with_reducible first | exact HB.out | apply below_alloc | apply pw_below_drewN | apply below_drew1 | refine below_set ?_ GE101.out) | exact HB.out)⟩⟩
    case round =>
      clear H'
      try clear c1
      try clear c2
      try clear c2b0
      try clear c2b1
      try clear p2
      try clear hcz4_0
      try clear hcz6_0
      try clear hfz4_0
      try clear hfz6_0
      obtain ⟨x12_1, rfl, HA, HK1, BK101, HB⟩ := hrel
      cases gk with
      | zero => exact absurd HA.out (by simp [oilcakeref11_Great.l0])
      | succ k1 =>
        have H := HA.out
        clear HA
        simp only [oilcakeref11_Great.l0] at H
        by_cases c7 : x12_1 < (l0_0.length : Int)
        · rw [if_pos c7] at H
          have c7b0 : decide (x12_1 < (l0_0.length : Int)) = true := decide_eq_true c7
          clear c7
          by_cases c8 : 0 ≤ x12_1
          · rw [if_pos c8] at H
            have c8b0 : decide (0 ≤ x12_1) = true := decide_eq_true c8
            clear c8
            by_cases c9 : x12_1 < (l0_0.length : Int)
            · rw [if_pos c9] at H
              have c9b0 : decide (x12_1 < (l0_0.length : Int)) = true := decide_eq_true c9
              clear c9
              by_cases c10 : ((rdOf ByteArray.empty l0_0 x12_1).size : Int) > 12
              · rw [if_pos c10] at H
                have c10b0 : decide (12 < ((rdOf ByteArray.empty l0_0 x12_1).size : Int)) = true := decide_eq_true c10
                have c10b1 : decide (12 < (rdOf ByteArray.empty l0_0 x12_1).size) = true := decide_eq_true (by omega)
                clear c10
                obtain rfl := Option.some.inj H
                have p102 : 0 ≤ (x12_1 : Int) := of_decide_eq_true (by first | (with_reducible assumption) | assumption)
                have q102 : x12_1 < (l0_0.length : Int) := of_decide_eq_true (by first | (with_reducible assumption) | assumption)
                obtain ⟨ad102, e102, hx102_0⟩ := Kd.at_string HR0_0.out x12_1 p102 q102
                cases e102
                replace hx102_0 := (HB.out.cell (World.block_lt_of_cell? w _ hx102_0)).trans hx102_0
                replace p102 := eq_true p102
                replace q102 := eq_true q102
                go_wp2
                go_ret
                exact ⟨by first | rfl | (simp [errW_none, errW_some] <;> rfl) | (simp [*, errW_none, errW_some] <;> rfl), by repeat (first | (with_reducible first | exact HB.out | apply below_alloc | apply pw_below_drewN | apply below_drew1 | refine below_set ?_ GE101.out) | exact HB.out)⟩
              · rw [if_neg c10] at H
                have c10b0 : decide (12 < ((rdOf ByteArray.empty l0_0 x12_1).size : Int)) = false := decide_eq_false c10
                have c10b1 : decide (12 < (rdOf ByteArray.empty l0_0 x12_1).size) = false := decide_eq_false (by omega)
                clear c10
                have H' := Aside0.mk H
                clear H
                have p102 : 0 ≤ (x12_1 : Int) := of_decide_eq_true (by first | (with_reducible assumption) | assumption)
                have q102 : x12_1 < (l0_0.length : Int) := of_decide_eq_true (by first | (with_reducible assumption) | assumption)
                obtain ⟨ad102, e102, hx102_0⟩ := Kd.at_string HR0_0.out x12_1 p102 q102
                cases e102
                replace hx102_0 := (HB.out.cell (World.block_lt_of_cell? w _ hx102_0)).trans hx102_0
                replace p102 := eq_true p102
                replace q102 := eq_true q102
                go_wp2
                go_roundg k1
                case measure => have := HK1.out; omega
                case rel => exact ⟨(wrap64 (x12_1 + 1)), (by first | rfl | (simp; done) | (simp [*]; done)), H', ⟨by have := HK1.out; omega⟩, ⟨by (with_reducible repeat (first | refine blk_drewN ?_ _ | refine blk_drew ?_ | refine blk_alloc ?_ _)); exact BK101.out⟩, ⟨by repeat (first | (with_reducible first | exact HB.out | apply below_alloc | apply pw_below_drewN | apply below_drew1 | refine below_set ?_ GE101.out) | exact HB.out)⟩⟩
            · rw [if_neg c9] at H
              exact absurd H (by simp)
          · rw [if_neg c8] at H
            exact absurd H (by simp)
        · rw [if_neg c7] at H
          have c7b0 : decide (x12_1 < (l0_0.length : Int)) = false := decide_eq_false c7
          clear c7
          obtain rfl := Option.some.inj H
          go_wp2
          go_ret
          exact ⟨by first | rfl | (simp [errW_none, errW_some] <;> rfl) | (simp [*, errW_none, errW_some] <;> rfl), by repeat (first | (with_reducible first | exact HB.out | apply below_alloc | apply pw_below_drewN | apply below_drew1 | refine below_set ?_ GE101.out) | exact HB.out)⟩
def oilcakeref11_within.f (a0 : Int) (a1 : Int) (a2 : Int) : Option (Bool) := if a0 ≥ a1 then (some (decide (a0 ≤ a2))) else (some false)
set_option maxHeartbeats 8000000 in
set_option maxRecDepth 100000 in
theorem oilcakeref11_within.calls (a0 : Int) (a1 : Int) (a2 : Int) (r : Bool) (w : World) (h : oilcakeref11_within.f a0 a1 a2 = some r) :
    Calls Tryz.prog 81 #[.int .i64 a0, .int .i64 a1, .int .i64 a2] w fun e w' => e = .returned (.bool r) ∧ Drawn0 w w' := by
  have H : (if a0 ≥ a1 then (some (decide (a0 ≤ a2))) else (some false)) = some r := h
  clear h
  by_cases c4 : a0 ≥ a1
  · rw [if_pos c4] at H
    have c4b0 : decide (a1 ≤ a0) = true := decide_eq_true c4
    clear c4
    obtain rfl := Option.some.inj H
    go_enter Tryz.func81, Tryz.ntmps81
    go_wp2
    go_ret
    exact ⟨by first | rfl | (simp; done) | (simp [*]; done), by repeat (first | exact Drawn0.refl _ | apply Drawn0.step)⟩
  · rw [if_neg c4] at H
    have c4b0 : decide (a1 ≤ a0) = false := decide_eq_false c4
    clear c4
    obtain rfl := Option.some.inj H
    go_enter Tryz.func81, Tryz.ntmps81
    go_wp2
    go_ret
    exact ⟨by first | rfl | (simp; done) | (simp [*]; done), by repeat (first | exact Drawn0.refl _ | apply Drawn0.step)⟩
def oilcakeref11_signs.l0 : Nat → ByteArray → Int → Option (Bool)
  | 0, _, _ => none
  | k + 1, x0, x3 => if x3 < (x0.size : Int) then (if 0 ≤ x3 then (if (bt x0 x3) = 45 then (oilcakeref11_signs.l0 k x0 (wrap64 (x3 + 1))) else (if (bt x0 x3) = 46 then (oilcakeref11_signs.l0 k x0 (wrap64 (x3 + 1))) else (some false))) else (none)) else (some true)
def oilcakeref11_signs.f (k : Nat) (a0 : ByteArray) : Option (Bool) := oilcakeref11_signs.l0 k a0 0
set_option maxHeartbeats 8000000 in
set_option maxRecDepth 100000 in
theorem oilcakeref11_signs.calls (k : Nat) (a0 : ByteArray) (r : Bool) (w : World) (h : oilcakeref11_signs.f k a0 = some r) :
    Calls Tryz.prog 82 #[.string a0] w fun e w' => e = .returned (.bool r) ∧ Drawn0 w w' := by
  have H : (oilcakeref11_signs.l0 k a0 0) = some r := h
  clear h
  have H' := Aside0.mk H
  clear H
  go_enter Tryz.func82, Tryz.ntmps82
  go_wp2
  go_loopg [3] k (fun kq v3 w' => ∃ (x3_1 : Int), v3 = .int .i64 x3_1 ∧ Aside0 (oilcakeref11_signs.l0 kq a0 x3_1 = some r) ∧ Aside0 (kq ≤ k) ∧ Drawn0 w w')
  case atStart => exact ⟨(0), (by first | rfl | (simp; done) | (simp [*]; done)), H', ⟨Nat.le_refl _⟩, by repeat (first | exact Drawn0.refl _ | apply Drawn0.step)⟩
  case round =>
    clear H'
    obtain ⟨x3_1, rfl, HA, HK1, ⟨m1, rfl⟩⟩ := hrel
    cases gk with
    | zero => exact absurd HA.out (by simp [oilcakeref11_signs.l0])
    | succ k1 =>
      have H := HA.out
      clear HA
      simp only [oilcakeref11_signs.l0] at H
      by_cases c2 : x3_1 < (a0.size : Int)
      · rw [if_pos c2] at H
        have c2b0 : decide (x3_1 < (a0.size : Int)) = true := decide_eq_true c2
        clear c2
        by_cases c3 : 0 ≤ x3_1
        · rw [if_pos c3] at H
          have c3b0 : decide (0 ≤ x3_1) = true := decide_eq_true c3
          clear c3
          by_cases c5 : (bt a0 x3_1) = 45
          · rw [if_pos c5] at H
            have c5b0 : ((bt a0 x3_1) == 45) = true := beq_iff_eq.mpr c5
            have c5b1 : ((bt a0 x3_1) != 45) = false := bne_eq_false_iff_eq.mpr c5
            clear c5
            have H' := Aside0.mk H
            clear H
            have p4 : 0 ≤ (x3_1 : Int) := of_decide_eq_true (by first | (with_reducible assumption) | assumption)
            have q4 : x3_1 < (a0.size : Int) := of_decide_eq_true (by first | (with_reducible assumption) | assumption)
            have hx4 := bt_at a0 x3_1
            replace p4 := eq_true p4
            replace q4 := eq_true q4
            go_wp2
            go_roundg k1
            case measure => have := HK1.out; omega
            case rel => exact ⟨(wrap64 (x3_1 + 1)), (by first | rfl | (simp; done) | (simp [*]; done)), H', ⟨by have := HK1.out; omega⟩, by repeat (first | exact Drawn0.refl _ | apply Drawn0.step)⟩
          · rw [if_neg c5] at H
            have c5b0 : ((bt a0 x3_1) == 45) = false := beq_eq_false_iff_ne.mpr c5
            have c5b1 : ((bt a0 x3_1) != 45) = true := bne_iff_ne.mpr c5
            by_cases c7 : (bt a0 x3_1) = 46
            · rw [if_pos c7] at H
              have c7b0 : ((bt a0 x3_1) == 46) = true := beq_iff_eq.mpr c7
              have c7b1 : ((bt a0 x3_1) != 46) = false := bne_eq_false_iff_eq.mpr c7
              clear c7
              have H' := Aside0.mk H
              clear H
              have p4 : 0 ≤ (x3_1 : Int) := of_decide_eq_true (by first | (with_reducible assumption) | assumption)
              have q4 : x3_1 < (a0.size : Int) := of_decide_eq_true (by first | (with_reducible assumption) | assumption)
              have hx4 := bt_at a0 x3_1
              replace p4 := eq_true p4
              replace q4 := eq_true q4
              have p6 : 0 ≤ (x3_1 : Int) := of_decide_eq_true (by first | (with_reducible assumption) | assumption)
              have q6 : x3_1 < (a0.size : Int) := of_decide_eq_true (by first | (with_reducible assumption) | assumption)
              have hx6 := bt_at a0 x3_1
              replace p6 := eq_true p6
              replace q6 := eq_true q6
              go_wp2
              go_roundg k1
              case measure => have := HK1.out; omega
              case rel => exact ⟨(wrap64 (x3_1 + 1)), (by first | rfl | (simp; done) | (simp [*]; done)), H', ⟨by have := HK1.out; omega⟩, by repeat (first | exact Drawn0.refl _ | apply Drawn0.step)⟩
            · rw [if_neg c7] at H
              have c7b0 : ((bt a0 x3_1) == 46) = false := beq_eq_false_iff_ne.mpr c7
              have c7b1 : ((bt a0 x3_1) != 46) = true := bne_iff_ne.mpr c7
              obtain rfl := Option.some.inj H
              have p4 : 0 ≤ (x3_1 : Int) := of_decide_eq_true (by first | (with_reducible assumption) | assumption)
              have q4 : x3_1 < (a0.size : Int) := of_decide_eq_true (by first | (with_reducible assumption) | assumption)
              have hx4 := bt_at a0 x3_1
              replace p4 := eq_true p4
              replace q4 := eq_true q4
              have p6 : 0 ≤ (x3_1 : Int) := of_decide_eq_true (by first | (with_reducible assumption) | assumption)
              have q6 : x3_1 < (a0.size : Int) := of_decide_eq_true (by first | (with_reducible assumption) | assumption)
              have hx6 := bt_at a0 x3_1
              replace p6 := eq_true p6
              replace q6 := eq_true q6
              go_wp2
              go_ret
              exact ⟨by first | rfl | (simp; done) | (simp [*]; done), by repeat (first | exact Drawn0.refl _ | apply Drawn0.step)⟩
        · rw [if_neg c3] at H
          exact absurd H (by simp)
      · rw [if_neg c2] at H
        have c2b0 : decide (x3_1 < (a0.size : Int)) = false := decide_eq_false c2
        clear c2
        obtain rfl := Option.some.inj H
        go_wp2
        go_ret
        exact ⟨by first | rfl | (simp; done) | (simp [*]; done), by repeat (first | exact Drawn0.refl _ | apply Drawn0.step)⟩
mutual
def oilcakeref11_Code.l0 : Nat → Int → List ByteArray → Option (Bool)
  | 0, _, _ => none
  | k + 1, x3, x112000 => if x3 < (x112000.length : Int) then (if 0 ≤ x3 then ((oilcakeref11_within.f ((rdOf ByteArray.empty x112000 x3).size : Int) 1 6).bind fun t114 => (if t114 = true then ((oilcakeref11_signs.f k (rdOf ByteArray.empty x112000 x3)).bind fun t116 => (oilcakeref11_Code.j1 k x3 (!t116) x112000)) else (oilcakeref11_Code.j1 k x3 true x112000))) else (none)) else (some true)
def oilcakeref11_Code.j1 : Nat → Int → Bool → List ByteArray → Option (Bool)
  | 0, _, _, _ => none
  | k + 1, x3, x33, x112000 => if x33 = true then (some false) else (oilcakeref11_Code.l1 k x3 0 x112000)
def oilcakeref11_Code.l1 : Nat → Int → Int → List ByteArray → Option (Bool)
  | 0, _, _, _ => none
  | k + 1, x3, x4, x112000 => if x4 < x3 then (if 0 ≤ x4 then (if x4 < (x112000.length : Int) then (if 0 ≤ x3 then (if x3 < (x112000.length : Int) then (if (rdOf ByteArray.empty x112000 x4).toList = (rdOf ByteArray.empty x112000 x3).toList then (some false) else (oilcakeref11_Code.l1 k x3 (wrap64 (x4 + 1)) x112000)) else (none)) else (none)) else (none)) else (none)) else (oilcakeref11_Code.l0 k (wrap64 (x3 + 1)) x112000)
end
def oilcakeref11_Code.f (k : Nat) (l0_0 : List ByteArray) : Option (Bool) := (oilcakeref11_within.f (l0_0.length : Int) 1 7).bind fun t112 => (if t112 = true then (oilcakeref11_Code.l0 k 0 l0_0) else (some false))
set_option maxHeartbeats 8000000 in
set_option maxRecDepth 100000 in
theorem oilcakeref11_Code.calls (k : Nat) (A0_0 : Option Addr) (c0_0 : Nat) (l0_0 : List ByteArray) (r : Bool) (w : World) (hr0_0 : Kd.C Kd.string w A0_0 l0_0.length l0_0) (hc0_0 : l0_0.length ≤ c0_0) (h : oilcakeref11_Code.f k l0_0 = some r) :
    Calls Tryz.prog 31 #[.agg #[.slice A0_0 l0_0.length c0_0]] w fun e w' => e = .returned (.bool r) ∧ Below w.heap.size w w' := by
  have hu24 := Tryz.underlying24
  have HR0_0 := Aside0.mk hr0_0
  have HC0_0 := Aside0.mk hc0_0
  clear hr0_0 hc0_0
  have HB := Aside0.mk (Below.refl w.heap.size w)
  have H : ((oilcakeref11_within.f (l0_0.length : Int) 1 7).bind fun t112 => (if t112 = true then (oilcakeref11_Code.l0 k 0 l0_0) else (some false))) = some r := h
  clear h
  replace H := Option.bind_eq_some_iff.mp H
  obtain ⟨t112, A20, H⟩ := H
  replace H : (if t112 = true then (oilcakeref11_Code.l0 k 0 l0_0) else (some false)) = some r := H
  have A2 := Aside0.mk A20
  clear A20
  by_cases c3 : t112 = true
  · subst c3
    have H1 : (oilcakeref11_Code.l0 k 0 l0_0) = some r := by rw [if_pos rfl] at H; exact H
    clear H
    have H := H1
    clear H1
    have H' := Aside0.mk H
    clear H
    go_enter Tryz.func31, Tryz.ntmps31
    go_wp2_with (first | ((with_reducible refine gate_dst (N := 1) rfl ?_); refine box_event ?hg (N := 1) ?hd (cs := #[.slice A0_0 l0_0.length c0_0]) (t := 24) ?hr ?_; (case hd => rfl); (case hg => rfl); (case hr => first | (go_simp; done) | (go_simp; rfl)); intro gb111 hg w4 hbox hb; have n0_ := Aside0.mk (below_step (by repeat (first | (with_reducible first | exact HB.out | apply below_alloc | apply pw_below_drewN | apply below_drew1) | exact HB.out)) hb); have n1_ := Aside0.mk (hbox); have n2_ := Aside0.mk ((by rw [hg]; exact (below_size (by repeat (first | (with_reducible first | exact HB.out | apply below_alloc | apply pw_below_drewN | apply below_drew1) | exact HB.out))) : w.heap.size ≤ gb111)); have n3_ := Aside0.mk ((by rw [hg]; exact (below_size (by repeat (first | (with_reducible first | exact HB.out | apply below_alloc | apply pw_below_drewN | apply below_drew1) | exact HB.out))) : w.heap.size ≤ gb111)); clear HB; have HB := n0_; have BK111 := n1_; have GW111 := n2_; have GE111 := n3_; clear n0_ n1_ n2_ n3_; clear hb hbox hg; have hcz5_0 : w4.cell? ⟨gb111, 0, none⟩ = some (.slice A0_0 l0_0.length c0_0) := (blk_cell BK111.out 0).trans rfl; have hfz5_0 := blk_frozen BK111.out 0) | (go_at_call 81; (with_reducible refine (oilcakeref11_within.calls (l0_0.length : Int) 1 7 true _ A2.out).mono ?_); rintro e w' ⟨rfl, ⟨nd, rfl⟩⟩; (try first | exact ⟨rfl, _, World.drewN_drewN _ _ _⟩ | exact ⟨rfl, _, Eq.trans (World.drewN_drewN _ _ _) (congrArg (World.drewN _) (Nat.add_assoc _ _ _))⟩)))
    repeat (go_quiet (first | ((with_reducible refine gate_dst (N := 1) rfl ?_); refine box_event ?hg (N := 1) ?hd (cs := #[.slice A0_0 l0_0.length c0_0]) (t := 24) ?hr ?_; (case hd => rfl); (case hg => rfl); (case hr => first | (go_simp; done) | (go_simp; rfl)); intro gb111 hg w4 hbox hb; have n0_ := Aside0.mk (below_step (by repeat (first | (with_reducible first | exact HB.out | apply below_alloc | apply pw_below_drewN | apply below_drew1) | exact HB.out)) hb); have n1_ := Aside0.mk (hbox); have n2_ := Aside0.mk ((by rw [hg]; exact (below_size (by repeat (first | (with_reducible first | exact HB.out | apply below_alloc | apply pw_below_drewN | apply below_drew1) | exact HB.out))) : w.heap.size ≤ gb111)); have n3_ := Aside0.mk ((by rw [hg]; exact (below_size (by repeat (first | (with_reducible first | exact HB.out | apply below_alloc | apply pw_below_drewN | apply below_drew1) | exact HB.out))) : w.heap.size ≤ gb111)); clear HB; have HB := n0_; have BK111 := n1_; have GW111 := n2_; have GE111 := n3_; clear n0_ n1_ n2_ n3_; clear hb hbox hg; have hcz5_0 : w4.cell? ⟨gb111, 0, none⟩ = some (.slice A0_0 l0_0.length c0_0) := (blk_cell BK111.out 0).trans rfl; have hfz5_0 := blk_frozen BK111.out 0) | (go_at_call 81; (with_reducible refine (oilcakeref11_within.calls (l0_0.length : Int) 1 7 true _ A2.out).mono ?_); rintro e w' ⟨rfl, ⟨nd, rfl⟩⟩; (try first | exact ⟨rfl, _, World.drewN_drewN _ _ _⟩ | exact ⟨rfl, _, Eq.trans (World.drewN_drewN _ _ _) (congrArg (World.drewN _) (Nat.add_assoc _ _ _))⟩))); try go_wp2_with (first | ((with_reducible refine gate_dst (N := 1) rfl ?_); refine box_event ?hg (N := 1) ?hd (cs := #[.slice A0_0 l0_0.length c0_0]) (t := 24) ?hr ?_; (case hd => rfl); (case hg => rfl); (case hr => first | (go_simp; done) | (go_simp; rfl)); intro gb111 hg w4 hbox hb; have n0_ := Aside0.mk (below_step (by repeat (first | (with_reducible first | exact HB.out | apply below_alloc | apply pw_below_drewN | apply below_drew1) | exact HB.out)) hb); have n1_ := Aside0.mk (hbox); have n2_ := Aside0.mk ((by rw [hg]; exact (below_size (by repeat (first | (with_reducible first | exact HB.out | apply below_alloc | apply pw_below_drewN | apply below_drew1) | exact HB.out))) : w.heap.size ≤ gb111)); have n3_ := Aside0.mk ((by rw [hg]; exact (below_size (by repeat (first | (with_reducible first | exact HB.out | apply below_alloc | apply pw_below_drewN | apply below_drew1) | exact HB.out))) : w.heap.size ≤ gb111)); clear HB; have HB := n0_; have BK111 := n1_; have GW111 := n2_; have GE111 := n3_; clear n0_ n1_ n2_ n3_; clear hb hbox hg; have hcz5_0 : w4.cell? ⟨gb111, 0, none⟩ = some (.slice A0_0 l0_0.length c0_0) := (blk_cell BK111.out 0).trans rfl; have hfz5_0 := blk_frozen BK111.out 0) | (go_at_call 81; (with_reducible refine (oilcakeref11_within.calls (l0_0.length : Int) 1 7 true _ A2.out).mono ?_); rintro e w' ⟨rfl, ⟨nd, rfl⟩⟩; (try first | exact ⟨rfl, _, World.drewN_drewN _ _ _⟩ | exact ⟨rfl, _, Eq.trans (World.drewN_drewN _ _ _) (congrArg (World.drewN _) (Nat.add_assoc _ _ _))⟩))))
    go_loopg [3] k (fun kq v3 w' => ∃ (x3_1 : Int), v3 = .int .i64 x3_1 ∧ Aside0 (oilcakeref11_Code.l0 kq x3_1 l0_0 = some r) ∧ Aside0 (kq ≤ k) ∧ Aside0 (w'.heap[gb111]? = some (.cells #[(.slice A0_0 l0_0.length c0_0)] 24 (0, 0))) ∧ Aside0 (Below w.heap.size w w'))
    case atStart => exact ⟨(0), (by first | rfl | (simp; done) | (simp [*]; done)), H', ⟨Nat.le_refl _⟩, ⟨by (with_reducible repeat (first | refine blk_drewN ?_ _ | refine blk_drew ?_ | refine blk_alloc ?_ _)); exact BK111.out⟩, ⟨by repeat (first | (with_reducible first | exact HB.out | apply below_alloc | apply pw_below_drewN | apply below_drew1 | refine below_set ?_ GE111.out) | exact HB.out)⟩⟩
    case round =>
      clear H'
      try clear p2
      try clear c3
      try clear hcz5_0
      try clear hfz5_0
      obtain ⟨x3_1, rfl, HA, HK1, BK111, HB⟩ := hrel
      cases gk with
      | zero => exact absurd HA.out (by simp [oilcakeref11_Code.l0])
      | succ k1 =>
        have H := HA.out
        clear HA
        simp only [oilcakeref11_Code.l0] at H
        by_cases c6 : x3_1 < (l0_0.length : Int)
        · rw [if_pos c6] at H
          have c6b0 : decide (x3_1 < (l0_0.length : Int)) = true := decide_eq_true c6
          clear c6
          have HC7 := Aside0.mk H
          clear H
          have hcz8_0 : wr.cell? ⟨gb111, 0, none⟩ = some (.slice A0_0 l0_0.length c0_0) := (blk_cell BK111.out 0).trans rfl
          have hfz8_0 := blk_frozen BK111.out 0
          go_upto_region 6 with (fail)
          repeat (go_quiet (fail); go_upto_region 6 with (fail))
          go_cut [33] (fun v33 wc => ∃ (kq : Nat) (x33_6 : Bool), v33 = .bool x33_6 ∧ Aside0 (oilcakeref11_Code.j1 kq x3_1 x33_6 l0_0 = some r) ∧ Aside0 (kq ≤ k1) ∧ Aside0 (wc.heap[gb111]? = some (.cells #[(.slice A0_0 l0_0.length c0_0)] 24 (0, 0))) ∧ Aside0 (Below w.heap.size w wc))
          case first =>
            have H := HC7.out
            clear HC7
            by_cases c9 : 0 ≤ x3_1
            · rw [if_pos c9] at H
              have c9b0 : decide (0 ≤ x3_1) = true := decide_eq_true c9
              clear c9
              (first | rw [c9b0] | (simp only [i64_w, i32_w]; rw [c9b0]) | skip)
              replace H := Option.bind_eq_some_iff.mp H
              obtain ⟨t114, A100, H⟩ := H
              replace H : (if t114 = true then ((oilcakeref11_signs.f k1 (rdOf ByteArray.empty l0_0 x3_1)).bind fun t116 => (oilcakeref11_Code.j1 k1 x3_1 (!t116) l0_0)) else (oilcakeref11_Code.j1 k1 x3_1 true l0_0)) = some r := H
              have A10 := Aside0.mk A100
              clear A100
              by_cases c11 : t114 = true
              · subst c11
                have H1 : ((oilcakeref11_signs.f k1 (rdOf ByteArray.empty l0_0 x3_1)).bind fun t116 => (oilcakeref11_Code.j1 k1 x3_1 (!t116) l0_0)) = some r := by rw [if_pos rfl] at H; exact H
                clear H
                have H := H1
                clear H1
                replace H := Option.bind_eq_some_iff.mp H
                obtain ⟨t116, A120, H⟩ := H
                replace H : (oilcakeref11_Code.j1 k1 x3_1 (!t116) l0_0) = some r := H
                have A12 := Aside0.mk A120
                clear A120
                have H' := Aside0.mk H
                clear H
                have hcz13_0 : wr.cell? ⟨gb111, 0, none⟩ = some (.slice A0_0 l0_0.length c0_0) := (blk_cell BK111.out 0).trans rfl
                have hfz13_0 := blk_frozen BK111.out 0
                have p113 : 0 ≤ (x3_1 : Int) := of_decide_eq_true (by first | (with_reducible assumption) | assumption)
                have q113 : x3_1 < (l0_0.length : Int) := of_decide_eq_true (by first | (with_reducible assumption) | assumption)
                obtain ⟨ad113, e113, hx113_0⟩ := Kd.at_string HR0_0.out x3_1 p113 q113
                cases e113
                replace hx113_0 := (HB.out.cell (World.block_lt_of_cell? w _ hx113_0)).trans hx113_0
                replace p113 := eq_true p113
                replace q113 := eq_true q113
                go_wp2_with (first | (go_at_call 81; (with_reducible refine (oilcakeref11_within.calls ((rdOf ByteArray.empty l0_0 x3_1).size : Int) 1 6 true _ A10.out).mono ?_); rintro e w' ⟨rfl, ⟨nd, rfl⟩⟩; (try first | exact ⟨rfl, _, World.drewN_drewN _ _ _⟩ | exact ⟨rfl, _, Eq.trans (World.drewN_drewN _ _ _) (congrArg (World.drewN _) (Nat.add_assoc _ _ _))⟩); have p115 : 0 ≤ (x3_1 : Int) := of_decide_eq_true (by first | (with_reducible assumption) | assumption); have q115 : x3_1 < (l0_0.length : Int) := of_decide_eq_true (by first | (with_reducible assumption) | assumption); obtain ⟨ad115, e115, hx115_0⟩ := Kd.at_string HR0_0.out x3_1 p115 q115; obtain rfl : ad113 = ad115 := (by injection e115); replace hx115_0 := (HB.out.cell (World.block_lt_of_cell? w _ hx115_0)).trans hx115_0; replace p115 := eq_true p115; replace q115 := eq_true q115) | (go_at_call 82; (with_reducible refine (oilcakeref11_signs.calls k1 (rdOf ByteArray.empty l0_0 x3_1) t116 _ A12.out).mono ?_); rintro e w' ⟨rfl, ⟨nd, rfl⟩⟩; (try first | exact ⟨rfl, _, World.drewN_drewN _ _ _⟩ | exact ⟨rfl, _, Eq.trans (World.drewN_drewN _ _ _) (congrArg (World.drewN _) (Nat.add_assoc _ _ _))⟩)))
                repeat (go_quiet (first | (go_at_call 81; (with_reducible refine (oilcakeref11_within.calls ((rdOf ByteArray.empty l0_0 x3_1).size : Int) 1 6 true _ A10.out).mono ?_); rintro e w' ⟨rfl, ⟨nd, rfl⟩⟩; (try first | exact ⟨rfl, _, World.drewN_drewN _ _ _⟩ | exact ⟨rfl, _, Eq.trans (World.drewN_drewN _ _ _) (congrArg (World.drewN _) (Nat.add_assoc _ _ _))⟩); have p115 : 0 ≤ (x3_1 : Int) := of_decide_eq_true (by first | (with_reducible assumption) | assumption); have q115 : x3_1 < (l0_0.length : Int) := of_decide_eq_true (by first | (with_reducible assumption) | assumption); obtain ⟨ad115, e115, hx115_0⟩ := Kd.at_string HR0_0.out x3_1 p115 q115; obtain rfl : ad113 = ad115 := (by injection e115); replace hx115_0 := (HB.out.cell (World.block_lt_of_cell? w _ hx115_0)).trans hx115_0; replace p115 := eq_true p115; replace q115 := eq_true q115) | (go_at_call 82; (with_reducible refine (oilcakeref11_signs.calls k1 (rdOf ByteArray.empty l0_0 x3_1) t116 _ A12.out).mono ?_); rintro e w' ⟨rfl, ⟨nd, rfl⟩⟩; (try first | exact ⟨rfl, _, World.drewN_drewN _ _ _⟩ | exact ⟨rfl, _, Eq.trans (World.drewN_drewN _ _ _) (congrArg (World.drewN _) (Nat.add_assoc _ _ _))⟩))); try go_wp2_with (first | (go_at_call 81; (with_reducible refine (oilcakeref11_within.calls ((rdOf ByteArray.empty l0_0 x3_1).size : Int) 1 6 true _ A10.out).mono ?_); rintro e w' ⟨rfl, ⟨nd, rfl⟩⟩; (try first | exact ⟨rfl, _, World.drewN_drewN _ _ _⟩ | exact ⟨rfl, _, Eq.trans (World.drewN_drewN _ _ _) (congrArg (World.drewN _) (Nat.add_assoc _ _ _))⟩); have p115 : 0 ≤ (x3_1 : Int) := of_decide_eq_true (by first | (with_reducible assumption) | assumption); have q115 : x3_1 < (l0_0.length : Int) := of_decide_eq_true (by first | (with_reducible assumption) | assumption); obtain ⟨ad115, e115, hx115_0⟩ := Kd.at_string HR0_0.out x3_1 p115 q115; obtain rfl : ad113 = ad115 := (by injection e115); replace hx115_0 := (HB.out.cell (World.block_lt_of_cell? w _ hx115_0)).trans hx115_0; replace p115 := eq_true p115; replace q115 := eq_true q115) | (go_at_call 82; (with_reducible refine (oilcakeref11_signs.calls k1 (rdOf ByteArray.empty l0_0 x3_1) t116 _ A12.out).mono ?_); rintro e w' ⟨rfl, ⟨nd, rfl⟩⟩; (try first | exact ⟨rfl, _, World.drewN_drewN _ _ _⟩ | exact ⟨rfl, _, Eq.trans (World.drewN_drewN _ _ _) (congrArg (World.drewN _) (Nat.add_assoc _ _ _))⟩))))
                go_meet
                case rel => exact ⟨_, (!t116), (by first | rfl | (simp; done) | (simp [*]; done)), H', ⟨by have := HK1.out; first | omega | exact Nat.le_refl _⟩, ⟨by (with_reducible repeat (first | refine blk_drewN ?_ _ | refine blk_drew ?_ | refine blk_alloc ?_ _)); exact BK111.out⟩, ⟨by repeat (first | (with_reducible first | exact HB.out | apply below_alloc | apply pw_below_drewN | apply below_drew1 | refine below_set ?_ GE111.out) | exact HB.out)⟩⟩
              · replace c11 := Bool.eq_false_iff.mpr c11
                subst c11
                have H1 : (oilcakeref11_Code.j1 k1 x3_1 true l0_0) = some r := by rw [if_neg (show ¬ (false = true) by decide)] at H; exact H
                clear H
                have H := H1
                clear H1
                have H' := Aside0.mk H
                clear H
                have hcz14_0 : wr.cell? ⟨gb111, 0, none⟩ = some (.slice A0_0 l0_0.length c0_0) := (blk_cell BK111.out 0).trans rfl
                have hfz14_0 := blk_frozen BK111.out 0
                have p113 : 0 ≤ (x3_1 : Int) := of_decide_eq_true (by first | (with_reducible assumption) | assumption)
                have q113 : x3_1 < (l0_0.length : Int) := of_decide_eq_true (by first | (with_reducible assumption) | assumption)
                obtain ⟨ad113, e113, hx113_0⟩ := Kd.at_string HR0_0.out x3_1 p113 q113
                cases e113
                replace hx113_0 := (HB.out.cell (World.block_lt_of_cell? w _ hx113_0)).trans hx113_0
                replace p113 := eq_true p113
                replace q113 := eq_true q113
                go_wp2_with (first | (go_at_call 81; (with_reducible refine (oilcakeref11_within.calls ((rdOf ByteArray.empty l0_0 x3_1).size : Int) 1 6 false _ A10.out).mono ?_); rintro e w' ⟨rfl, ⟨nd, rfl⟩⟩; (try first | exact ⟨rfl, _, World.drewN_drewN _ _ _⟩ | exact ⟨rfl, _, Eq.trans (World.drewN_drewN _ _ _) (congrArg (World.drewN _) (Nat.add_assoc _ _ _))⟩)))
                repeat (go_quiet (first | (go_at_call 81; (with_reducible refine (oilcakeref11_within.calls ((rdOf ByteArray.empty l0_0 x3_1).size : Int) 1 6 false _ A10.out).mono ?_); rintro e w' ⟨rfl, ⟨nd, rfl⟩⟩; (try first | exact ⟨rfl, _, World.drewN_drewN _ _ _⟩ | exact ⟨rfl, _, Eq.trans (World.drewN_drewN _ _ _) (congrArg (World.drewN _) (Nat.add_assoc _ _ _))⟩))); try go_wp2_with (first | (go_at_call 81; (with_reducible refine (oilcakeref11_within.calls ((rdOf ByteArray.empty l0_0 x3_1).size : Int) 1 6 false _ A10.out).mono ?_); rintro e w' ⟨rfl, ⟨nd, rfl⟩⟩; (try first | exact ⟨rfl, _, World.drewN_drewN _ _ _⟩ | exact ⟨rfl, _, Eq.trans (World.drewN_drewN _ _ _) (congrArg (World.drewN _) (Nat.add_assoc _ _ _))⟩))))
                go_meet
                case rel => exact ⟨_, (true), (by first | rfl | (simp; done) | (simp [*]; done)), H', ⟨by have := HK1.out; first | omega | exact Nat.le_refl _⟩, ⟨by (with_reducible repeat (first | refine blk_drewN ?_ _ | refine blk_drew ?_ | refine blk_alloc ?_ _)); exact BK111.out⟩, ⟨by repeat (first | (with_reducible first | exact HB.out | apply below_alloc | apply pw_below_drewN | apply below_drew1 | refine below_set ?_ GE111.out) | exact HB.out)⟩⟩
            · rw [if_neg c9] at H
              exact absurd H (by simp)
          case rest =>
            clear HC7
            try clear c1
            try clear p1
            try clear q1
            try clear hx1
            try clear p2
            try clear c3
            try clear c6
            try clear c6b0
            try clear c9
            try clear c9b0
            try clear c11
            try clear p11
            try clear q11
            try clear hx11
            try clear hcz13_0
            try clear hcz14_0
            try clear hcz5_0
            try clear hcz8_0
            try clear hfz13_0
            try clear hfz14_0
            try clear hfz5_0
            try clear hfz8_0
            try clear hx113_0
            try clear hx115_0
            try clear p113
            try clear p115
            try clear p2
            try clear q113
            try clear q115
            obtain ⟨kq, x33_6, rfl, HA, HJ6, BK111, HB⟩ := hcut
            cases kq with
            | zero => exact absurd HA.out (by simp [oilcakeref11_Code.j1])
            | succ kj6 =>
              have H := HA.out
              clear HA
              simp only [oilcakeref11_Code.j1] at H
              by_cases c15 : x33_6 = true
              · subst c15
                have H1 : (some false) = some r := by rw [if_pos rfl] at H; exact H
                clear H
                have H := H1
                clear H1
                obtain rfl := Option.some.inj H
                go_wp2
                repeat (go_quiet (fail); try go_wp2)
                go_ret
                exact ⟨by first | rfl | (simp [errW_none, errW_some] <;> rfl) | (simp [*, errW_none, errW_some] <;> rfl), by repeat (first | (with_reducible first | exact HB.out | apply below_alloc | apply pw_below_drewN | apply below_drew1 | refine below_set ?_ GE111.out) | exact HB.out)⟩
              · replace c15 := Bool.eq_false_iff.mpr c15
                subst c15
                have H1 : (oilcakeref11_Code.l1 kj6 x3_1 0 l0_0) = some r := by rw [if_neg (show ¬ (false = true) by decide)] at H; exact H
                clear H
                have H := H1
                clear H1
                have H' := Aside0.mk H
                clear H
                go_wp2
                repeat (go_quiet (fail); try go_wp2)
                go_loopg [4] kj6 (fun kq v4 w' => ∃ (x4_3 : Int), v4 = .int .i64 x4_3 ∧ Aside0 (oilcakeref11_Code.l1 kq x3_1 x4_3 l0_0 = some r) ∧ Aside0 (kq ≤ kj6) ∧ Aside0 (w'.heap[gb111]? = some (.cells #[(.slice A0_0 l0_0.length c0_0)] 24 (0, 0))) ∧ Aside0 (Below w.heap.size w w'))
                case atStart => exact ⟨(0), (by first | rfl | (simp; done) | (simp [*]; done)), H', ⟨Nat.le_refl _⟩, ⟨by (with_reducible repeat (first | refine blk_drewN ?_ _ | refine blk_drew ?_ | refine blk_alloc ?_ _)); exact BK111.out⟩, ⟨by repeat (first | (with_reducible first | exact HB.out | apply below_alloc | apply pw_below_drewN | apply below_drew1 | refine below_set ?_ GE111.out) | exact HB.out)⟩⟩
                case round =>
                  clear H'
                  try clear c1
                  try clear p1
                  try clear q1
                  try clear hx1
                  try clear p2
                  try clear c3
                  try clear c6
                  try clear c6b0
                  try clear c9
                  try clear c9b0
                  try clear c11
                  try clear p11
                  try clear q11
                  try clear hx11
                  try clear c15
                  try clear hcz13_0
                  try clear hcz14_0
                  try clear hcz5_0
                  try clear hcz8_0
                  try clear hfz13_0
                  try clear hfz14_0
                  try clear hfz5_0
                  try clear hfz8_0
                  try clear hx113_0
                  try clear hx115_0
                  try clear p1
                  try clear p11
                  try clear p113
                  try clear p115
                  try clear p2
                  try clear q1
                  try clear q11
                  try clear q113
                  try clear q115
                  obtain ⟨x4_3, rfl, HA, HK3, BK111, HB⟩ := hrel
                  cases gk with
                  | zero => exact absurd HA.out (by simp [oilcakeref11_Code.l1])
                  | succ k3 =>
                    have H := HA.out
                    clear HA
                    simp only [oilcakeref11_Code.l1] at H
                    by_cases c16 : x4_3 < x3_1
                    · rw [if_pos c16] at H
                      have c16b0 : decide (x4_3 < x3_1) = true := decide_eq_true c16
                      clear c16
                      by_cases c17 : 0 ≤ x4_3
                      · rw [if_pos c17] at H
                        have c17b0 : decide (0 ≤ x4_3) = true := decide_eq_true c17
                        clear c17
                        by_cases c18 : x4_3 < (l0_0.length : Int)
                        · rw [if_pos c18] at H
                          have c18b0 : decide (x4_3 < (l0_0.length : Int)) = true := decide_eq_true c18
                          clear c18
                          by_cases c19 : 0 ≤ x3_1
                          · rw [if_pos c19] at H
                            have c19b0 : decide (0 ≤ x3_1) = true := decide_eq_true c19
                            clear c19
                            by_cases c20 : x3_1 < (l0_0.length : Int)
                            · rw [if_pos c20] at H
                              have c20b0 : decide (x3_1 < (l0_0.length : Int)) = true := decide_eq_true c20
                              clear c20
                              by_cases c21 : (rdOf ByteArray.empty l0_0 x4_3).toList = (rdOf ByteArray.empty l0_0 x3_1).toList
                              · rw [if_pos c21] at H
                                have c21b0 : ((rdOf ByteArray.empty l0_0 x4_3).toList == (rdOf ByteArray.empty l0_0 x3_1).toList) = true := beq_iff_eq.mpr c21
                                have c21b1 : ((rdOf ByteArray.empty l0_0 x4_3).toList != (rdOf ByteArray.empty l0_0 x3_1).toList) = false := bne_eq_false_iff_eq.mpr c21
                                clear c21
                                obtain rfl := Option.some.inj H
                                have hcz22_0 : wr.cell? ⟨gb111, 0, none⟩ = some (.slice A0_0 l0_0.length c0_0) := (blk_cell BK111.out 0).trans rfl
                                have hfz22_0 := blk_frozen BK111.out 0
                                have p117 : 0 ≤ (x4_3 : Int) := of_decide_eq_true (by first | (with_reducible assumption) | assumption)
                                have q117 : x4_3 < (l0_0.length : Int) := of_decide_eq_true (by first | (with_reducible assumption) | assumption)
                                obtain ⟨ad117, e117, hx117_0⟩ := Kd.at_string HR0_0.out x4_3 p117 q117
                                cases e117
                                replace hx117_0 := (HB.out.cell (World.block_lt_of_cell? w _ hx117_0)).trans hx117_0
                                replace p117 := eq_true p117
                                replace q117 := eq_true q117
                                have p118 : 0 ≤ (x3_1 : Int) := of_decide_eq_true (by first | (with_reducible assumption) | assumption)
                                have q118 : x3_1 < (l0_0.length : Int) := of_decide_eq_true (by first | (with_reducible assumption) | assumption)
                                obtain ⟨ad118, e118, hx118_0⟩ := Kd.at_string HR0_0.out x3_1 p118 q118
                                obtain rfl : ad117 = ad118 := (by injection e118)
                                replace hx118_0 := (HB.out.cell (World.block_lt_of_cell? w _ hx118_0)).trans hx118_0
                                replace p118 := eq_true p118
                                replace q118 := eq_true q118
                                go_wp2
                                repeat (go_quiet (fail); try go_wp2)
                                go_ret
                                exact ⟨by first | rfl | (simp [errW_none, errW_some] <;> rfl) | (simp [*, errW_none, errW_some] <;> rfl), by repeat (first | (with_reducible first | exact HB.out | apply below_alloc | apply pw_below_drewN | apply below_drew1 | refine below_set ?_ GE111.out) | exact HB.out)⟩
                              · rw [if_neg c21] at H
                                have c21b0 : ((rdOf ByteArray.empty l0_0 x4_3).toList == (rdOf ByteArray.empty l0_0 x3_1).toList) = false := beq_eq_false_iff_ne.mpr c21
                                have c21b1 : ((rdOf ByteArray.empty l0_0 x4_3).toList != (rdOf ByteArray.empty l0_0 x3_1).toList) = true := bne_iff_ne.mpr c21
                                have H' := Aside0.mk H
                                clear H
                                have hcz23_0 : wr.cell? ⟨gb111, 0, none⟩ = some (.slice A0_0 l0_0.length c0_0) := (blk_cell BK111.out 0).trans rfl
                                have hfz23_0 := blk_frozen BK111.out 0
                                have p117 : 0 ≤ (x4_3 : Int) := of_decide_eq_true (by first | (with_reducible assumption) | assumption)
                                have q117 : x4_3 < (l0_0.length : Int) := of_decide_eq_true (by first | (with_reducible assumption) | assumption)
                                obtain ⟨ad117, e117, hx117_0⟩ := Kd.at_string HR0_0.out x4_3 p117 q117
                                cases e117
                                replace hx117_0 := (HB.out.cell (World.block_lt_of_cell? w _ hx117_0)).trans hx117_0
                                replace p117 := eq_true p117
                                replace q117 := eq_true q117
                                have p118 : 0 ≤ (x3_1 : Int) := of_decide_eq_true (by first | (with_reducible assumption) | assumption)
                                have q118 : x3_1 < (l0_0.length : Int) := of_decide_eq_true (by first | (with_reducible assumption) | assumption)
                                obtain ⟨ad118, e118, hx118_0⟩ := Kd.at_string HR0_0.out x3_1 p118 q118
                                obtain rfl : ad117 = ad118 := (by injection e118)
                                replace hx118_0 := (HB.out.cell (World.block_lt_of_cell? w _ hx118_0)).trans hx118_0
                                replace p118 := eq_true p118
                                replace q118 := eq_true q118
                                go_wp2
                                repeat (go_quiet (fail); try go_wp2)
                                go_roundg k3
                                case measure => have := HK1.out; have := HJ6.out; have := HK3.out; omega
                                case rel => exact ⟨(wrap64 (x4_3 + 1)), (by first | rfl | (simp; done) | (simp [*]; done)), H', ⟨by have := HK1.out; have := HJ6.out; have := HK3.out; omega⟩, ⟨by (with_reducible repeat (first | refine blk_drewN ?_ _ | refine blk_drew ?_ | refine blk_alloc ?_ _)); exact BK111.out⟩, ⟨by repeat (first | (with_reducible first | exact HB.out | apply below_alloc | apply pw_below_drewN | apply below_drew1 | refine below_set ?_ GE111.out) | exact HB.out)⟩⟩
                            · rw [if_neg c20] at H
                              exact absurd H (by simp)
                          · rw [if_neg c19] at H
                            exact absurd H (by simp)
                        · rw [if_neg c18] at H
                          exact absurd H (by simp)
                      · rw [if_neg c17] at H
                        exact absurd H (by simp)
                    · rw [if_neg c16] at H
                      have c16b0 : decide (x4_3 < x3_1) = false := decide_eq_false c16
                      clear c16
                      have H' := Aside0.mk H
                      clear H
                      go_wp2
                      repeat (go_quiet (fail); try go_wp2)
                      go_roundg k3
                      case measure => have := HK1.out; have := HJ6.out; have := HK3.out; omega
                      case rel => exact ⟨(wrap64 (x3_1 + 1)), (by first | rfl | (simp; done) | (simp [*]; done)), H', ⟨by have := HK1.out; have := HJ6.out; have := HK3.out; omega⟩, ⟨by (with_reducible repeat (first | refine blk_drewN ?_ _ | refine blk_drew ?_ | refine blk_alloc ?_ _)); exact BK111.out⟩, ⟨by repeat (first | (with_reducible first | exact HB.out | apply below_alloc | apply pw_below_drewN | apply below_drew1 | refine below_set ?_ GE111.out) | exact HB.out)⟩⟩
        · rw [if_neg c6] at H
          have c6b0 : decide (x3_1 < (l0_0.length : Int)) = false := decide_eq_false c6
          clear c6
          obtain rfl := Option.some.inj H
          have hcz24_0 : wr.cell? ⟨gb111, 0, none⟩ = some (.slice A0_0 l0_0.length c0_0) := (blk_cell BK111.out 0).trans rfl
          have hfz24_0 := blk_frozen BK111.out 0
          go_wp2
          repeat (go_quiet (fail); try go_wp2)
          go_ret
          exact ⟨by first | rfl | (simp [errW_none, errW_some] <;> rfl) | (simp [*, errW_none, errW_some] <;> rfl), by repeat (first | (with_reducible first | exact HB.out | apply below_alloc | apply pw_below_drewN | apply below_drew1 | refine below_set ?_ GE111.out) | exact HB.out)⟩
  · replace c3 := Bool.eq_false_iff.mpr c3
    subst c3
    have H1 : (some false) = some r := by rw [if_neg (show ¬ (false = true) by decide)] at H; exact H
    clear H
    have H := H1
    clear H1
    obtain rfl := Option.some.inj H
    go_enter Tryz.func31, Tryz.ntmps31
    go_wp2_with (first | ((with_reducible refine gate_dst (N := 1) rfl ?_); refine box_event ?hg (N := 1) ?hd (cs := #[.slice A0_0 l0_0.length c0_0]) (t := 24) ?hr ?_; (case hd => rfl); (case hg => rfl); (case hr => first | (go_simp; done) | (go_simp; rfl)); intro gb111 hg w25 hbox hb; have n0_ := Aside0.mk (below_step (by repeat (first | (with_reducible first | exact HB.out | apply below_alloc | apply pw_below_drewN | apply below_drew1) | exact HB.out)) hb); have n1_ := Aside0.mk (hbox); have n2_ := Aside0.mk ((by rw [hg]; exact (below_size (by repeat (first | (with_reducible first | exact HB.out | apply below_alloc | apply pw_below_drewN | apply below_drew1) | exact HB.out))) : w.heap.size ≤ gb111)); have n3_ := Aside0.mk ((by rw [hg]; exact (below_size (by repeat (first | (with_reducible first | exact HB.out | apply below_alloc | apply pw_below_drewN | apply below_drew1) | exact HB.out))) : w.heap.size ≤ gb111)); clear HB; have HB := n0_; have BK111 := n1_; have GW111 := n2_; have GE111 := n3_; clear n0_ n1_ n2_ n3_; clear hb hbox hg; have hcz26_0 : w25.cell? ⟨gb111, 0, none⟩ = some (.slice A0_0 l0_0.length c0_0) := (blk_cell BK111.out 0).trans rfl; have hfz26_0 := blk_frozen BK111.out 0) | (go_at_call 81; (with_reducible refine (oilcakeref11_within.calls (l0_0.length : Int) 1 7 false _ A2.out).mono ?_); rintro e w' ⟨rfl, ⟨nd, rfl⟩⟩; (try first | exact ⟨rfl, _, World.drewN_drewN _ _ _⟩ | exact ⟨rfl, _, Eq.trans (World.drewN_drewN _ _ _) (congrArg (World.drewN _) (Nat.add_assoc _ _ _))⟩)))
    repeat (go_quiet (first | ((with_reducible refine gate_dst (N := 1) rfl ?_); refine box_event ?hg (N := 1) ?hd (cs := #[.slice A0_0 l0_0.length c0_0]) (t := 24) ?hr ?_; (case hd => rfl); (case hg => rfl); (case hr => first | (go_simp; done) | (go_simp; rfl)); intro gb111 hg w25 hbox hb; have n0_ := Aside0.mk (below_step (by repeat (first | (with_reducible first | exact HB.out | apply below_alloc | apply pw_below_drewN | apply below_drew1) | exact HB.out)) hb); have n1_ := Aside0.mk (hbox); have n2_ := Aside0.mk ((by rw [hg]; exact (below_size (by repeat (first | (with_reducible first | exact HB.out | apply below_alloc | apply pw_below_drewN | apply below_drew1) | exact HB.out))) : w.heap.size ≤ gb111)); have n3_ := Aside0.mk ((by rw [hg]; exact (below_size (by repeat (first | (with_reducible first | exact HB.out | apply below_alloc | apply pw_below_drewN | apply below_drew1) | exact HB.out))) : w.heap.size ≤ gb111)); clear HB; have HB := n0_; have BK111 := n1_; have GW111 := n2_; have GE111 := n3_; clear n0_ n1_ n2_ n3_; clear hb hbox hg; have hcz26_0 : w25.cell? ⟨gb111, 0, none⟩ = some (.slice A0_0 l0_0.length c0_0) := (blk_cell BK111.out 0).trans rfl; have hfz26_0 := blk_frozen BK111.out 0) | (go_at_call 81; (with_reducible refine (oilcakeref11_within.calls (l0_0.length : Int) 1 7 false _ A2.out).mono ?_); rintro e w' ⟨rfl, ⟨nd, rfl⟩⟩; (try first | exact ⟨rfl, _, World.drewN_drewN _ _ _⟩ | exact ⟨rfl, _, Eq.trans (World.drewN_drewN _ _ _) (congrArg (World.drewN _) (Nat.add_assoc _ _ _))⟩))); try go_wp2_with (first | ((with_reducible refine gate_dst (N := 1) rfl ?_); refine box_event ?hg (N := 1) ?hd (cs := #[.slice A0_0 l0_0.length c0_0]) (t := 24) ?hr ?_; (case hd => rfl); (case hg => rfl); (case hr => first | (go_simp; done) | (go_simp; rfl)); intro gb111 hg w25 hbox hb; have n0_ := Aside0.mk (below_step (by repeat (first | (with_reducible first | exact HB.out | apply below_alloc | apply pw_below_drewN | apply below_drew1) | exact HB.out)) hb); have n1_ := Aside0.mk (hbox); have n2_ := Aside0.mk ((by rw [hg]; exact (below_size (by repeat (first | (with_reducible first | exact HB.out | apply below_alloc | apply pw_below_drewN | apply below_drew1) | exact HB.out))) : w.heap.size ≤ gb111)); have n3_ := Aside0.mk ((by rw [hg]; exact (below_size (by repeat (first | (with_reducible first | exact HB.out | apply below_alloc | apply pw_below_drewN | apply below_drew1) | exact HB.out))) : w.heap.size ≤ gb111)); clear HB; have HB := n0_; have BK111 := n1_; have GW111 := n2_; have GE111 := n3_; clear n0_ n1_ n2_ n3_; clear hb hbox hg; have hcz26_0 : w25.cell? ⟨gb111, 0, none⟩ = some (.slice A0_0 l0_0.length c0_0) := (blk_cell BK111.out 0).trans rfl; have hfz26_0 := blk_frozen BK111.out 0) | (go_at_call 81; (with_reducible refine (oilcakeref11_within.calls (l0_0.length : Int) 1 7 false _ A2.out).mono ?_); rintro e w' ⟨rfl, ⟨nd, rfl⟩⟩; (try first | exact ⟨rfl, _, World.drewN_drewN _ _ _⟩ | exact ⟨rfl, _, Eq.trans (World.drewN_drewN _ _ _) (congrArg (World.drewN _) (Nat.add_assoc _ _ _))⟩))))
    go_ret
    exact ⟨by first | rfl | (simp [errW_none, errW_some] <;> rfl) | (simp [*, errW_none, errW_some] <;> rfl), by repeat (first | (with_reducible first | exact HB.out | apply below_alloc | apply pw_below_drewN | apply below_drew1 | refine below_set ?_ GE111.out) | exact HB.out)⟩
end Go.Proofs.YtfnibmcenjiodaaGreatDoor.R
