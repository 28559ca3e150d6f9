/- Walk of wire.Read. No statement of the seat is proved here. -/
import Derived.Test.YtfnibmcenjiodaaGreatDoorM9
import Derived.Sort.LoopGhostIn
namespace Go.Proofs.YtfnibmcenjiodaaGreatDoor.M
open Go.Sort Go.Shelf Go.RowKit Go.Proofs.YtfnibmcenjiodaaGreatDoorW.PrintWords Go.Proofs.YtfnibmcenjiodaaGreatDoorW.PrintLast Go.Proofs.YtfnibmcenjiodaaGreatDoorW.PrintMore
attribute [local go_sem] Oper.semAt_some

/-! ### Marks: the blocks for the rounds' deferred calls -/
def marks (Ds : List Nat) : List Deferred := Ds.map fun D => { target := .collected D, args := #[] }
def shut (W : World) (Ds : List Nat) : World := Ds.foldl (fun W D => W.putObj D (.deferred none)) W
theorem leaves_marks {F : Fence} {n : Nat} {P : Program} {fn : Func} {tmps : Array Value} {R : Ending → World → Prop} {v : Value} (hres : ∀ W, (results fn tmps).run P W = .ok v W) :
    ∀ (Ds : List Nat) (W : World), (∀ D ∈ Ds, W.heap[D]? = some (.deferred (some []))) → Ds.Nodup → R (.returned v) (shut W Ds) → LeavesInM F n P fn tmps R (marks Ds) .returning W
  | [], W, _, _, h => ⟨v, hres W, h⟩
  | D :: Ds, W, hD, hn, h => by
    refine ⟨by simp, .inl ⟨D, W.putObj D (.deferred none), rfl, run_takeDeferred (hD D (by simp)), ?_⟩⟩
    have hn' := List.nodup_cons.1 hn
    exact leaves_marks hres Ds _ (fun E hE => by rw [World.putObj_heap_other (by rintro rfl; exact hn'.1 hE)]; exact hD E (by simp [hE])) hn'.2 h
theorem shut_below {B : Nat} {w : World} : ∀ (Ds : List Nat) (W : World), Below B w W → (∀ D ∈ Ds, B ≤ D) → Below B w (shut W Ds)
  | [], _, h, _ => h
  | D :: Ds, W, h, hD => shut_below Ds _ (h.trans ⟨rfl, rfl, rfl, by simp [World.putObj], fun k hk => World.putObj_heap_other (by have := hD D (by simp); omega)⟩) (fun E hE => hD E (by simp [hE]))
theorem shut_own {base : Nat} {e : TypeId} {size k : Nat} {v : Value} {xs : List Value} : ∀ (Ds : List Nat) (W : World), W.ownsRow base e size v k xs → (∀ D ∈ Ds, W.heap[D]? = some (.deferred (some []))) → Ds.Nodup → (shut W Ds).ownsRow base e size v k xs
  | [], _, h, _, _ => h
  | D :: Ds, W, h, hD, hn => by
    have hn' := List.nodup_cons.1 hn
    exact shut_own Ds _ (ownsRow_putObj h _ (hD D (by simp)) rfl) (fun E hE => by rw [World.putObj_heap_other (by rintro rfl; exact hn'.1 hE)]; exact hD E (by simp [hE])) hn'.2

/-! ### The first reading -/
def readF (ws : List ByteArray) : Nat → ByteArray → List Int
  | 0, _ => []
  | f + 1, s => if s.size = 0 then [] else match (headsL ws s).find? (fun x => decide (0 < waysV ws x.2)) with | some x => x.1 :: readF ws f x.2 | none => []
def readR (l : List ByteArray) (s : ByteArray) : List Int × Int :=
  if givenE l s = 0 then (if waysV l s = 0 then ([], 6) else (readF l (s.size + 1) s, 0)) else ([], givenE l s)
theorem readF_eq (ws : List ByteArray) (hw : ∀ x ∈ ws, 1 ≤ x.size) : ∀ f g s, s.size < f → s.size < g → readF ws f s = readF ws g s
  | 0, _, _, h, _ => by omega
  | _, 0, _, _, h => by omega
  | f + 1, g + 1, s, hf, hg => by
    unfold readF
    split
    · rfl
    · cases h : (headsL ws s).find? (fun x => decide (0 < waysV ws x.2)) with
      | none => rfl
      | some x =>
        obtain ⟨w, hmem, hs, he⟩ := headsL_mem (List.mem_of_find?_eq_some h)
        have := restOf_size s w hs
        have := hw w hmem
        rw [← he] at *
        simp only
        rw [readF_eq ws hw f g x.2 (by omega) (by omega)]
theorem fold_zero (f : Int × ByteArray → Int) (hf : ∀ x, 0 ≤ f x) : ∀ (l : List (Int × ByteArray)), (∀ x ∈ l, f x = 0) → l.foldl (fun n x => min 1000001 (n + f x)) 0 = 0
  | [], _ => rfl
  | x :: l, h => by
    rw [List.foldl_cons, h x (by simp)]
    exact fold_zero f hf l (fun y hy => h y (by simp [hy]))

/-- What the loop of Read stands on, at the signs s that are left, behind the orders acc. -/
structure RdSt (l : List ByteArray) (A : Option Addr) (c b3 b6 b8 b9 bm bk bf m : Nat) (w : World) (s : ByteArray) (acc : List Int) (Ds : List Nat) (W : World) : Prop where
  h3 : W.heap[b3]? = some (.cells #[.string s] 9 (0, 0))
  h6 : W.heap[b6]? = some (.cells #[.slice A l.length c] 126 (0, 0))
  h8 : W.heap[b8]? = some (.cells #[.func (.func 116) #[] #[.pointer (some ⟨bm, 0, none⟩), .pointer (some ⟨bk, 0, none⟩), .pointer (some ⟨bf, 0, none⟩)]] 129 (0, 0))
  h9 : ∃ v, W.heap[b9]? = some (.cells #[v] 25 (0, 0)) ∧ W.ownsRow b9 3 1 v acc.length (acc.map (Value.int .i64))
  hbm : W.heap[bm]? = some (.cells #[.map (some m)] 205 (0, 0))
  hbk : W.heap[bk]? = some (.cells #[.slice A l.length c] 126 (0, 0))
  hbf : W.heap[bf]? = some (.cells #[.func (.func 116) #[] #[.pointer (some ⟨bm, 0, none⟩), .pointer (some ⟨bk, 0, none⟩), .pointer (some ⟨bf, 0, none⟩)]] 129 (0, 0))
  map : MapOk l m W
  below : Below w.heap.size w W
  ds : ∀ D ∈ Ds, W.heap[D]? = some (.deferred (some [])) ∧ w.heap.size ≤ D
  nodup : Ds.Nodup
section
variable {l : List ByteArray} {A : Option Addr} {c b3 b6 b8 b9 bm bk bf m : Nat} {w : World} {s : ByteArray} {acc : List Int} {Ds : List Nat} {W W' : World}
theorem RdSt.made (h : RdSt l A c b3 b6 b8 b9 bm bk bf m w s acc Ds W) (hw : ∀ x ∈ l, 1 ≤ x.size) (hC : Kd.C Kd.string w A l.length l) : Made l A c bm bk bf m W :=
  ⟨hw, h.hbm, h.hbk, h.hbf, Kd.C_below hC h.below, by obtain ⟨es, ck, hm, _⟩ := h.map; exact ⟨es, ck, hm⟩⟩
theorem RdSt.move (h : RdSt l A c b3 b6 b8 b9 bm bk bf m w s acc Ds W) {s' : ByteArray} {acc' : List Int}
    (hk : ∀ k o, W.heap[k]? = some o → (∀ cs t fz, o = .cells cs t fz → t ≠ 3 ∧ t ≠ 9 ∧ t ≠ 25) → k ≠ m → W'.heap[k]? = some o) (hb : Below w.heap.size W W')
    (h3 : W'.heap[b3]? = some (.cells #[.string s'] 9 (0, 0))) (h9 : ∃ v, W'.heap[b9]? = some (.cells #[v] 25 (0, 0)) ∧ W'.ownsRow b9 3 1 v acc'.length (acc'.map (Value.int .i64))) (hm : MapOk l m W') :
    RdSt l A c b3 b6 b8 b9 bm bk bf m w s' acc' Ds W' := by
  obtain ⟨es, ck, hmm, _⟩ := h.map
  have ne : ∀ {k : Nat} {cs : Array Value} {t : TypeId} {fz : Nat × Nat}, W.heap[k]? = some (.cells cs t fz) → k ≠ m := by rintro k cs t fz e rfl; rw [hmm] at e; cases e
  refine ⟨h3, hk _ _ h.h6 ?_ (ne h.h6), hk _ _ h.h8 ?_ (ne h.h8), h9, hk _ _ h.hbm ?_ (ne h.hbm), hk _ _ h.hbk ?_ (ne h.hbk), hk _ _ h.hbf ?_ (ne h.hbf), hm, h.below.trans hb, fun D hD => ⟨hk _ _ (h.ds D hD).1 ?_ ?_, (h.ds D hD).2⟩, h.nodup⟩
  · intro cs t fz e; cases e; decide
  · intro cs t fz e; cases e; decide
  · intro cs t fz e; cases e; decide
  · intro cs t fz e; cases e; decide
  · intro cs t fz e; cases e; decide
  · intro cs t fz e; cases e
  · rintro rfl; have := (h.ds _ hD).1; rw [hmm] at this; cases this
theorem own_kept_obj {w W' : World} {row : Option Nat} {base n : Nat} {e : TypeId} {size : Nat} {v : Value} {xs : List Value} (h : w.ownsRow base e size v n xs) (hg : w.grownBy W' row) (hr : ∀ r, row = some r → ∃ o : Obj, w.heap[r]? = some o ∧ o.isCells = false) : W'.ownsRow base e size v n xs := by
  refine h.kept hg ?_
  rcases h.2 with ⟨rfl, _⟩ | ⟨g, cap, cur, rfl, _, hgb, _⟩
  · exact .inl rfl
  · refine .inr fun e' => ?_
    obtain ⟨o, ho, hc⟩ := hr g (by simpa [Value.ownBlock] using e'.symm)
    rw [hgb] at ho; cases ho; cases hc
theorem RdSt.grown {row : Option Nat} (h : RdSt l A c b3 b6 b8 b9 bm bk bf m w s acc Ds W) (hg : W.grownBy W' row)
    (hr : ∀ r, row = some r → w.heap.size ≤ r ∧ (∃ o : Obj, W.heap[r]? = some o ∧ o.isCells = false) ∧ r ∉ Ds) (hm : MapOk l m W') : RdSt l A c b3 b6 b8 b9 bm bk bf m w s acc Ds W' := by
  have cells : ∀ {b : Nat} {cs : Array Value} {t : TypeId}, W.heap[b]? = some (.cells cs t (0, 0)) → W'.heap[b]? = some (.cells cs t (0, 0)) := fun hb =>
    (hg.block _ (blk_lt hb) (fun e => by obtain ⟨_, ⟨o, ho, hc⟩, _⟩ := hr _ e.symm; rw [hb] at ho; cases ho; cases hc)).trans hb
  obtain ⟨v, hv1, hv2⟩ := h.h9
  exact ⟨cells h.h3, cells h.h6, cells h.h8, ⟨v, cells hv1, own_kept_obj hv2 hg (fun r e => (hr r e).2.1)⟩, cells h.hbm, cells h.hbk, cells h.hbf, hm,
    h.below.trans ⟨hg.os, hg.tape, hg.output, hg.size, fun k hk => hg.block k (Nat.lt_of_lt_of_le hk h.below.size) (fun e => by have := (hr _ e.symm).1; omega)⟩,
    fun D hD => ⟨(hg.block D (blk_lt (h.ds D hD).1) (fun e => (hr _ e.symm).2.2 hD)).trans (h.ds D hD).1, (h.ds D hD).2⟩, h.nodup⟩
/-- Nothing has turned but the counter's map. -/
theorem RdSt.kept (h : RdSt l A c b3 b6 b8 b9 bm bk bf m w s acc Ds W) (hk : Keep W.heap.size (some m) W W') (hmw : w.heap.size ≤ m) (hm : MapOk l m W') : RdSt l A c b3 b6 b8 b9 bm bk bf m w s acc Ds W' := by
  obtain ⟨es, ck, hmm, _⟩ := h.map
  refine h.grown ⟨hk.os, hk.tape, hk.output, hk.size, hk.block⟩ ?_ hm
  rintro r e
  cases e
  refine ⟨hmw, ⟨_, hmm, rfl⟩, fun hD => ?_⟩
  have := (h.ds _ hD).1
  rw [hmm] at this; cases this
/-- One order more, and the signs behind it. -/
theorem RdSt.appended (h : RdSt l A c b3 b6 b8 b9 bm bk bf m w s acc Ds W) (hb3 : w.heap.size ≤ b3) (hb9 : w.heap.size ≤ b9) {v v' : Value} {w1 : World} {tmp : Obj} {r : ByteArray} {i : Int} (hv : W.heap[b9]? = some (.cells #[v] 25 (0, 0))) (hrow : W.ownsRow b9 3 1 v acc.length (acc.map (Value.int .i64)))
    (hown' : w1.ownsRow b9 3 1 v' (acc.length + 1) (acc.map (Value.int .i64) ++ [.int .i64 i])) (hgrow : (W.alloc tmp).grownBy w1 v.ownBlock) :
    w1.heap[b9]? = some (.cells #[v] 25 (0, 0)) ∧ w1.heap[b3]? = some (.cells #[.string s] 9 (0, 0)) ∧ (w1.setCell ⟨b9, 0, none⟩ v').heap[b3]? = some (.cells #[.string s] 9 (0, 0)) ∧
    RdSt l A c b3 b6 b8 b9 bm bk bf m w r (acc ++ [i]) Ds ((w1.setCell ⟨b9, 0, none⟩ v').setCell ⟨b3, 0, none⟩ (.string r)) := by
  have hblk : ∀ g, v.ownBlock = some g → ∃ cur, W.heap[g]? = some (.cells cur 3 (0, 0)) ∧ b9 ≤ g := by
    intro g hg
    rcases hrow.2 with ⟨rfl, _⟩ | ⟨g', cap, cur, rfl, hb, hgb, _⟩
    · cases hg
    · cases hg; exact ⟨_, hgb, hb⟩
  have keepO : ∀ (k : Nat) (o : Obj), W.heap[k]? = some o → (∀ cs fz, o ≠ Obj.cells cs 3 fz) → w1.heap[k]? = some o := by
    intro k o ho hne
    refine (hgrow.block k (by have := blk_lt ho; simp only [World.size_alloc]; omega) (fun e => ?_)).trans ((Below.heap_alloc _ _ _ (blk_lt ho)).trans ho)
    obtain ⟨cur, hc, _⟩ := hblk k e.symm
    rw [ho] at hc; cases hc; exact hne _ _ rfl
  have n3 : ∀ {cs : Array Value} {t : TypeId}, t ≠ 3 → ∀ cs' fz, Obj.cells cs t (0, 0) ≠ .cells cs' 3 fz := by rintro cs t ht cs' fz e; cases e; exact ht rfl
  have h9 := keepO _ _ hv (n3 (by decide))
  have h3 := keepO _ _ h.h3 (n3 (by decide))
  have hne : b3 ≠ b9 := by rintro rfl; rw [h.h3] at hv; cases hv
  have h3' : (w1.setCell ⟨b9, 0, none⟩ v').heap[b3]? = some (.cells #[.string s] 9 (0, 0)) := by rw [Below.heap_setCell _ _ _ _ (by exact hne)]; exact h3
  refine ⟨h9, h3, h3', h.move ?_ ?_ (box_put h3' _) ⟨v', ?_, ?_⟩ ?_⟩
  · intro k o ho ht hkm
    have hk1 := keepO k o ho (by rintro cs fz rfl; exact (ht _ _ _ rfl).1 rfl)
    rw [Below.heap_setCell _ _ _ _ (by rintro rfl; have := h.h3; rw [ho] at this; cases this; exact (ht _ _ _ rfl).2.1 rfl), Below.heap_setCell _ _ _ _ (by rintro rfl; rw [ho] at hv; cases hv; exact (ht _ _ _ rfl).2.2 rfl)]
    exact hk1
  · refine Below.setCell (Below.setCell ?_ (by exact hb9) _) (by exact hb3) _
    have hW := h.below.size
    refine (((Below.refl _ W).alloc (Nat.le_refl _) tmp).mono hW).trans ⟨hgrow.os, hgrow.tape, hgrow.output, hgrow.size, fun k hk => hgrow.block k (by simp only [World.size_alloc]; omega) (fun e => ?_)⟩
    obtain ⟨_, _, hb⟩ := hblk k e.symm; omega
  · rw [Below.heap_setCell _ _ _ _ (by exact fun e => hne e.symm)]; exact box_put h9 _
  · have e1 : (w1.setCell ⟨b9, 0, none⟩ v').ownsRow b9 3 1 v' (acc.length + 1) (acc.map (Value.int .i64) ++ [.int .i64 i]) := by
      refine hown'.kept (grownBy_setCell' w1 b9 v') (.inr ?_)
      rcases hown'.2 with ⟨rfl, h0⟩ | ⟨g', cap, cur, rfl, hb, hgb, _⟩
      · omega
      · intro e; cases e; rw [h9] at hgb; cases hgb
    have e2 := e1.kept (grownBy_setCell' (w1.setCell ⟨b9, 0, none⟩ v') b3 (.string r)) (.inr (by
      rcases e1.2 with ⟨rfl, h0⟩ | ⟨g', cap, cur, rfl, hb, hgb, _⟩
      · omega
      · intro e; cases e; rw [h3'] at hgb; cases hgb))
    simpa using e2
  · obtain ⟨es, ck, hmm, hrest⟩ := h.map
    refine ⟨es, ck, ?_, hrest⟩
    have := keepO _ _ hmm (by simp)
    rw [Below.heap_setCell _ _ _ _ (by rintro rfl; have := h.h3; rw [hmm] at this; cases this), Below.heap_setCell _ _ _ _ (by rintro rfl; rw [hmm] at hv; cases hv)]
    exact this
end

theorem RdSt.cons {l : List ByteArray} {A : Option Addr} {c b3 b6 b8 b9 bm bk bf m : Nat} {w : World} {s : ByteArray} {acc : List Int} {Ds : List Nat} {W : World} (h : RdSt l A c b3 b6 b8 b9 bm bk bf m w s acc Ds W) {D : Nat} (hD : W.heap[D]? = some (.deferred (some []))) (hw : w.heap.size ≤ D) (hn : ∀ E ∈ Ds, E < D) :
    RdSt l A c b3 b6 b8 b9 bm bk bf m w s acc (D :: Ds) W :=
  ⟨h.h3, h.h6, h.h8, h.h9, h.hbm, h.hbk, h.hbf, h.map, h.below, fun E hE => by rcases List.mem_cons.1 hE with rfl | hE; exact ⟨hD, hw⟩; exact h.ds E hE, List.nodup_cons.2 ⟨fun hd => by have := hn D hd; omega, h.nodup⟩⟩
theorem find_prefix {α : Type} (p : α → Bool) {pre : List α} {x : α} {l : List α} (h : pre ++ [x] <+: l) (h0 : ∀ y ∈ pre, p y = false) (hx : p x = true) : l.find? p = some x := by
  obtain ⟨t, rfl⟩ := h
  rw [List.append_assoc, List.find?_append, List.find?_eq_none.2 (fun y hy => by simp [h0 y hy])]
  simp [hx]
theorem own_lower {w : World} {base base' n : Nat} {e : TypeId} {size : Nat} {v : Value} {xs : List Value} (h : w.ownsRow base e size v n xs) (hb : base' ≤ base) : w.ownsRow base' e size v n xs := by
  refine ⟨h.1, ?_⟩
  rcases h.2 with h | ⟨g, cap, cur, rfl, h1, h2⟩
  · exact .inl h
  · exact .inr ⟨g, cap, cur, rfl, Nat.le_trans hb h1, h2⟩
theorem givenE_size {l : List ByteArray} {s : ByteArray} (h : givenE l s = 0) : s.size ≤ 250 := by
  unfold givenE at h
  split at h
  · split at h
    · simp at h
    · rename_i hg; simpa using hg
  · simp at h
theorem str_nonempty {s : ByteArray} (h : s.size ≠ 0) : s.toList ≠ [] := by
  intro e
  rw [Lib.toList_data] at e
  have := congrArg List.length e
  rw [data_length] at this
  exact h this

set_option maxRecDepth 100000 in
set_option maxHeartbeats 8000000 in
theorem wire_Read (A : Option Addr) (c : Nat) (l : List ByteArray) (s : ByteArray) (w : World) (hr : Kd.C Kd.string w A l.length l) (hsz : ∀ x ∈ l, x.size ≤ 9223372036854775807) (hs : s.size ≤ 9223372036854775807) :
    Calls Tryz.prog 20 #[.agg #[.slice A l.length c], .string s] w fun e w' => ∃ v, e = .returned (.tuple #[v, .int .i64 (readR l s).2]) ∧ w'.ownsRow w.heap.size 3 1 v (readR l s).1.length ((readR l s).1.map (Value.int .i64)) ∧ Below w.heap.size w w' := by
  refine (callsIn_wide (n := 12)).1 ?_
  refine callsIn_of_wp_marks Tryz.func20 rfl trivial ?_ rfl
  simp only [Tryz.ntmps20, List.size_toArray, List.length_cons, List.length_nil, Nat.reduceAdd, Nat.reduceSub, Array.replicate_succ, Array.replicate_zero, List.push_toArray, List.append_toArray, List.nil_append, List.cons_append]
  gi_wp2_with fail
  refine ⟨trivial, ?_⟩
  refine (callsIn_wide.2 (given_calls A c l s _ (Kd.C_alloc (Kd.C_alloc hr _) _) hsz hs)).mono ?_
  rintro e w1 ⟨v, rfl, hv, ⟨A', n', c', rfl⟩, hb⟩
  have HB := Lib.hid (below_step (below2 w _ _) hb)
  have hbs := blk_below (blk_new1 w _ _) hb
  clear hb
  have HR := Lib.hid (Kd.C_below hr HB.out)
  have Hr := Lib.hid hr
  clear hr
  obtain ⟨g, hg⟩ : ∃ g, g = givenE l s := ⟨_, rfl⟩
  rw [← hg] at hv ⊢
  have HV := Lib.hid hv
  have HG := Lib.hid hg
  clear hv hg
  rcases (show g = 0 ∨ g = 110 ∨ g = 112 by rw [HG.out]; exact givenE_cases l s) with rfl | rfl | rfl
  rotate_left
  · gi_wp2
    have hR : readR l s = ([], 110) := by unfold readR; rw [← HG.out]; rfl
    rw [hR]
    exact ⟨_, results_tmp2 rfl _ _ _, _, rfl, World.ownsRow_nil _ _ _ _, below_alloc HB.out _⟩
  · gi_wp2
    have hR : readR l s = ([], 112) := by unfold readR; rw [← HG.out]; rfl
    rw [hR]
    exact ⟨_, results_tmp2 rfl _ _ _, _, rfl, World.ownsRow_nil _ _ _ _, below_alloc HB.out _⟩
  have hv' := HV.out rfl
  simp only [Value.slice.injEq] at hv'
  obtain ⟨h1, h2, h3⟩ := hv'
  subst A' n' c'
  have hw := Lib.hid (fun x hx => (codeOk_words (givenE_ok HG.out.symm) x hx).1)
  have hlt3 := blk_lt hbs
  clear HV
  gi_wp2_with fail
  refine ⟨trivial, ?_⟩
  refine (callsIn_wide.2 (counter_calls A c l _ (Kd.C_alloc HR.out _) hw.out)).mono ?_
  rintro e w2 ⟨rfl, hM, hMap, hb2⟩
  have hb6 := blk_below (blk_new w1 (.cells #[.slice A l.length c] 126)) hb2
  have hbs2 := blk_below (blk_alloc hbs _) hb2
  have HB2 := Lib.hid (below_step (below_alloc HB.out _) hb2)
  have hlt6 := blk_lt hb6
  have hltM := hb2.size
  clear hb2
  simp only [World.size_alloc] at hM hMap hltM ⊢
  have HM := Lib.hid hM
  have HMap := Lib.hid hMap
  clear hM hMap
  have hcs := box_cell hbs2
  have hlt3' := blk_lt hbs2
  obtain ⟨m, hm⟩ : ∃ m, m = w1.heap.size + 1 + 1 := ⟨_, rfl⟩
  obtain ⟨bm, hbm⟩ : ∃ m, m = w1.heap.size + 1 + 1 + 1 := ⟨_, rfl⟩
  obtain ⟨bk, hbk⟩ : ∃ m, m = w1.heap.size + 1 := ⟨_, rfl⟩
  obtain ⟨bf, hbf⟩ : ∃ m, m = w1.heap.size + 1 + 1 + 1 + 1 := ⟨_, rfl⟩
  rw [← hbf, ← hbm, ← hm, ← hbk] at HM
  rw [← hm] at HMap
  rw [← hbf, ← hbm, ← hbk]
  have Hms := Lib.hid (And.intro hm (And.intro hbm (And.intro hbk hbf)))
  clear hm hbm hbk hbf
  gi_wp2_with fail
  refine ⟨trivial, ?_⟩
  refine (callsIn_wide.2 (count_calls HM.out (s.size + 1) s _ (by omega) (.of_below (below1 w2 _) _) (HMap.out.of_heap (by exact (below1 w2 _).block _ HMap.out.lt)))).mono ?_
  rintro e w3 ⟨rfl, hk3, hm3⟩
  obtain ⟨n0, hn0⟩ : ∃ n0, n0 = waysV l s := ⟨_, rfl⟩
  rw [← hn0]
  have h8 : w3.heap[w2.heap.size]? = some (.cells #[.func (.func 116) #[] #[.pointer (some ⟨bm, 0, none⟩), .pointer (some ⟨bk, 0, none⟩), .pointer (some ⟨bf, 0, none⟩)]] 129 (0, 0)) := hk3.blk (blk_new w2 _) (by simp) (by intro e; cases e; have := HMap.out.lt; omega)
  have h6 := hk3.blk (blk_alloc hb6 _) (by have := blk_lt hb6; simp only [World.size_alloc]; omega) (by intro e; cases e; have := Hms.out.1; omega)
  have h3 := hk3.blk (blk_alloc hbs2 _) (by simp only [World.size_alloc]; omega) (by intro e; cases e; have := Hms.out.1; omega)
  have HK : Hid (Keep w2.heap.size (some m) w2 w3 ∧ Below w.heap.size w w3) := Lib.hid (by
    have h1 : Keep w2.heap.size (some m) w2 w3 := (Keep.of_below (below1 w2 _) _).trans (hk3.mono (by simp only [World.size_alloc]; omega))
    exact ⟨h1, HB2.out.trans (h1.lose HB2.out.size (fun k e => by cases e; have := Hms.out.1; omega))⟩)
  have Hm3 := Lib.hid hm3
  clear hk3 hm3 hb6 hbs2 hcs
  by_cases hz : n0 = 0
  · subst hz
    gi_wp2
    have hR : readR l s = ([], 6) := by unfold readR; rw [← HG.out, if_pos rfl, if_pos hn0.symm]
    rw [hR]
    exact ⟨_, results_tmp2 rfl _ _ _, _, rfl, World.ownsRow_nil _ _ _ _, HK.out.2⟩
  have HR0 : Hid (readR l s = (readF l (s.size + 1) s, 0)) := Lib.hid (by unfold readR; rw [← HG.out, if_pos rfl, if_neg (by rw [← hn0]; exact hz)])
  have hn1 : 0 < waysV l s := by have := (waysF_bound l (s.size + 1) s).1; unfold waysV at hn0 ⊢; omega
  have HSt : Hid (RdSt l A c (w.heap.size + 1) w1.heap.size w2.heap.size w3.heap.size bm bk bf m w s [] [] (w3.alloc (.cells #[.slice none 0 0] 25))) := Lib.hid
    ⟨blk_alloc h3 _, blk_alloc h6 _, blk_alloc h8 _, ⟨_, blk_new w3 _, World.ownsRow_nil _ _ _ _⟩,
      blk_alloc (HK.out.1.blk HM.out.hbm (blk_lt HM.out.hbm) (by intro e; cases e; have := HM.out.hbm; rw [HMap.out.choose_spec.choose_spec.1] at this; cases this)) _,
      blk_alloc (HK.out.1.blk HM.out.hbk (blk_lt HM.out.hbk) (by intro e; cases e; have := HM.out.hbk; rw [HMap.out.choose_spec.choose_spec.1] at this; cases this)) _,
      blk_alloc (HK.out.1.blk HM.out.hbf (blk_lt HM.out.hbf) (by intro e; cases e; have := HM.out.hbf; rw [HMap.out.choose_spec.choose_spec.1] at this; cases this)) _,
      Hm3.out.of_heap ((below1 w3 _).block _ Hm3.out.lt), below_alloc HK.out.2 _, by simp, by simp⟩
  have Hsz := Lib.hid (givenE_size HG.out.symm)
  clear h3 h6 h8
  gi_wp2_with fail
  refine wpIn_loop_ghost (fun n a W => ∃ (s' : ByteArray) (acc : List Int) (Ds : List Nat) (u27 u28 u29 u30 u31 : Value), s'.size = n ∧ acc.length + s'.size ≤ 250 ∧ 0 < waysV l s' ∧ acc ++ readF l (s'.size + 1) s' = readF l (s.size + 1) s ∧
    RdSt l A c (w.heap.size + 1) w1.heap.size w2.heap.size w3.heap.size bm bk bf m w s' acc Ds W ∧ a = ⟨#[.agg #[.slice A l.length c], .string s, .pointer (some ⟨w.heap.size, 0, none⟩), .pointer (some ⟨w.heap.size + 1, 0, none⟩), .slice none 0 0, .int .i64 0, .pointer (some ⟨w1.heap.size, 0, none⟩), .int .i64 0,
      .pointer (some ⟨w2.heap.size, 0, none⟩), .pointer (some ⟨w3.heap.size, 0, none⟩), undef, undef, .tuple #[.agg #[.slice A l.length c], .int .i64 0], .agg #[.slice A l.length c], .string s, .tuple #[.agg #[.slice A l.length c], .int .i64 0], .agg #[.slice A l.length c], .int .i64 0, .int .i64 0, .bool false, undef, .agg #[.slice A l.length c],
      .func (.func 116) #[] #[.pointer (some ⟨bm, 0, none⟩), .pointer (some ⟨bk, 0, none⟩), .pointer (some ⟨bf, 0, none⟩)], .func (.func 116) #[] #[.pointer (some ⟨bm, 0, none⟩), .pointer (some ⟨bk, 0, none⟩), .pointer (some ⟨bf, 0, none⟩)], .string s, .int .i64 n0, .bool (n0 == 0), u27, u28, u29, u30, u31, undef, undef, undef, undef, undef, undef, undef, undef, undef, undef, undef, undef], marks Ds⟩) s.size
    ⟨s, [], [], undef, undef, undef, undef, undef, rfl, by simpa using Hsz.out, hn1, rfl, HSt.out, by rw [hn0]; rfl⟩ ?_
  rintro n a W ⟨s', acc, Ds, u27, u28, u29, u30, u31, rfl, hlen, hpos, hacc, hS, rfl⟩
  have Hacc := Lib.hid hacc
  have HS := Lib.hid hS
  have hc3 := box_cell hS.h3
  have hf3 := box_free hS.h3
  have hc6 := box_cell hS.h6
  have hc8 := box_cell hS.h8
  obtain ⟨v9, hv9, hown⟩ := hS.h9
  have hc9 := box_cell hv9
  have hlt9 := blk_lt hv9
  clear hacc hS hv9 hown
  by_cases h0 : s'.size = 0
  · obtain rfl : s' = ⟨#[]⟩ := by obtain ⟨d⟩ := s'; rw [Array.eq_empty_of_size_eq_zero h0]
    gi_wp2
    have hfull : acc = readF l (s.size + 1) s := by rw [← Hacc.out, readF, if_pos h0]; simp
    rw [HR0.out, ← hfull]
    obtain ⟨v, hv, hown⟩ := HS.out.h9
    have hcv := box_cell hv
    rw [hc9] at hcv; cases hcv
    have hW := HB2.out.size
    have hW3 := HK.out.2.size
    exact leaves_marks (fun W' => results_tmp2 rfl _ _ W') Ds W (fun D hD => (HS.out.ds D hD).1) HS.out.nodup ⟨v9, rfl, shut_own Ds W (own_lower hown hW3) (fun D hD => (HS.out.ds D hD).1) HS.out.nodup, shut_below Ds W HS.out.below (fun D hD => (HS.out.ds D hD).2)⟩
  have hne : (!s'.toList.isEmpty) = true := by have := str_nonempty h0; simp [this]
  gi_wp2_with fail
  refine ⟨trivial, ?_⟩
  refine (callsIn_wide.2 (heads_calls A c l.length s' _)).mono ?_
  rintro e wL ⟨rfl, hwL⟩
  have hbL : Below W.heap.size W wL := by rw [hwL]; exact below2 _ _ _
  have hszL : wL.heap.size = W.heap.size + 1 + 1 := by rw [hwL]; simp only [World.size_alloc]
  have hk1 : wL.heap[W.heap.size]? = some (.cells #[.slice A l.length c] 126 (0, 0)) := by rw [hwL]; exact blk_alloc (blk_new W _) _
  have hs1 : wL.heap[W.heap.size + 1]? = some (.cells #[.string s'] 9 (0, 0)) := by rw [hwL]; exact blk_new1 W _ _
  clear hwL
  have hmw : w.heap.size ≤ m := by have := HB.out.size; have := Hms.out.1; omega
  have hSL : RdSt l A c (w.heap.size + 1) w1.heap.size w2.heap.size w3.heap.size bm bk bf m w s' acc Ds wL := HS.out.kept (.of_below hbL _) hmw (HS.out.map.of_heap (hbL.block _ HS.out.map.lt))
  gi_wp2_with fail
  have hDs : ∀ D ∈ Ds, D < wL.heap.size := fun D hD => Nat.lt_of_lt_of_le (blk_lt (HS.out.ds D hD).1) hbL.size
  have hWw : w.heap.size ≤ wL.heap.size := hSL.below.size
  have HSL := Lib.hid hSL
  have Hr' := Hr.out
  have hCL : Kd.C Kd.string wL A l.length l := Kd.C_below Hr' HSL.out.below
  obtain ⟨es, ck, hmL, _⟩ := hSL.map
  have hmlt := blk_lt hmL
  obtain ⟨b6, hb6⟩ : ∃ b, b = w1.heap.size := ⟨_, rfl⟩
  obtain ⟨b8, hb8⟩ : ∃ b, b = w2.heap.size := ⟨_, rfl⟩
  obtain ⟨b9, hb9⟩ : ∃ b, b = w3.heap.size := ⟨_, rfl⟩
  have hb9w : w.heap.size ≤ b9 := by rw [hb9]; exact HK.out.2.size
  rw [← hb6, ← hb8, ← hb9] at HSL ⊢
  have Hb := Lib.hid (And.intro hb6 (And.intro hb8 hb9))
  clear hSL HB HB2 HK Hms hb6 hb8 hb9 hc3 hf3 hc6 hc8 hc9
  refine wpIn_rangeFunc_ownG rfl (by decide) (gf := 117) (lb := #[.pointer (some ⟨W.heap.size, 0, none⟩), .pointer (some ⟨W.heap.size + 1, 0, none⟩)]) rfl trivial (enters_of Tryz.func117 (by kernel_rfl) rfl) (w0 := wL)
    (heads_stops 11 (by decide) _ _ m A c l s' wL wL hmL hCL (Keep.refl _ _ _) hk1 hs1) (fun h k => h.trans k) ?hKb (Below.refl _ _) (fun _ => rfl)
    (fun pre W' => (∀ x ∈ pre, waysV l x.1.2 = 0) ∧ RdSt l A c (w.heap.size + 1) b6 b8 b9 bm bk bf m w s' acc Ds W' ∧ wL.heap.size ≤ W'.heap.size)
    (fun cc pre W' => cc = .exit 2 ∧ ∃ p x, pre = p ++ [x] ∧ (∀ y ∈ p, waysV l y.1.2 = 0) ∧ 0 < waysV l x.1.2 ∧ RdSt l A c (w.heap.size + 1) b6 b8 b9 bm bk bf m w x.1.2 (acc ++ [x.1.1]) Ds W')
    ?hI ?hIx
    ⟨by simp, HSL.out, Nat.le_refl _⟩
    (fun x => { tmps := #[.agg #[.slice A l.length c], .string s, .pointer (some ⟨w.heap.size, 0, none⟩), .pointer (some ⟨w.heap.size + 1, 0, none⟩), .slice none 0 0, .int .i64 0, .pointer (some ⟨b6, 0, none⟩), .int .i64 0,
      .pointer (some ⟨b8, 0, none⟩), .pointer (some ⟨b9, 0, none⟩), .int .i64 x.1.1, .string x.1.2, .tuple #[.agg #[.slice A l.length c], .int .i64 0], .agg #[.slice A l.length c], .string s, .tuple #[.agg #[.slice A l.length c], .int .i64 0], .agg #[.slice A l.length c], .int .i64 0, .int .i64 0, .bool false, undef, .agg #[.slice A l.length c],
      .func (.func 116) #[] #[.pointer (some ⟨bm, 0, none⟩), .pointer (some ⟨bk, 0, none⟩), .pointer (some ⟨bf, 0, none⟩)], .func (.func 116) #[] #[.pointer (some ⟨bm, 0, none⟩), .pointer (some ⟨bk, 0, none⟩), .pointer (some ⟨bf, 0, none⟩)], .string s, .int .i64 (waysV l s), .bool false, .string s', .bool true, .agg #[.slice A l.length c], .string s', .func (.func 117) #[] #[.pointer (some ⟨W.heap.size, 0, none⟩), .pointer (some ⟨W.heap.size + 1, 0, none⟩)], .int .i64 x.1.1, .string x.1.2, undef, undef, undef, undef, undef, undef, undef, undef, undef, undef], defers := [] }) ?assign ?body ?done ?stop
  case hKb =>
    intro W' L o o' hl h _ _
    exact ⟨(Keep.refl _ _ _).put o' (.inl hl), World.putObj_heap_other (by omega), World.putObj_heap_other (by omega)⟩
  case hI =>
    intro pre X Y row hs hg hr
    refine ⟨hs.1, hs.2.1.grown hg (fun r e => ⟨by have := (hr r e).1; omega, (hr r e).2, fun hD => by have := hDs r hD; have := (hr r e).1; omega⟩) (hs.2.1.map.of_heap (hg.block _ hs.2.1.map.lt (fun e => by have := (hr _ e.symm).1; omega))), Nat.le_trans hs.2.2 hg.size⟩
  case hIx =>
    rintro cc pre X Y row ⟨rfl, p, x, rfl, hp, hx, hs⟩ hg hr
    exact ⟨rfl, p, x, rfl, hp, hx, hs.grown hg (fun r e => ⟨by have := (hr r e).1; omega, (hr r e).2, fun hD => by have := hDs r hD; have := (hr r e).1; omega⟩) (hs.map.of_heap (hg.block _ hs.map.lt (fun e => by have := (hr _ e.symm).1; omega)))⟩
  case assign =>
    intro L x W' K hK
    gi_wp2
    exact hK
  case body =>
    rintro L pre ⟨x, hx⟩ W' ⟨hz', hR, hle'⟩ hlt
    dsimp only
    have hc8 := box_cell hR.h8
    have hcall := count_calls (hR.made hw.out Hr') (x.2.size + 1) x.2 W' (by omega) (Keep.refl _ _ _) hR.map
    obtain ⟨nx, hnx⟩ : ∃ nx, nx = waysV l x.2 := ⟨_, rfl⟩
    rw [← hnx] at hcall
    have Hnx := Lib.hid hnx
    have HR' := Lib.hid hR
    have Hcall := Lib.hid hcall
    have Hz := Lib.hid hz'
    have hge : 0 ≤ nx := by rw [hnx]; exact (waysF_bound l _ x.2).1
    clear hz' hR hcall hlt hnx
    gi_wp2_with fail
    refine ⟨trivial, ?_⟩
    refine (CallsIn.inRound L (callsIn_wide.2 Hcall.out)).mono ?_
    rintro e W1 ⟨rfl, hk4, hm4⟩
    have hR1 := HR'.out.kept hk4 hmw hm4
    have HR1 := Lib.hid hR1
    have hc3 := box_cell hR1.h3
    have hf3 := box_free hR1.h3
    obtain ⟨v9, hv9, hown⟩ := hR1.h9
    have hc9 := box_cell hv9
    have hf9 := box_free hv9
    have Hk4 := Lib.hid hk4
    clear hk4 hm4 hR1
    by_cases hpx : 0 < nx
    · obtain ⟨i0, hi, hz0, hz1, hz2⟩ := info_parts info3
      gi_wp2_with (gi_at_builtin; refine wpListIn_append_own _ rfl _ _ 25 rfl b9 3 i0 (.int .i64 0) 1 8 Tryz.underlying25 hi hz0 hz1 hz2 rfl (by decide) _ _ _ rfl (hown.alloc _) ⟨W1.heap.size, 0, none⟩ 1 1 [.int .i64 x.1] rfl rfl (cell_one_new _ _ _) (by simp [Value.oneCell']) (by unfold maxLen; omega) (by omega) (by have := blk_lt hv9; simp; omega) ?_; intro v' w1' hown' hgrow _; obtain ⟨g', cap', rfl⟩ := ownsRow_succ hown'; have hgrow' : (W1.alloc (.cells #[.int .i64 x.1] 3)).grownBy w1' v9.ownBlock := hgrow; clear hgrow; obtain ⟨q9, q3, q3', qR⟩ := HR1.out.appended (r := x.2) (by omega) hb9w hv9 hown hown' hgrow'; have p9 := box_cell q9; have f9 := box_free q9; have p3 := box_cell q3'; have f3 := box_free q3'; have HqR := Lib.hid qR; have Hgr := Lib.hid hgrow'; clear qR hgrow')
      have hk5 := keepsFrom_keep Hk4.out (show m < wL.heap.size by omega)
      refine ⟨?_, rfl, pre, ⟨x, hx⟩, rfl, Hz.out, by rw [← Hnx.out]; exact hpx, HqR.out⟩
      refine hk5.trans ((KeepsFrom.trans ?_ ((KeepsOthers.setCell _ _ _).from _)).trans ((KeepsOthers.setCell _ _ _).from _))
      refine ((KeepsOthers.alloc W1 _).trans (KeepsOthers.of_grownBy Hgr.out fun j o ej hj => ?_)).from _
      rcases (hown.alloc (.cells #[.int .i64 x.1] 3)).2 with ⟨rfl, _⟩ | ⟨g, cap, cur, rfl, _, hgb, _⟩
      · simp [Value.ownBlock] at ej
      · obtain rfl : g = j := by simpa [Value.ownBlock] using ej
        rw [hgb] at hj; cases hj; rfl
    · have h0x : nx = 0 := by omega
      subst h0x
      gi_wp2
      have h1 := HR'.out.below.size
      refine ⟨keepsFrom_keep Hk4.out (by omega), ⟨Hk4.out.mono ?_, ?_, ?_⟩, ?_, HR1.out, Nat.le_trans hle' Hk4.out.size⟩
      · exact hle'
      · exact Hk4.out.block _ (by omega) (by intro e; cases e; rw [hmL] at hk1; cases hk1)
      · exact Hk4.out.block _ (by omega) (by intro e; cases e; rw [hmL] at hs1; cases hs1)
      · intro y hy
        rcases List.mem_append.1 hy with h | h
        · exact Hz.out y h
        · rw [List.mem_singleton] at h; subst h; exact Hnx.out.symm
  case done =>
    rintro D ys W' hD hS ⟨hz', _⟩ hK
    exfalso
    have h := waysV_step l hw.out s' h0
    rw [fold_zero (fun x => waysV l x.2) (fun x => (waysF_bound l _ x.2).1) (headsL l s') (fun x hx => by
      rw [← hS] at hx
      obtain ⟨y, hy, rfl⟩ := List.mem_map.1 hx
      exact hz' y hy)] at h
    omega
  case stop =>
    rintro D cc pre W' hD hpre ⟨rfl, p, x, rfl, hp, hx, hs⟩ hK
    have hfind : (headsL l s').find? (fun x => decide (0 < waysV l x.2)) = some x.1 := by
      rw [List.map_append] at hpre
      refine find_prefix _ hpre ?_ (by simpa using hx)
      intro y hy
      obtain ⟨z, hz, rfl⟩ := List.mem_map.1 hy
      simp [hp z hz]
    obtain ⟨wd, hmem, hst, he⟩ := headsL_mem x.2
    have h1 := restOf_size s' wd hst
    have h2 := hw.out wd hmem
    rw [← he] at h1
    rw [Hb.out.1, Hb.out.2.1, Hb.out.2.2] at hs ⊢
    gi_wp2
    refine ⟨x.1.2.size, by omega, x.1.2, acc ++ [x.1.1], D :: Ds, _, _, _, _, _, rfl, by simp; omega, hx, ?_, hs.cons hK (by omega) (fun E hE => by have := hDs E hE; omega), by rw [hn0, show (waysV l s == 0) = false by rw [← hn0]; simpa using hz]; rfl⟩
    have hq : readF l (s'.size + 1) s' = x.1.1 :: readF l s'.size x.1.2 := by rw [readF, if_neg h0, hfind]
    rw [← Hacc.out, hq]
    simp only [List.append_assoc, List.singleton_append]
    rw [readF_eq l hw.out s'.size (x.1.2.size + 1) x.1.2 (by omega) (by omega)]
end Go.Proofs.YtfnibmcenjiodaaGreatDoor.M
