/- Contracts and plain laws that the claim's card stands on (texts M8 M14 M15 M16 M17 M9 of the work, put together). No statement of the seat is proved here. -/
import Derived.Maps.Views
import Derived.Maps.Own
import Derived.Test.YtfnibmcenjiodaaGreatDoorQ11
import Derived.Test.YtfnibmcenjiodaaGreatDoorQ12
set_option linter.unusedVariables false
set_option linter.unusedSimpArgs false
namespace Go.Proofs.YtfnibmcenjiodaaGreatDoor.M
open Go.Sort Go.Shelf Go.RowKit Go.Proofs.YtfnibmcenjiodaaGreatDoorW.PrintWords Go.Proofs.YtfnibmcenjiodaaGreatDoorW.PrintLast Go.Proofs.YtfnibmcenjiodaaGreatDoorW.PrintMore
attribute [local go_sem] Oper.semAt_some min2_int min_two
def restOf (s w : ByteArray) : ByteArray := ⟨(Lib.trimPrefix s.data.toList w.data.toList).toArray⟩
def startsB (s w : ByteArray) : Bool := Lib.hasPrefix s.data.toList w.data.toList
def headAt (ws : List ByteArray) (s : ByteArray) (j : Nat) : List (Int × ByteArray) :=
  if startsB s (rdOf ByteArray.empty ws j) then [((j : Int) + 1, restOf s (rdOf ByteArray.empty ws j))] else []
def headsTo (ws : List ByteArray) (s : ByteArray) (k : Nat) : List (Int × ByteArray) := (List.range k).flatMap (headAt ws s)
def headsL (ws : List ByteArray) (s : ByteArray) : List (Int × ByteArray) := headsTo ws s ws.length
theorem headsTo_succ (ws : List ByteArray) (s : ByteArray) (k : Nat) : headsTo ws s (k + 1) = headsTo ws s k ++ headAt ws s k := by
  simp [headsTo, List.range_succ]
theorem headsTo_length (ws : List ByteArray) (s : ByteArray) : ∀ k, (headsTo ws s k).length ≤ k
  | 0 => by simp [headsTo]
  | k + 1 => by
    have := headsTo_length ws s k
    rw [headsTo_succ, List.length_append]
    have h2 : (headAt ws s k).length ≤ 1 := by unfold headAt; split <;> simp
    omega
theorem headsTo_prefix (ws : List ByteArray) (s : ByteArray) {k n : Nat} (h : k ≤ n) : headsTo ws s k <+: headsTo ws s n := by
  induction n with
  | zero => obtain rfl : k = 0 := by omega
            exact List.prefix_refl _
  | succ n ih =>
    by_cases e : k = n + 1
    · rw [e]; exact List.prefix_refl _
    · rw [headsTo_succ]
      exact (ih (by omega)).trans (List.prefix_append _ _)
abbrev encHead (x : Int × ByteArray) : Array Value := #[.int .i64 x.1, .string x.2]
def KeepH (wb : World) (m bk bs : Nat) (W W' : World) : Prop := Keep wb.heap.size (some m) W W' ∧ W'.heap[bk]? = W.heap[bk]? ∧ W'.heap[bs]? = W.heap[bs]?
theorem KeepH.trans {wb : World} {m bk bs : Nat} {W W1 W2 : World} (h : KeepH wb m bk bs W W1) (k : KeepH wb m bk bs W1 W2) : KeepH wb m bk bs W W2 := ⟨h.1.trans k.1, k.2.1.trans h.2.1, k.2.2.trans h.2.2⟩
set_option maxRecDepth 100000 in
set_option maxHeartbeats 4000000 in
theorem heads1_in (n : Nat) (hn : 1 ≤ n) (l bk bs m : Nat) (A : Option Addr) (c : Nat) (ws : List ByteArray) (s : ByteArray) (wb : World) {es : Array MapEntry} {ck : Nat} (hm : wb.heap[m]? = some (.map es ck)) (hC : Kd.C Kd.string wb A ws.length ws)
    (J Jx : List (Int × ByteArray) → World → Prop)
    (hY : ∀ pre x W, J pre W → pre.length < ws.length → x ∈ headsL ws s → YieldAt Fence.wide (n - 1) Tryz.prog l (encHead x) W fun e W' =>
      (e = .returned (.bool true) ∧ J (pre ++ [x]) W' ∧ KeepH wb m bk bs W W') ∨ (e = .returned (.bool false) ∧ Jx (pre ++ [x]) W'))
    (W : World) (hW : Keep wb.heap.size (some m) wb W) (hk : W.heap[bk]? = some (.cells #[.slice A ws.length c] 126 (0, 0))) (hs : W.heap[bs]? = some (.cells #[.string s] 9 (0, 0))) (h0 : J [] W) :
    CallsIn Fence.wide n Tryz.prog 117 #[.func (.yield l) #[] #[], .pointer (some ⟨bk, 0, none⟩), .pointer (some ⟨bs, 0, none⟩)] W fun e W' => (∃ v, e = .returned v) ∧
      ((∃ ys, ys = headsL ws s ∧ J ys W') ∨ (∃ pre, pre <+: headsL ws s ∧ Jx pre W')) := by
  have ck0 : W.cell? ⟨bk, 0, none⟩ = some (.slice A ws.length c) := box_cell hk
  have hmax := Kd.C_max hC
  refine callsIn_of_wp Tryz.func117 rfl trivial ?_ rfl
  simp only [Tryz.ntmps117, List.size_toArray, List.length_cons, List.length_nil, Nat.reduceAdd, Nat.reduceSub, Array.replicate_succ, Array.replicate_zero, List.push_toArray, List.append_toArray, List.nil_append, List.cons_append]
  gi_wp2
  gi_loopw [12] (fun i wr => ∃ k : Nat, k ≤ ws.length ∧ i = .int .i64 k ∧ J (headsTo ws s k) wr ∧ Keep wb.heap.size (some m) wb wr ∧ wr.heap[bs]? = some (.cells #[.string s] 9 (0, 0)))
    (fun i _ => ws.length - (intOf i).toNat)
  case atStart => exact ⟨0, Nat.zero_le _, rfl, h0, hW, hs⟩
  case round =>
    obtain ⟨k, hk1, rfl, hJs, hnx, hbs⟩ := hrel
    by_cases hlt : k < ws.length
    · have cs0 : wr.cell? ⟨bs, 0, none⟩ = some (.string s) := box_cell hbs
      obtain ⟨ad, rfl, hcell⟩ := Kd.at_string (C_keep_map hC hm hnx) k (by omega) (by omega)
      rw [show ((k : Int).toNat) = k from by omega] at hcell
      obtain ⟨x, hx⟩ : ∃ x, x = rdOf ByteArray.empty ws k := ⟨_, rfl⟩
      rw [← hx] at hcell
      have Hnx := Lib.hid hnx
      have hsc := headsTo_succ ws s k
      unfold headAt at hsc
      rw [← hx] at hsc
      have Hbs := Lib.hid hbs
      clear hnx hk hs hm hW hx hbs
      cases hp : startsB s x
      · rw [hp] at hsc
        simp only [Bool.false_eq_true, if_false, List.append_nil] at hsc
        rw [← hsc] at hJs
        clear hsc
        gi_wp2_with (refine ⟨trivial, ?_⟩; gi_at_call 118; refine (callsIn_wide.2 (Tryz.strings_CutPrefix s x _)).mono ?_; rintro e w2 ⟨rfl, rfl⟩; rw [show Lib.hasPrefix s.data.toList x.data.toList = false from hp])
        refine ⟨fun _ h => (by cases h), ?_⟩
        gi_wp2
        go_roundw
        case rel => exact ⟨k + 1, by omega, by simp, hJs, Hnx.out, Hbs.out⟩
        case measure => simp [intOf]; omega
      · rw [hp] at hsc
        simp only [if_true] at hsc
        have hl := headsTo_length ws s k
        have hmem : ((k : Int) + 1, restOf s x) ∈ headsL ws s := (headsTo_prefix ws s (show k + 1 ≤ ws.length by omega)).subset (by rw [hsc]; simp)
        obtain ⟨fn, tmps, assign, body, hy, hR⟩ := hY _ ((k : Int) + 1, restOf s x) wr hJs (by omega) hmem
        rw [← hsc] at hR
        have HR := Lib.hid hR
        dsimp only [encHead, restOf] at hy
        clear hsc hl hR hmem
        gi_wp2_with (refine ⟨trivial, ?_⟩; gi_at_call 118; refine (callsIn_wide.2 (Tryz.strings_CutPrefix s x _)).mono ?_; rintro e w2 ⟨rfl, rfl⟩; rw [show Lib.hasPrefix s.data.toList x.data.toList = true from hp])
        refine HR.out.mono ?_
        rintro e W3 (⟨rfl, hJ3, hk3⟩ | ⟨rfl, hJx3⟩)
        · gi_wp2
          go_roundw
          case rel => exact ⟨k + 1, by omega, by simp, hJ3, Hnx.out.trans hk3.1, hk3.2.2.trans Hbs.out⟩
          case measure => simp [intOf]; omega
        · gi_wp2
          refine bodyPost_ret (results_none rfl _ _ _) rfl ?_
          exact ⟨⟨_, rfl⟩, .inr ⟨_, headsTo_prefix ws s (by omega), hJx3⟩⟩
    · obtain rfl : k = ws.length := by omega
      gi_wp2
      go_end0
      exact ⟨⟨_, rfl⟩, .inl ⟨_, rfl, hJs⟩⟩
abbrev HeadOf (ws : List ByteArray) (s : ByteArray) := { x : Int × ByteArray // x ∈ headsL ws s }
theorem heads_stops (n : Nat) (hn : 1 ≤ n) (bk bs m : Nat) (A : Option Addr) (c : Nat) (ws : List ByteArray) (s : ByteArray) (wb w : World) {es : Array MapEntry} {ck : Nat} (hm : wb.heap[m]? = some (.map es ck)) (hC : Kd.C Kd.string wb A ws.length ws) (hb : Keep wb.heap.size (some m) wb w)
    (hk : w.heap[bk]? = some (.cells #[.slice A ws.length c] 126 (0, 0))) (hs : w.heap[bs]? = some (.cells #[.string s] 9 (0, 0))) :
    SeqStopsK Fence.wide n Tryz.prog 117 #[.pointer (some ⟨bk, 0, none⟩), .pointer (some ⟨bs, 0, none⟩)] (fun x : HeadOf ws s => encHead x.1) (KeepH wb m bk bs) (fun ys => ys.map (·.1) = headsL ws s) (fun pre => pre.map (·.1) <+: headsL ws s) ws.length w :=
  fun l J Jx W hW _ _ hY h0 => by
    refine (heads1_in n hn l bk bs m A c ws s wb hm hC (fun pre W => ∃ p : List (HeadOf ws s), p.map (·.1) = pre ∧ J p W) (fun pre W => ∃ p : List (HeadOf ws s), p.map (·.1) = pre ∧ Jx p W) ?_ W (hb.trans (.of_below (hW.mono hb.size) _)) (blk_below hk hW) (blk_below hs hW) ⟨[], rfl, h0⟩).mono ?_
    · rintro pre x W ⟨p, rfl, hJ⟩ hl hx
      refine (hY p ⟨x, hx⟩ W hJ (by simpa using hl)).mono ?_
      rintro e w' (⟨rfl, hJ', hk⟩ | ⟨rfl, hJ'⟩)
      · exact .inl ⟨rfl, ⟨_, by simp, hJ'⟩, hk⟩
      · exact .inr ⟨rfl, ⟨_, by simp, hJ'⟩⟩
    · rintro e W' ⟨hv, ⟨ys, rfl, p, hp, hJ⟩ | ⟨pre, hpre, p, rfl, hJ⟩⟩
      · exact ⟨hv, .inl ⟨p, hp, hJ⟩⟩
      · exact ⟨hv, .inr ⟨p, hpre, hJ⟩⟩
theorem heads_calls (A : Option Addr) (c len : Nat) (s : ByteArray) (w : World) :
    Calls Tryz.prog 71 #[.agg #[.slice A len c], .string s] w fun e w' => e = .returned (.func (.func 117) #[] #[.pointer (some ⟨w.heap.size, 0, none⟩), .pointer (some ⟨w.heap.size + 1, 0, none⟩)]) ∧ w' = (w.alloc (.cells #[.slice A len c] 126)).alloc (.cells #[.string s] 9) := by
  go_enter Tryz.func71, Tryz.ntmps71
  go_wp2
  go_ret
  exact ⟨rfl, rfl⟩
def waysF (ws : List ByteArray) : Nat → ByteArray → Int
  | 0, _ => 0
  | f + 1, s => if s.size = 0 then 1 else (headsL ws s).foldl (fun n x => min 1000001 (n + waysF ws f x.2)) 0
def waysV (ws : List ByteArray) (s : ByteArray) : Int := waysF ws (s.size + 1) s
theorem restOf_size (s w : ByteArray) (h : startsB s w = true) : (restOf s w).size + w.size = s.size := by
  have hp : w.data.toList <+: s.data.toList := List.isPrefixOf_iff_prefix.1 h
  have hl := hp.length_le
  rw [data_length, data_length] at hl
  unfold restOf
  show (Lib.trimPrefix s.data.toList w.data.toList).toArray.size + _ = _
  unfold Lib.trimPrefix
  rw [if_pos (show Lib.hasPrefix s.data.toList w.data.toList = true from h)]
  simp only [List.size_toArray, List.length_drop, data_length]
  omega
theorem headsL_mem {ws : List ByteArray} {s : ByteArray} {x : Int × ByteArray} (h : x ∈ headsL ws s) : ∃ w ∈ ws, startsB s w = true ∧ x.2 = restOf s w := by
  unfold headsL headsTo at h
  obtain ⟨j, hj, hx⟩ := List.mem_flatMap.1 h
  have hj := List.mem_range.1 hj
  unfold headAt at hx
  split at hx
  · rename_i hs
    rw [List.mem_singleton] at hx
    refine ⟨rdOf ByteArray.empty ws j, ?_, hs, by rw [hx]⟩
    have : rdOf ByteArray.empty ws (j : Int) = ws[j] := by simp [rdOf, hj]
    rw [this]
    exact List.getElem_mem hj
  · simp at hx
theorem fold_bound (f : Int × ByteArray → Int) (hf : ∀ x, 0 ≤ f x) : ∀ (l : List (Int × ByteArray)) (n : Int), 0 ≤ n ∧ n ≤ 1000001 → 0 ≤ l.foldl (fun n x => min 1000001 (n + f x)) n ∧ l.foldl (fun n x => min 1000001 (n + f x)) n ≤ 1000001
  | [], n, h => h
  | x :: l, n, h => fold_bound f hf l _ (by have := hf x; dsimp only; omega)
theorem waysF_bound (ws : List ByteArray) : ∀ f s, 0 ≤ waysF ws f s ∧ waysF ws f s ≤ 1000001
  | 0, s => by simp [waysF]
  | f + 1, s => by
    unfold waysF
    split
    · omega
    · exact fold_bound _ (fun x => (waysF_bound ws f x.2).1) _ _ (by omega)
theorem fold_congr (f g : Int × ByteArray → Int) : ∀ (l : List (Int × ByteArray)) (n : Int), (∀ x ∈ l, f x = g x) → l.foldl (fun n x => min 1000001 (n + f x)) n = l.foldl (fun n x => min 1000001 (n + g x)) n
  | [], _, _ => rfl
  | x :: l, n, h => by
    rw [List.foldl_cons, List.foldl_cons, h x (by simp)]
    exact fold_congr f g l _ (fun y hy => h y (by simp [hy]))
theorem waysF_eq (ws : List ByteArray) (hw : ∀ x ∈ ws, 1 ≤ x.size) : ∀ f g s, s.size < f → s.size < g → waysF ws f s = waysF ws g s
  | 0, _, _, h, _ => by omega
  | _, 0, _, _, h => by omega
  | f + 1, g + 1, s, hf, hg => by
    unfold waysF
    split
    · rfl
    · refine fold_congr _ _ _ _ (fun x hx => ?_)
      obtain ⟨w, hmem, hs, he⟩ := headsL_mem hx
      have := restOf_size s w hs
      have := hw w hmem
      rw [← he] at *
      exact waysF_eq ws hw f g x.2 (by omega) (by omega)
theorem waysV_step (ws : List ByteArray) (hw : ∀ x ∈ ws, 1 ≤ x.size) (s : ByteArray) (h : s.size ≠ 0) : waysV ws s = (headsL ws s).foldl (fun n x => min 1000001 (n + waysV ws x.2)) 0 := by
  unfold waysV
  rw [waysF, if_neg h]
  refine fold_congr _ _ _ _ (fun x hx => ?_)
  obtain ⟨w, hmem, hs, he⟩ := headsL_mem hx
  have := restOf_size s w hs
  have := hw w hmem
  rw [← he] at *
  exact waysF_eq ws hw _ _ _ (by omega) (by omega)
theorem waysV_empty (ws : List ByteArray) : waysV ws ⟨#[]⟩ = 1 := rfl
def MapOk (ws : List ByteArray) (m : Nat) (w : World) : Prop :=
  ∃ es ck, w.heap[m]? = some (.map es ck) ∧ StrKeys es.toList ∧ (∀ e ∈ es.toList, ∀ s, e.key = .string s → e.val = .int .i64 (waysV ws s)) ∧ ∃ e ∈ es.toList, e.key = .string ⟨#[]⟩
theorem MapOk.of_heap {ws : List ByteArray} {m : Nat} {w w' : World} (h : MapOk ws m w) (e : w'.heap[m]? = w.heap[m]?) : MapOk ws m w' := by
  obtain ⟨es, ck, hm, r⟩ := h
  exact ⟨es, ck, e.trans hm, r⟩
theorem MapOk.lt {ws : List ByteArray} {m : Nat} {w : World} (h : MapOk ws m w) : m < w.heap.size := by
  obtain ⟨es, ck, hm, r⟩ := h
  exact blk_lt hm
structure Made (ws : List ByteArray) (A : Option Addr) (c bm bk bf m : Nat) (w0 : World) : Prop where
  words : ∀ x ∈ ws, 1 ≤ x.size
  hbm : w0.heap[bm]? = some (.cells #[.map (some m)] 205 (0, 0))
  hbk : w0.heap[bk]? = some (.cells #[.slice A ws.length c] 126 (0, 0))
  hbf : w0.heap[bf]? = some (.cells #[.func (.func 116) #[] #[.pointer (some ⟨bm, 0, none⟩), .pointer (some ⟨bk, 0, none⟩), .pointer (some ⟨bf, 0, none⟩)]] 129 (0, 0))
  hC : Kd.C Kd.string w0 A ws.length ws
  hm : ∃ es ck, w0.heap[m]? = some (.map es ck)
abbrev countArgs (s : ByteArray) (bm bk bf : Nat) : Array Value := #[.string s, .pointer (some ⟨bm, 0, none⟩), .pointer (some ⟨bk, 0, none⟩), .pointer (some ⟨bf, 0, none⟩)]
theorem zeroInt (w : World) : (zeroValue 3).run Tryz.prog w = .ok (.int .i64 0) w := by kernel_rfl
theorem keepsFrom_keep {B m : Nat} {W W' : World} (h : Keep W.heap.size (some m) W W') (hm : m < B) : KeepsFrom B W W' :=
  ⟨h.size, fun k o hk ho _ => h.blk ho (blk_lt ho) (by intro e; cases e; omega)⟩
theorem min_wrap {a b : Int} (ha : 0 ≤ a ∧ a ≤ 1000001) (hb : 0 ≤ b ∧ b ≤ 1000001) (h : IntKind.i64.wrap (a + b) < 1000001) : IntKind.i64.wrap (a + b) = min 1000001 (a + b) := by
  rw [IntWalk.i64_in _ (by omega)] at h ⊢; omega
theorem min_wrap' {a b : Int} (ha : 0 ≤ a ∧ a ≤ 1000001) (hb : 0 ≤ b ∧ b ≤ 1000001) (h : 1000001 ≤ IntKind.i64.wrap (a + b)) : (1000001 : Int) = min 1000001 (a + b) := by
  rw [IntWalk.i64_in _ (by omega)] at h; omega
set_option maxRecDepth 100000 in
set_option maxHeartbeats 4000000 in
theorem count_calls {ws : List ByteArray} {A : Option Addr} {c bm bk bf m : Nat} {w0 : World} (M : Made ws A c bm bk bf m w0) : ∀ (N : Nat) (s : ByteArray) (w : World), s.size < N → Keep w0.heap.size (some m) w0 w → MapOk ws m w →
    Calls Tryz.prog 116 (countArgs s bm bk bf) w fun e w' => e = .returned (.int .i64 (waysV ws s)) ∧ Keep w.heap.size (some m) w w' ∧ MapOk ws m w'
  | 0, _, _, h, _, _ => absurd h (Nat.not_lt_zero _)
  | N + 1, s, w, hN, hK, hMap => by
    obtain ⟨es0, ck0, hm0⟩ := M.hm
    obtain ⟨es, ck, hm, hsk, hval, hemp⟩ := hMap
    have hbm : w.heap[bm]? = some (.cells #[.map (some m)] 205 (0, 0)) := hK.blk M.hbm (blk_lt M.hbm) (by intro e; cases e; have := M.hbm; rw [hm0] at this; cases this)
    have hbk : w.heap[bk]? = some (.cells #[.slice A ws.length c] 126 (0, 0)) := hK.blk M.hbk (blk_lt M.hbk) (by intro e; cases e; have := M.hbk; rw [hm0] at this; cases this)
    have hbf : w.heap[bf]? = some (.cells #[.func (.func 116) #[] #[.pointer (some ⟨bm, 0, none⟩), .pointer (some ⟨bk, 0, none⟩), .pointer (some ⟨bf, 0, none⟩)]] 129 (0, 0)) := hK.blk M.hbf (blk_lt M.hbf) (by intro e; cases e; have := M.hbf; rw [hm0] at this; cases this)
    have cbm := box_cell hbm
    have cbk := box_cell hbk
    have hlk := run_lookup_str (P := Tryz.prog) (T := 205) Tryz.underlying205 Tryz.underlying9 hm hsk s zeroInt true
    refine (callsIn_wide (n := 9)).1 ?_
    refine callsIn_of_wp_marks Tryz.func116 rfl trivial ?_ rfl
    simp only [Tryz.ntmps116, List.size_toArray, List.length_cons, List.length_nil, Nat.reduceAdd, Nat.reduceSub, Array.replicate_succ, Array.replicate_zero, List.push_toArray, List.append_toArray, List.nil_append, List.cons_append]
    cases hf : findStr s es.toList 0 with
    | some r =>
      obtain ⟨j, v⟩ := r
      rw [hf] at hlk
      simp only [Option.map_some, Option.getD_some, Option.isSome_some, if_true] at hlk
      have hv : v = .int .i64 (waysV ws s) := by
        obtain ⟨_, e, he, hk, hve⟩ := findStr_some hf
        rw [← hve]
        exact hval e (List.mem_of_getElem? he) s hk
      subst hv
      clear hf
      gi_wp2
      exact ⟨_, results_tmp rfl _ _ _, rfl, Keep.refl _ _ _, es, ck, hm, hsk, hval, hemp⟩
    | none =>
      rw [hf] at hlk
      simp only [Option.map_none, Option.getD_none, Option.isSome_none, if_true] at hlk
      have hs0 : Hid (s.size ≠ 0) := Lib.hid (by
        intro h
        obtain ⟨e, he, hk⟩ := hemp
        have hse : s = ⟨#[]⟩ := by
          obtain ⟨d⟩ := s
          have : d.size = 0 := h
          rw [Array.eq_empty_of_size_eq_zero this]
        rw [← hse] at hk
        exact findStr_none hsk hf e he hk)
      have hzk := blk_lt hbk
      have hzf := blk_lt hbf
      have hzm := blk_lt hbm
      have hzz := blk_lt hm
      have HMap : Hid (MapOk ws m w) := Lib.hid ⟨es, ck, hm, hsk, hval, hemp⟩
      have Hbf := Lib.hid hbf
      have Hbm := Lib.hid hbm
      have HK := Lib.hid hK
      have Hm0 := Lib.hid hm0
      clear hf hm hsk hval hemp hbf hbm hbk hK hm0
      gi_wp2_with (refine ⟨trivial, ?_⟩; gi_at_call 71; refine (callsIn_wide.2 (heads_calls A c ws.length s _)).mono ?_; rintro e w1 ⟨rfl, rfl⟩)
      obtain ⟨wL, hwL⟩ : ∃ wL, wL = (((w.alloc (Obj.cells #[Value.int IntKind.i64 0] 3)).alloc (Obj.cells #[Value.slice A ws.length c] 126)).alloc (Obj.cells #[Value.string s] 9)) := ⟨_, rfl⟩
      have hbL : Below w.heap.size w wL := by rw [hwL]; exact below_alloc (below2 _ _ _) _
      have hsz : wL.heap.size = w.heap.size + 3 := by rw [hwL]; simp only [World.size_alloc]
      have hn0 : wL.heap[w.heap.size]? = some (.cells #[.int .i64 0] 3 (0, 0)) := by rw [hwL]; exact blk_alloc (blk_alloc (blk_new w _) _) _
      have hk1 : wL.heap[w.heap.size + 1]? = some (.cells #[.slice A ws.length c] 126 (0, 0)) := by rw [hwL]; exact blk_alloc (blk_new1 w _ _) _
      have hs1 : wL.heap[w.heap.size + 1 + 1]? = some (.cells #[.string s] 9 (0, 0)) := by rw [hwL]; exact blk_new2 w _ _ _
      rw [← hwL]
      clear hwL cbm cbk hlk
      have hKL : Keep w0.heap.size (some m) w0 wL := HK.out.trans (.of_below (hbL.mono HK.out.size) _)
      have hle : w0.heap.size ≤ w.heap.size := HK.out.size
      refine wpIn_rangeFunc_ownG rfl (by decide) (gf := 117) (lb := #[.pointer (some ⟨w.heap.size + 1, 0, none⟩), .pointer (some ⟨w.heap.size + 1 + 1, 0, none⟩)]) rfl trivial (enters_of Tryz.func117 (by kernel_rfl) rfl) (w0 := wL)
        (heads_stops 8 (by decide) _ _ m A c ws s w0 wL Hm0.out M.hC hKL hk1 hs1) (fun h k => h.trans k) ?hKb (Below.refl _ _) (fun _ => rfl)
        (fun pre W => W.heap[w.heap.size]? = some (.cells #[.int .i64 (pre.foldl (fun n x => min 1000001 (n + waysV ws x.1.2)) 0)] 3 (0, 0)) ∧ Keep w.heap.size (some m) w W ∧ MapOk ws m W ∧ w.heap.size + 3 ≤ W.heap.size)
        (fun _ _ _ => False)
        ?hI
        (fun _ _ _ _ _ hs _ _ => hs)
        ⟨hn0, .of_below hbL _, HMap.out.of_heap (hbL.block m hzz), by omega⟩
        (fun x => { tmps := #[.string s, .pointer (some ⟨bm, 0, none⟩), .pointer (some ⟨bk, 0, none⟩), .pointer (some ⟨bf, 0, none⟩), undef, .int .i64 0, .int .i64 0, .bool false, .pointer (some ⟨w.heap.size, 0, none⟩), undef, .string x.1.2, .tuple #[.int .i64 0, .bool false], .map (some m), .string s, .tuple #[.int .i64 0, .bool false], .int .i64 0, .bool false, .bool false, undef, .agg #[.slice A ws.length c], .string s, .func (.func 117) #[] #[.pointer (some ⟨w.heap.size + 1, 0, none⟩), .pointer (some ⟨w.heap.size + 1 + 1, 0, none⟩)], .int .i64 x.1.1, .string x.1.2, undef, undef, undef, undef, undef, undef, undef, undef, undef, undef], defers := [] }) ?assign ?body ?done ?stop
      case hKb =>
        intro W l o o' hl h _ _
        refine ⟨(Keep.refl _ _ W).put o' (.inl (by omega)), World.putObj_heap_other (by omega), World.putObj_heap_other (by omega)⟩
      case hI =>
        intro pre X Y row hs hg hr
        have hne : ∀ k, k < wL.heap.size → some k ≠ row := fun k hk e => by have := (hr k e.symm).1; omega
        refine ⟨(hg.block _ (blk_lt hs.1) (hne _ (by omega))).trans hs.1, hs.2.1.trans ⟨hg.os, hg.tape, hg.output, hg.size, fun k hk _ => hg.block k (Nat.lt_of_lt_of_le hk hs.2.1.size) (hne _ (by omega))⟩, hs.2.2.1.of_heap (hg.block m hs.2.2.1.lt (hne _ (by omega))), Nat.le_trans hs.2.2.2 hg.size⟩
      case assign =>
        intro l x W K hK
        gi_wp2
        exact hK
      case body =>
        rintro l pre ⟨x, hx⟩ W ⟨hbox, hKW, hMW, hlt3⟩ hlt
        dsimp only
        have hxs : x.2.size < N := by
          obtain ⟨wd, hmem, hst, he⟩ := headsL_mem hx
          have := restOf_size s wd hst
          have := M.words wd hmem
          rw [← he] at *
          omega
        have hc1 := box_cell hbox
        have hf1 := box_free hbox
        have hzf2 := Nat.lt_of_lt_of_le hzf hKW.size
        have hcf : W.cell? ⟨bf, 0, none⟩ = some (.func (.func 116) #[] #[.pointer (some ⟨bm, 0, none⟩), .pointer (some ⟨bk, 0, none⟩), .pointer (some ⟨bf, 0, none⟩)]) := box_cell (hKW.blk Hbf.out hzf (by intro e; cases e; have := Hbf.out; rw [HMap.out.choose_spec.choose_spec.1] at this; cases this))
        have hcall := count_calls M N x.2 W.drew hxs ((HK.out.trans (hKW.mono hle)).drew) hMW
        have hfb := fold_bound (fun x : Int × ByteArray => waysV ws x.2) (fun x => (waysF_bound ws _ x.2).1) (pre.map (·.1)) 0 (by omega)
        rw [List.foldl_map] at hfb
        have hwb : 0 ≤ waysV ws x.2 ∧ waysV ws x.2 ≤ 1000001 := waysF_bound ws _ x.2
        obtain ⟨acc, hacc⟩ : ∃ acc, acc = pre.foldl (fun n x => min 1000001 (n + waysV ws x.1.2)) 0 := ⟨_, rfl⟩
        rw [← hacc] at hbox hc1 hfb
        have Hacc := Lib.hid hacc
        clear hacc
        have Hbox := Lib.hid hbox
        have HKW := Lib.hid hKW
        have Hcall := Lib.hid hcall
        clear hbox hKW hMW hcall hlt
        have hmo : Tryz.prog.follows .mixedOrders = true := by kernel_rfl
        have fin : Hid (∀ (w2 : World) (v : Int) (a' : Act), w2.heap[w.heap.size]? = some (.cells #[.int .i64 acc] 3 (0, 0)) → Keep W.drew.heap.size (some m) W.drew w2 → MapOk ws m w2 → v = min 1000001 (acc + waysV ws x.2) →
            ownPostG (w.heap.size + 3) (KeepH w0 m (w.heap.size + 1) (w.heap.size + 1 + 1)) (fun (pre : List (HeadOf ws s)) W => W.heap[w.heap.size]? = some (.cells #[.int .i64 (pre.foldl (fun n x => min 1000001 (n + waysV ws x.1.2)) 0)] 3 (0, 0)) ∧ Keep w.heap.size (some m) w W ∧ MapOk ws m W ∧ w.heap.size + 3 ≤ W.heap.size)
              (fun _ _ _ => False) (pre ++ [⟨x, hx⟩]) W Exit.normal a' (w2.setCell ⟨w.heap.size, 0, none⟩ (.int .i64 v))) := Lib.hid (by
          intro w2 v a' hb2 hk2 hm2 hv
          have hk3 : Keep W.heap.size (some m) W w2 := ⟨hk2.os, hk2.tape, hk2.output, hk2.size, hk2.block⟩
          have hWs : w.heap.size ≤ W.heap.size := HKW.out.size
          have hbl := blk_lt Hbox.out
          refine ⟨(keepsFrom_keep hk3 (by omega)).trans ((KeepsOthers.setCell _ _ _).from _), ⟨(hk3.mono (by omega)).setCell (by dsimp only; omega) _, ?_, ?_⟩, ?_, (HKW.out.trans (hk3.mono hWs)).setCell (by dsimp only; omega) _, hm2.of_heap (Below.heap_setCell _ _ _ _ (by dsimp only; omega)), by have := hk3.size; simp [World.setCell]; omega⟩
          · rw [Below.heap_setCell _ _ _ _ (by dsimp only; omega)]
            exact hk3.block _ (by omega) (by intro e; cases e; omega)
          · rw [Below.heap_setCell _ _ _ _ (by dsimp only; omega)]
            exact hk3.block _ (by omega) (by intro e; cases e; omega)
          · rw [box_put hb2, List.foldl_append, ← Hacc.out, hv]; rfl)
        gi_wp2
        gi_region_with_o (refine ⟨trivial, ?_⟩; gi_at_call 116; refine (CallsIn.inRound l (callsIn_wide.2 Hcall.out)).mono ?_; rintro e w2 ⟨rfl, hk2, hm2⟩; have Hb2 := Lib.hid (hk2.blk Hbox.out (blk_lt Hbox.out) (show some w.heap.size ≠ some m by intro e; cases e; omega)); have hc2 := box_cell Hb2.out; have hf2 := box_free Hb2.out; have Hk2 := Lib.hid hk2; have Hm2 := Lib.hid hm2; clear hk2 hm2)
        all_goals gi_wp2
        all_goals first
          | exact fin.out _ _ _ Hb2.out Hk2.out Hm2.out (min_wrap hfb hwb ‹_›)
          | exact fin.out _ _ _ Hb2.out Hk2.out Hm2.out (min_wrap' hfb hwb ‹_›)
      case done =>
        rintro D ys W hD hS ⟨hbox, hKW, hMW, hlt3⟩ hK
        have hfold : ys.foldl (fun n x => min 1000001 (n + waysV ws x.1.2)) 0 = waysV ws s := by
          rw [waysV_step ws M.words s hs0.out]
          have h := congrArg (fun (l : List (Int × ByteArray)) => l.foldl (fun n x => min 1000001 (n + waysV ws x.2)) 0) hS
          simp only [List.foldl_map] at h
          exact h
        rw [hfold] at hbox
        obtain ⟨es2, ck2, hm2, hsk2, hval2, hemp2⟩ := hMW
        obtain ⟨es3, ck3, hrun, hsk3, hval3, hold3, hnew3⟩ := run_mapUpdate_str (P := Tryz.prog) (T := 205) Tryz.underlying205 Tryz.underlying9 hm2 hsk2 s (.int .i64 (waysV ws s))
        have hc1 := box_cell hbox
        have hcm : W.cell? ⟨bm, 0, none⟩ = some (.map (some m)) := box_cell (hKW.blk Hbm.out hzm (by intro e; cases e; have := Hbm.out; rw [HMap.out.choose_spec.choose_spec.1] at this; cases this))
        have hlm := blk_lt hm2
        have hc2 : (W.putObj m (.map es3 ck3)).cell? ⟨w.heap.size, 0, none⟩ = some (.int .i64 (waysV ws s)) := by
          rw [World.cell?_of_block (World.putObj_heap_other (by dsimp only; omega))]; exact hc1
        have hK2 : (W.putObj m (.map es3 ck3)).heap[D]? = some (.deferred (some [])) := by rw [World.putObj_heap_other (by omega)]; exact hK
        have Hfin : Hid (Keep w.heap.size (some m) w ((W.putObj m (.map es3 ck3)).putObj D (.deferred none)) ∧ MapOk ws m ((W.putObj m (.map es3 ck3)).putObj D (.deferred none))) := Lib.hid (by
          refine ⟨(hKW.put _ (.inr rfl)).put _ (.inl (by omega)), es3, ck3, ?_, hsk3, ?_, ?_⟩
          · rw [World.putObj_heap_other (by omega)]; exact World.putObj_heap_same hlm
          · intro e he s' hk
            rcases hval3 e he with ⟨h1, h2⟩ | h1
            · rw [h1] at hk; cases hk; exact h2
            · exact hval2 e h1 s' hk
          · obtain ⟨e, he, hk⟩ := hemp2
            refine ⟨e, hold3 e he (fun h => ?_), hk⟩
            rw [hk] at h; cases h
            exact hs0.out rfl)
        have HK2 := Lib.hid hK2
        clear hbox hm2 hsk2 hval2 hemp2 hsk3 hval3 hold3 hnew3 hK hK2 hfold hS
        gi_wp2
        refine ⟨by simp, .inl ⟨_, _, rfl, run_takeDeferred HK2.out, ?_⟩⟩
        exact ⟨_, results_tmp rfl _ _ _, rfl, Hfin.out⟩
      case stop =>
        rintro D c' pre W _ _ h _
        exact h.elim
end Go.Proofs.YtfnibmcenjiodaaGreatDoor.M
namespace Go.Proofs.YtfnibmcenjiodaaGreatDoor.M
open Go.Sort Go.Shelf Go.RowKit Go.Maps Go.Proofs.YtfnibmcenjiodaaGreatDoorW.PrintWords Go.Proofs.YtfnibmcenjiodaaGreatDoorW.PrintLast Go.Proofs.YtfnibmcenjiodaaGreatDoorW.PrintMore
attribute [local go_sem] Oper.semAt_some
theorem cmpS_neg (a b : ByteArray) : cmpS a b < 0 ↔ a.toList < b.toList := by
  unfold cmpS
  rw [bytesLess_eq, bytesLess_eq]
  by_cases h : a.toList < b.toList
  · simp [h]
  · simp [h]; split <;> decide
theorem cmpS_zero (a b : ByteArray) : cmpS a b = 0 ↔ a.toList = b.toList := by
  unfold cmpS
  rw [bytesLess_eq, bytesLess_eq]
  by_cases h : a.toList < b.toList
  · simp [h]; intro e; rw [e] at h; exact List.lt_irrefl _ h
  · by_cases h2 : b.toList < a.toList
    · simp [h, h2]; intro e; rw [e] at h2; exact List.lt_irrefl _ h2
    · simp [h, h2]; exact List.le_antisymm (List.not_lt.1 h2) (List.not_lt.1 h)
theorem orI_neg (x y : Int) : orI x y < 0 ↔ x < 0 ∨ (x = 0 ∧ y < 0) := by unfold orI; split <;> omega
theorem orI_zero (x y : Int) : orI x y = 0 ↔ x = 0 ∧ y = 0 := by unfold orI; split <;> omega
theorem compI_neg (x y : Int) : compI x y < 0 ↔ x < y := by unfold compI; split <;> (try split) <;> omega
theorem compI_zero (x y : Int) : compI x y = 0 ↔ x = y := by unfold compI; split <;> (try split) <;> omega
theorem shI_neg (a b : ByteArray) : shI a b < 0 ↔ a.size < b.size ∨ (a.size = b.size ∧ a.toList < b.toList) := by
  unfold shI; rw [orI_neg, compI_neg, compI_zero, cmpS_neg, Int.ofNat_lt, Int.ofNat_inj]
theorem shI_zero (a b : ByteArray) : shI a b = 0 ↔ a = b := by
  unfold shI
  rw [orI_zero, compI_zero, cmpS_zero]
  constructor
  · rintro ⟨_, h⟩
    rw [Lib.toList_data, Lib.toList_data] at h
    exact ByteArray.ext (Array.toList_inj.1 h)
  · rintro rfl; exact ⟨rfl, rfl⟩
theorem ordI_neg (D : DataW Unit) (a b : ByteArray) : ordI D a b < 0 ↔ (txt D a).size < (txt D b).size ∨ ((txt D a).size = (txt D b).size ∧ ((txt D a).toList < (txt D b).toList ∨ (txt D a = txt D b ∧ a.toList < b.toList))) := by
  unfold ordI
  rw [orI_neg, shI_neg, shI_zero, cmpS_neg]
  constructor
  · rintro ((h | ⟨h1, h2⟩) | ⟨h1, h2⟩)
    · exact .inl h
    · exact .inr ⟨h1, .inl h2⟩
    · exact .inr ⟨by rw [h1], .inr ⟨h1, h2⟩⟩
  · rintro (h | ⟨h1, h2 | ⟨h2, h3⟩⟩)
    · exact .inl (.inl h)
    · exact .inl (.inr ⟨h1, h2⟩)
    · exact .inr ⟨h2, h3⟩
theorem ordI_irrefl (D : DataW Unit) (a : ByteArray) : ¬ ordI D a a < 0 := by
  rw [ordI_neg]
  rintro (h | ⟨_, h | ⟨_, h⟩⟩)
  · omega
  · exact List.lt_irrefl _ h
  · exact List.lt_irrefl _ h
theorem ordI_trans (D : DataW Unit) {a b c : ByteArray} (h1 : ordI D a b < 0) (h2 : ordI D b c < 0) : ordI D a c < 0 := by
  rw [ordI_neg] at h1 h2 ⊢
  rcases h1 with h1 | ⟨e1, h1⟩
  · rcases h2 with h2 | ⟨e2, _⟩
    · exact .inl (by omega)
    · exact .inl (by omega)
  · rcases h2 with h2 | ⟨e2, h2⟩
    · exact .inl (by omega)
    · refine .inr ⟨by omega, ?_⟩
      rcases h1 with h1 | ⟨f1, h1⟩
      · rcases h2 with h2 | ⟨f2, _⟩
        · exact .inl (List.lt_trans h1 h2)
        · exact .inl (by rw [← f2]; exact h1)
      · rcases h2 with h2 | ⟨f2, h2⟩
        · exact .inl (by rw [f1]; exact h2)
        · exact .inr ⟨f1.trans f2, List.lt_trans h1 h2⟩
abbrev bk (x : List UInt8) : ByteArray := ⟨x.toArray⟩
def bestP (D : DataW Unit) (pre : List (KeyOf D)) (x : KeyOf D) : Prop := x ∈ pre ∧ ∀ y ∈ pre, ¬ ordI D (bk y.1) (bk x.1) < 0
theorem bestP_turn {D : DataW Unit} {pre : List (KeyOf D)} {x y : KeyOf D} (h : bestP D pre x) (hl : ordI D (bk y.1) (bk x.1) < 0) : bestP D (pre ++ [y]) y := by
  refine ⟨by simp, fun z hz hlt => ?_⟩
  rcases List.mem_append.1 hz with hz | hz
  · exact h.2 z hz (ordI_trans D hlt hl)
  · rw [List.mem_singleton] at hz; subst hz; exact ordI_irrefl D _ hlt
theorem bestP_stay {D : DataW Unit} {pre : List (KeyOf D)} {x y : KeyOf D} (h : bestP D pre x) (hl : ¬ ordI D (bk y.1) (bk x.1) < 0) : bestP D (pre ++ [y]) x := by
  refine ⟨by simp [h.1], fun z hz => ?_⟩
  rcases List.mem_append.1 hz with hz | hz
  · exact h.2 z hz
  · rw [List.mem_singleton] at hz; subst hz; exact hl
theorem bestP_one {D : DataW Unit} (y : KeyOf D) : bestP D [y] y := ⟨by simp, fun z hz => by rw [List.mem_singleton] at hz; subst hz; exact ordI_irrefl D _⟩
theorem others_below {W W' : World} (h : Below W.heap.size W W') : KeepsOthers W W' := ⟨h.size, fun k _ hk _ => (h.block k (blk_lt hk)).trans hk⟩
theorem walks_below {W W' : World} (h : Below W.heap.size W W') : KeepsWalks W W' := ⟨h.size, fun k _ hk _ => (h.block k (blk_lt hk)).trans hk⟩
theorem below_putObj {B l : Nat} {w W : World} {o : Obj} (h : Below B w W) (hl : B ≤ l) : Below B w (W.putObj l o) := ⟨h.os, h.tape, h.output, by have := h.size; simp [World.putObj]; omega, fun k hk => (World.putObj_heap_other (by omega)).trans (h.block k hk)⟩
inductive FirstIs (D : DataW Unit) : ByteArray → Bool → Prop
  | none (h : ∀ x, has D (.string x) = false) : FirstIs D ⟨#[]⟩ false
  | some (x : KeyOf D) (h : ∀ y : KeyOf D, ¬ ordI D (bk y.1) (bk x.1) < 0) : FirstIs D (bk x.1) true
def FirstI (D : DataW Unit) (bt : Nat) (w : World) (pre : List (KeyOf D)) (W : World) : Prop :=
  ∃ s f, W.heap[w.heap.size]? = some (.cells #[.func (.func 137) #[] #[.pointer (some ⟨bt, 0, none⟩)]] 216 (0, 0)) ∧ W.heap[w.heap.size + 1]? = some (.cells #[.string s] 9 (0, 0)) ∧ W.heap[w.heap.size + 1 + 1]? = some (.cells #[.bool f] 4 (0, 0)) ∧ Below w.heap.size w W ∧ w.heap.size + 3 ≤ W.heap.size ∧
    ((pre = [] ∧ s = ⟨#[]⟩ ∧ f = false) ∨ (∃ x, bestP D pre x ∧ s = bk x.1 ∧ f = true))
set_option maxRecDepth 100000 in
set_option maxHeartbeats 8000000 in
theorem first_calls (D : DataW Unit) (Bm bt m n : Nat) (w : World) (hBm : Bm < w.heap.size) (hbt : bt < w.heap.size) (hcm : w.cell? ⟨Bm, 0, none⟩ = some (.map (some m))) (hct : w.cell? ⟨bt, 0, none⟩ = some (.map (some m))) (hT : TMap w m n D)
    (hk : ∀ x : KeyOf D, x.1.length ≤ maxLen) :
    Calls Tryz.prog 135 #[.func (.func 190) #[] #[.pointer (some ⟨Bm, 0, none⟩)], .func (.func 137) #[] #[.pointer (some ⟨bt, 0, none⟩)]] w fun e w' => ∃ s f, e = .returned (.tuple #[.string s, .bool f]) ∧ FirstIs D s f ∧ Below w.heap.size w w' := by
  refine (callsIn_wide (n := 9)).1 ?_
  refine callsIn_of_wp_marks Tryz.func135 rfl trivial ?_ rfl
  simp only [Tryz.ntmps135, List.size_toArray, List.length_cons, List.length_nil, Nat.reduceAdd, Nat.reduceSub, Array.replicate_succ, Array.replicate_zero, List.push_toArray, List.append_toArray, List.nil_append, List.cons_append]
  gi_wp2
  obtain ⟨wL, hwL⟩ : ∃ wL, wL = (((w.alloc (.cells #[.func (.func 137) #[] #[.pointer (some ⟨bt, 0, none⟩)]] 216)).alloc (.cells #[.string ⟨#[]⟩] 9)).alloc (.cells #[.bool false] 4)) := ⟨_, rfl⟩
  have hbL : Below w.heap.size w wL := by rw [hwL]; exact below_alloc (below2 _ _ _) _
  have hsz : wL.heap.size = w.heap.size + 3 := by rw [hwL]; simp only [World.size_alloc]
  have ho0 : wL.heap[w.heap.size]? = some (.cells #[.func (.func 137) #[] #[.pointer (some ⟨bt, 0, none⟩)]] 216 (0, 0)) := by rw [hwL]; exact blk_alloc (blk_alloc (blk_new w _) _) _
  have hs0 : wL.heap[w.heap.size + 1]? = some (.cells #[.string ⟨#[]⟩] 9 (0, 0)) := by rw [hwL]; exact blk_alloc (blk_new1 w _ _) _
  have hf0 : wL.heap[w.heap.size + 1 + 1]? = some (.cells #[.bool false] 4 (0, 0)) := by rw [hwL]; exact blk_new2 w _ _ _
  rw [← hwL]
  clear hwL
  refine wpIn_rangeFunc_ownG rfl (by decide) (gf := 190) (lb := #[.pointer (some ⟨Bm, 0, none⟩)]) rfl trivial (enters_of Tryz.func190 (by kernel_rfl) rfl) (w0 := wL)
    (keys_stops 8 (by decide) Bm m n D wL (by omega) ((hbL.cell (p := ⟨Bm, 0, none⟩) hBm).trans hcm) (map_below hT hbL)) (fun h k => h.trans k) walksK_b (Below.refl _ _) (fun _ => rfl)
    (FirstI D bt w)
    (fun _ _ _ => False)
    ?hI
    (fun _ _ _ _ _ hs _ _ => hs)
    ⟨_, _, ho0, hs0, hf0, hbL, by omega, .inl ⟨rfl, rfl, rfl⟩⟩
    (fun x => { tmps := #[.func (.func 190) #[] #[.pointer (some ⟨Bm, 0, none⟩)], .func (.func 137) #[] #[.pointer (some ⟨bt, 0, none⟩)], undef, .pointer (some ⟨w.heap.size, 0, none⟩), .string ⟨#[]⟩, .bool false, .pointer (some ⟨w.heap.size + 1, 0, none⟩), .pointer (some ⟨w.heap.size + 1 + 1, 0, none⟩), .string (bk x.1), .func (.func 190) #[] #[.pointer (some ⟨Bm, 0, none⟩)], .string (bk x.1), undef, undef, undef, undef, undef, undef, undef, undef, undef, undef, undef, undef], defers := [] }) ?assign ?body ?done ?stop
  case hI =>
    rintro pre X Y row ⟨s, f, h1, h2, h3, h4, h5, h6⟩ hg hr
    have hne : ∀ k, k < wL.heap.size → some k ≠ row := fun k hk e => by have := (hr k e.symm).1; omega
    refine ⟨s, f, (hg.block _ (blk_lt h1) (hne _ (by omega))).trans h1, (hg.block _ (blk_lt h2) (hne _ (by omega))).trans h2, (hg.block _ (blk_lt h3) (hne _ (by omega))).trans h3, ⟨hg.os.trans h4.os, hg.tape.trans h4.tape, hg.output.trans h4.output, Nat.le_trans h4.size hg.size, fun k hk => (hg.block k (Nat.lt_of_lt_of_le hk h4.size) (hne _ (by omega))).trans (h4.block k hk)⟩, Nat.le_trans h5 hg.size, h6⟩
  case assign =>
    intro l x W K hK
    gi_wp2
    exact hK
  case body =>
    rintro l pre x W ⟨s, f, h1, h2, h3, h4, h5, h6⟩ hlt
    have c1 := box_cell h1
    have c2 := box_cell h2
    have c3 := box_cell h3
    have f2 := box_free h2
    have f3 := box_free h3
    have H1 := Lib.hid h1
    have H2 := Lib.hid h2
    have H3 := Lib.hid h3
    have H4 := Lib.hid h4
    have fin : Hid (∀ (w2 : World) (a' : Act) (z : KeyOf D), Below W.heap.size W w2 → bestP D (pre ++ [x]) z → (w2.heap[w.heap.size + 1]? = some (.cells #[.string (bk z.1)] 9 (0, 0))) → (w2.heap[w.heap.size + 1 + 1]? = some (.cells #[.bool true] 4 (0, 0))) → ownPostG (w.heap.size + 3) KeepsWalks
        (FirstI D bt w) (fun _ _ _ => False) (pre ++ [x]) W Exit.normal a' w2) := Lib.hid (by
      intro w2 a' z hb hz g2 g3
      refine ⟨((others_below hb).from _), walks_below hb, _, _, (hb.block _ (blk_lt H1.out)).trans H1.out, g2, g3, H4.out.trans (hb.mono H4.out.size), Nat.le_trans h5 hb.size, .inr ⟨z, hz, rfl, rfl⟩⟩)
    have fin2 : Hid (∀ (w1 : World) (a' : Act), Below W.heap.size W w1 → bestP D (pre ++ [x]) x → ownPostG wL.heap.size KeepsWalks
        (FirstI D bt w) (fun _ _ _ => False) (pre ++ [x]) W Exit.normal a' ((w1.setCell ⟨w.heap.size + 1, 0, none⟩ (.string (bk x.1))).setCell ⟨w.heap.size + 1 + 1, 0, none⟩ (.bool true))) := Lib.hid (by
      intro w1 a' hb hz
      have hbl := blk_lt H1.out
      have b2 := (hb.block _ (blk_lt H2.out)).trans H2.out
      have b3 := (hb.block _ (blk_lt H3.out)).trans H3.out
      have e2 : ((w1.setCell ⟨w.heap.size + 1, 0, none⟩ (.string (bk x.1))).setCell ⟨w.heap.size + 1 + 1, 0, none⟩ (.bool true)).heap[w.heap.size + 1]? = some (.cells #[.string (bk x.1)] 9 (0, 0)) := by
        rw [Below.heap_setCell _ _ _ _ (by dsimp only; omega)]; exact box_put b2 _
      have e3 : ((w1.setCell ⟨w.heap.size + 1, 0, none⟩ (.string (bk x.1))).setCell ⟨w.heap.size + 1 + 1, 0, none⟩ (.bool true)).heap[w.heap.size + 1 + 1]? = some (.cells #[.bool true] 4 (0, 0)) := by
        refine box_put (v := .bool f) ?_ _
        rw [Below.heap_setCell _ _ _ _ (by dsimp only; omega)]; exact b3
      refine ⟨((others_below hb).from _).trans (((KeepsOthers.setCell _ _ _).trans (KeepsOthers.setCell _ _ _)).from _), (walks_below hb).trans ((KeepsWalks.setCell _ _ _).trans (KeepsWalks.setCell _ _ _)), _, _, ?_, e2, e3, ?_, ?_, .inr ⟨x, hz, rfl, rfl⟩⟩
      · rw [Below.heap_setCell _ _ _ _ (by dsimp only; omega), Below.heap_setCell _ _ _ _ (by dsimp only; omega)]
        exact (hb.block _ (blk_lt H1.out)).trans H1.out
      · exact ((H4.out.trans (hb.mono H4.out.size)).setCell (by dsimp only; omega) _).setCell (by dsimp only; omega) _
      · have := hb.size; simp [World.setCell]; omega)
    have hkx : (bk x.1).size ≤ maxLen := hk x
    rcases h6 with ⟨rfl, rfl, rfl⟩ | ⟨y, hy, rfl, rfl⟩
    · clear h1 h2 h3 h4
      gi_wp2
      refine ⟨fun _ h => (by cases h), ?_⟩
      gi_wp2
      exact fin2.out _ _ (Below.refl _ _) (bestP_one x)
    · have hky : (bk y.1).size ≤ maxLen := hk y
      have hTW : TMap W m n D := map_below hT h4
      have HTW := Lib.hid hTW
      clear h1 h2 h3 h4 hTW
      have Hct := Lib.hid ((H4.out.cell (p := ⟨bt, 0, none⟩) hbt).trans hct)
      gi_wp2_with fail
      refine ⟨trivial, ?_⟩
      refine (CallsIn.inRound l (callsIn_wide.2 (order_calls D bt m n (bk x.1) (bk y.1) _ Hct.out HTW.out hkx hky))).mono ?_
      rintro e w2 ⟨rfl, hb2⟩
      have HB2 := Lib.hid hb2
      have c2' := (hb2.cell (p := ⟨w.heap.size + 1, 0, none⟩) (by dsimp only; omega)).trans c2
      have c3' := (hb2.cell (p := ⟨w.heap.size + 1 + 1, 0, none⟩) (by dsimp only; omega)).trans c3
      have f2' := box_free ((hb2.block _ (blk_lt H2.out)).trans H2.out)
      have f3' := box_free ((hb2.block _ (blk_lt H3.out)).trans H3.out)
      clear c1 c2 c3 f2 f3 hb2
      dsimp only
      obtain ⟨q, hq⟩ : ∃ q, q = ordI D (bk x.1) (bk y.1) := ⟨_, rfl⟩
      by_cases hlt' : q < 0
      · have hlt2 := Lib.hid (hq ▸ hlt' : ordI D (bk x.1) (bk y.1) < 0)
        rw [← hq]; clear hq
        gi_wp2
        exact fin2.out _ _ HB2.out (bestP_turn hy hlt2.out)
      · have hq2 : Hid (ordI D (bk x.1) (bk y.1) < 0 → False) := Lib.hid (fun h => hlt' (hq ▸ h))
        rw [← hq]; clear hq
        gi_wp2
        exact fin.out _ _ y HB2.out (bestP_stay hy (show ¬ _ from hq2.out)) ((HB2.out.block _ (blk_lt H2.out)).trans H2.out) ((HB2.out.block _ (blk_lt H3.out)).trans H3.out)
  case done =>
    intro Dm xs W hDm hS ⟨s, f, h1, h2, h3, h4, h5, h6⟩ hmk
    have c2 := box_cell h2
    have c3 := box_cell h3
    have H4 := Lib.hid h4
    have HM := Lib.hid hmk
    clear h1 h2 h3 h4 hmk
    gi_wp2_with fail
    gi_region
    gi_wp2
    refine ⟨by simp, .inl ⟨_, _, rfl, run_takeDeferred (show W.drew.heap[Dm]? = _ from HM.out), ?_⟩⟩
    refine ⟨_, results_tmp2 rfl _ _ _, ?_⟩
    have hbl := H4.out.size
    have hfin : Below w.heap.size w (W.drew.putObj Dm (.deferred none)) := below_putObj (H4.out.drew) (by omega)
    rcases h6 with ⟨rfl, rfl, rfl⟩ | ⟨y, hy, rfl, rfl⟩
    · refine ⟨_, _, rfl, .none fun x => ?_, hfin⟩
      cases hx : has D (.string x)
      · rfl
      · exact absurd ((hS x).2 hx) (by simp)
    · refine ⟨_, _, rfl, .some y fun z => hy.2 z ?_, hfin⟩
      have h := (hS z.1).2 z.2
      obtain ⟨z', hz', e⟩ := List.mem_map.1 h
      rw [← Subtype.ext e]; exact hz'
  case stop =>
    intro Dm c pre W hDm _ hx
    exact hx.elim
end Go.Proofs.YtfnibmcenjiodaaGreatDoor.M
namespace Go.Proofs.YtfnibmcenjiodaaGreatDoor.M
open Go.Sort Go.Shelf Go.RowKit Go.Maps Go.Proofs.YtfnibmcenjiodaaGreatDoorW.PrintWords Go.Proofs.YtfnibmcenjiodaaGreatDoorW.PrintLast Go.Proofs.YtfnibmcenjiodaaGreatDoorW.PrintMore
def startStep (v : ByteArray) (D : DataW Unit) (x : ByteArray) : DataW Unit :=
  if startsB x v && decide (restOf x v ≠ ⟨#[]⟩) then reachD D (.map []) (restOf x v) x else D
def startD (ws : List ByteArray) : DataW Unit := ws.foldl (fun D v => ws.foldl (startStep v) D) (.map [])
def leadStep (E : DataW Unit) (a t : ByteArray) (D : DataW Unit) (x : ByteArray) : DataW Unit :=
  if startsB a x then reachD D E (restOf a x) t else if startsB x a then reachD D E (restOf x a) (t ++ restOf x a) else D
def doneE (E : DataW Unit) (a : ByteArray) : DataW Unit := E.put (kS a) (.lit (.bool true))
inductive Search (ws : List ByteArray) : DataW Unit → DataW Unit → ByteArray → Bool → Prop
  | none {D E : DataW Unit} {s : ByteArray} (h : FirstIs D s false) : Search ws D E ⟨#[]⟩ false
  | found {D E : DataW Unit} (h : FirstIs D ⟨#[]⟩ true) : Search ws D E (txt D ⟨#[]⟩) true
  | step {D E : DataW Unit} {a r : ByteArray} {b : Bool} (h : FirstIs D a true) (ha : a ≠ ⟨#[]⟩)
      (k : Search ws (ws.foldl (leadStep (doneE E a) a (txt D a)) (D.del (kS a))) (doneE E a) r b) : Search ws D E r b
theorem reachD_ind {I : DataW Unit → Prop} {D E : DataW Unit} {a t : ByteArray} (h : I D) (hp : flag E a = false → (has D (kS a) = false ∨ shI t (txt D a) < 0) → I (D.put (kS a) (.lit (.string t.data.toList)))) : I (reachD D E a t) := by
  unfold reachD
  split
  · rename_i hb
    unfold reachB at hb
    simp only [Bool.and_eq_true, Bool.not_eq_true', Bool.or_eq_true, decide_eq_true_eq] at hb
    exact hp hb.1 hb.2
  · exact h
theorem kS_ne {a b : ByteArray} (h : a ≠ b) : kS a ≠ kS b := by
  intro e
  apply h
  unfold kS at e
  injection e with e
  first
    | exact ByteArray.ext (Array.toList_inj.1 e)
    | (rw [Lib.toList_data, Lib.toList_data] at e; exact ByteArray.ext (Array.toList_inj.1 e))
theorem txt_put_same {D : DataW Unit} {a : ByteArray} (hD : IsMap D) (hk : WideAt.IsKeyLit (kS a)) (t : ByteArray) : txt (D.put (kS a) (.lit (.string t.data.toList))) a = t := by
  unfold txt
  rw [atKey_put_same hD hk]
theorem txt_put_other {D : DataW Unit} {a b : ByteArray} (h : a ≠ b) (d : DataW Unit) : txt (D.put (kS a) d) b = txt D b := by
  unfold txt
  rw [atKey_put_other (kS_ne h.symm)]
theorem txt_del_other {D : DataW Unit} {a b : ByteArray} (h : a ≠ b) : txt (D.del (kS a)) b = txt D b := by
  unfold txt
  rw [atKey_del_other (kS_ne h.symm)]
theorem isKey_kS (a : ByteArray) : WideAt.IsKeyLit (kS a) := by trivial
theorem flag_done_same {E : DataW Unit} (hE : IsMap E) (a : ByteArray) : flag (doneE E a) a = true := by
  unfold flag doneE
  rw [atKey_put_same hE (isKey_kS a)]
theorem flag_done_other {E : DataW Unit} {a b : ByteArray} (h : a ≠ b) : flag (doneE E a) b = flag E b := by
  unfold flag doneE
  rw [atKey_put_other (kS_ne h.symm)]
theorem isMap_put {D : DataW Unit} (hD : IsMap D) (k : Lit) (d : DataW Unit) : IsMap (D.put k d) := by
  obtain ⟨es, rfl⟩ := hD
  exact ⟨_, rfl⟩
theorem isMap_del {D : DataW Unit} (hD : IsMap D) (k : Lit) : IsMap (D.del k) := by
  obtain ⟨es, rfl⟩ := hD
  exact ⟨_, rfl⟩
inductive Lead (ws : List ByteArray) : ByteArray → ByteArray → Prop
  | start {v x : ByteArray} (hv : v ∈ ws) (hx : x ∈ ws) (h : startsB x v = true) (hne : restOf x v ≠ ⟨#[]⟩) : Lead ws (restOf x v) x
  | eat {a t x : ByteArray} (h : Lead ws a t) (hne : a ≠ ⟨#[]⟩) (hx : x ∈ ws) (hs : startsB a x = true) : Lead ws (restOf a x) t
  | grow {a t x : ByteArray} (h : Lead ws a t) (hne : a ≠ ⟨#[]⟩) (hx : x ∈ ws) (hs : startsB x a = true) : Lead ws (restOf x a) (t ++ restOf x a)
structure Sound (ws : List ByteArray) (D E : DataW Unit) : Prop where
  mapD : IsMap D
  mapE : IsMap E
  lead : ∀ a, has D (kS a) = true → Lead ws a (txt D a)
theorem Sound.reach {ws : List ByteArray} {D E : DataW Unit} {a t : ByteArray} (S : Sound ws D E) (h : Lead ws a t) : Sound ws (reachD D E a t) E :=
  reachD_ind (I := fun D => Sound ws D E) S fun _ _ => ⟨isMap_put S.mapD _ _, S.mapE, fun b hb => by
    by_cases e : a = b
    · subst e; rw [txt_put_same S.mapD (isKey_kS a)]; exact h
    · rw [has_put_other (kS_ne (Ne.symm e))] at hb
      rw [txt_put_other e]; exact S.lead b hb⟩
theorem Sound.foldl {ws : List ByteArray} {E : DataW Unit} (f : DataW Unit → ByteArray → DataW Unit) : ∀ (l : List ByteArray) (D : DataW Unit), (∀ x ∈ l, ∀ D, Sound ws D E → Sound ws (f D x) E) → Sound ws D E → Sound ws (l.foldl f D) E
  | [], _, _, h => h
  | x :: l, D, hf, h => Sound.foldl f l (f D x) (fun y hy => hf y (List.mem_cons_of_mem _ hy)) (hf x (List.mem_cons_self ..) D h)
theorem isMap_nil : IsMap (.map [] : DataW Unit) := ⟨_, rfl⟩
theorem sound_start (ws : List ByteArray) : Sound ws (startD ws) (.map []) := by
  unfold startD
  refine Sound.foldl _ ws _ (fun v hv D hD => Sound.foldl _ ws _ (fun x hx D hD => ?_) hD) ⟨isMap_nil, isMap_nil, fun a h => by cases h⟩
  unfold startStep
  split
  · rename_i h
    simp only [Bool.and_eq_true, decide_eq_true_eq] at h
    exact hD.reach (.start hv hx h.1 h.2)
  · exact hD
theorem sound_round {ws : List ByteArray} {D E : DataW Unit} {a : ByteArray} (S : Sound ws D E) (h : has D (kS a) = true) (hne : a ≠ ⟨#[]⟩) :
    Sound ws (ws.foldl (leadStep (doneE E a) a (txt D a)) (D.del (kS a))) (doneE E a) := by
  have L := S.lead a h
  refine Sound.foldl _ ws _ (fun x hx D' hD => ?_) ⟨isMap_del S.mapD _, isMap_put S.mapE _ _, fun b hb => ?_⟩
  · unfold leadStep
    split
    · exact hD.reach (.eat L hne hx ‹_›)
    · split
      · exact hD.reach (.grow L hne hx ‹_›)
      · exact hD
  · by_cases e : a = b
    · subst e; rw [has_del_same] at hb; cases hb
    · rw [has_del_other (kS_ne (Ne.symm e))] at hb
      rw [txt_del_other e]; exact S.lead b hb
theorem firstIs_has {D : DataW Unit} {a : ByteArray} (h : FirstIs D a true) : has D (kS a) = true := by
  cases h with
  | some x h => exact x.2
theorem search_sound {ws : List ByteArray} {D E : DataW Unit} {r : ByteArray} {b : Bool} (h : Search ws D E r b) (S : Sound ws D E) (hb : b = true) : Lead ws ⟨#[]⟩ r := by
  induction h with
  | none => cases hb
  | found h => exact S.lead _ (firstIs_has h)
  | step h ha _ ih => exact ih (sound_round S (firstIs_has h) ha) hb
def catW (l : List ByteArray) : List UInt8 := l.flatMap (fun x => x.data.toList)
theorem restOf_cat {s w : ByteArray} (h : startsB s w = true) : s.data.toList = w.data.toList ++ (restOf s w).data.toList := by
  have hp : w.data.toList <+: s.data.toList := List.isPrefixOf_iff_prefix.1 h
  obtain ⟨r, hr⟩ := hp
  unfold restOf Lib.trimPrefix
  rw [if_pos (show Lib.hasPrefix s.data.toList w.data.toList = true from h)]
  rw [← hr]; simp
theorem lead_rows {ws : List ByteArray} {a t : ByteArray} (h : Lead ws a t) : ∃ v x xs ys, v ∈ ws ∧ x ∈ ws ∧ v ≠ x ∧ (∀ z ∈ xs, z ∈ ws) ∧ (∀ z ∈ ys, z ∈ ws) ∧ ((t.data.toList = catW (x :: xs) ∧ t.data.toList = catW (v :: ys) ++ a.data.toList) ∨ (t.data.toList = catW (v :: xs) ∧ t.data.toList = catW (x :: ys) ++ a.data.toList)) := by
  induction h with
  | @start v x hv hx h hne =>
    refine ⟨v, x, [], [], hv, hx, ?_, by simp, by simp, .inl ⟨by simp [catW], ?_⟩⟩
    · rintro rfl
      apply hne
      have := restOf_cat h
      have h2 := congrArg List.length this
      rw [List.length_append] at h2
      have h3 : (restOf v v).data.toList = [] := List.eq_nil_of_length_eq_zero (by omega)
      exact ByteArray.ext (Array.toList_inj.1 h3)
    · rw [restOf_cat h]; simp [catW]
  | @eat a t w h hne hw hs ih =>
    obtain ⟨v, x, xs, ys, hv, hx, hvx, hxs, hys, hh⟩ := ih
    refine ⟨v, x, xs, ys ++ [w], hv, hx, hvx, hxs, fun z hz => ?_, ?_⟩
    · rcases List.mem_append.1 hz with hz | hz
      · exact hys z hz
      · rw [List.mem_singleton] at hz; subst hz; exact hw
    · have e := restOf_cat hs
      rcases hh with ⟨h1, h2⟩ | ⟨h1, h2⟩
      · exact .inl ⟨h1, by rw [h2, e]; simp [catW]⟩
      · exact .inr ⟨h1, by rw [h2, e]; simp [catW]⟩
  | @grow a t w h hne hw hs ih =>
    obtain ⟨v, x, xs, ys, hv, hx, hvx, hxs, hys, hh⟩ := ih
    have e := restOf_cat hs
    have et : (t ++ restOf w a).data.toList = t.data.toList ++ (restOf w a).data.toList := by simp
    refine ⟨v, x, ys ++ [w], xs, hv, hx, hvx, fun z hz => ?_, hxs, ?_⟩
    · rcases List.mem_append.1 hz with hz | hz
      · exact hys z hz
      · rw [List.mem_singleton] at hz; subst hz; exact hw
    · rcases hh with ⟨h1, h2⟩ | ⟨h1, h2⟩
      · exact .inr ⟨by rw [et, h2]; simp [catW, e], by rw [et, h1]⟩
      · exact .inl ⟨by rw [et, h2]; simp [catW, e], by rw [et, h1]⟩
end Go.Proofs.YtfnibmcenjiodaaGreatDoor.M
namespace Go.Proofs.YtfnibmcenjiodaaGreatDoor.M
open Go.Sort Go.Shelf Go.RowKit Go.Maps Go.Proofs.YtfnibmcenjiodaaGreatDoorW.PrintWords Go.Proofs.YtfnibmcenjiodaaGreatDoorW.PrintLast Go.Proofs.YtfnibmcenjiodaaGreatDoorW.PrintMore
def leT (a b : ByteArray) : Prop := a.size ≤ b.size ∧ (b.size = a.size → a.data.toList ≤ b.data.toList)
theorem leT_iff (a b : ByteArray) : leT a b ↔ ¬ shI b a < 0 := by
  rw [shI_neg, Lib.toList_data, Lib.toList_data, not_or, not_and, Nat.not_lt, List.not_lt]
  exact Iff.rfl
theorem leT_refl (a : ByteArray) : leT a a := ⟨Nat.le_refl _, fun _ => List.le_refl _⟩
theorem leT_trans {a b c : ByteArray} (h : leT a b) (k : leT b c) : leT a c := by
  refine ⟨Nat.le_trans h.1 k.1, fun e => ?_⟩
  have := h.1; have := k.1
  exact List.le_trans (h.2 (by omega)) (k.2 (by omega))
theorem leT_lt {a b : ByteArray} (h : shI a b < 0) : leT a b := by
  rw [shI_neg, Lib.toList_data, Lib.toList_data] at h
  rcases h with h | ⟨e, h⟩
  · exact ⟨by omega, fun e => by omega⟩
  · exact ⟨by omega, fun _ => List.le_of_lt h⟩
theorem leT_app (t m : ByteArray) : leT t (t ++ m) := by
  refine ⟨by simp, fun e => ?_⟩
  have hm : m.size = 0 := by rw [ByteArray.size_append] at e; omega
  have hm2 : m.data.toList = [] := List.eq_nil_of_length_eq_zero (by rw [data_length]; exact hm)
  have : (t ++ m).data.toList = t.data.toList := by simp [hm2]
  rw [this]; exact List.le_refl _
theorem lt_of_app : ∀ (b a m : List UInt8), b.length = a.length → b ++ m < a ++ m → b < a
  | [], [], m, _, h => absurd h (List.lt_irrefl _)
  | x :: b, y :: a, m, e, h => by
    rw [List.cons_append, List.cons_append, List.cons_lt_cons_iff] at h
    rw [List.cons_lt_cons_iff]
    rcases h with h | ⟨e1, h⟩
    · exact .inl h
    · exact .inr ⟨e1, lt_of_app b a m (by simpa using e) h⟩
theorem leT_cat {a b : ByteArray} (h : leT a b) (m : ByteArray) : leT (a ++ m) (b ++ m) := by
  refine ⟨by have := h.1; simp; omega, fun e => ?_⟩
  have e2 : b.size = a.size := by rw [ByteArray.size_append, ByteArray.size_append] at e; omega
  have := h.2 e2
  rw [← List.not_lt] at this ⊢
  intro hl
  apply this
  have ea : (a ++ m).data.toList = a.data.toList ++ m.data.toList := by simp
  have eb : (b ++ m).data.toList = b.data.toList ++ m.data.toList := by simp
  rw [ea, eb] at hl
  exact lt_of_app _ _ _ (by rw [data_length, data_length]; exact e2) hl
def okL (D E : DataW Unit) (T : ByteArray → ByteArray) (a t : ByteArray) : Prop := (flag E a = true ∧ leT (T a) t) ∨ (has D (kS a) = true ∧ leT (txt D a) t)
structure Far (ws : List ByteArray) (D E : DataW Unit) (T : ByteArray → ByteArray) : Prop where
  mapD : IsMap D
  mapE : IsMap E
  free : ∀ a, has D (kS a) = true → flag E a = false
  less : ∀ a b, flag E a = true → has D (kS b) = true → leT (T a) (txt D b)
theorem Far.reach {ws : List ByteArray} {D E : DataW Unit} {T : ByteArray → ByteArray} {a t : ByteArray} (F : Far ws D E T) (ht : ∀ b, flag E b = true → leT (T b) t) :
    Far ws (reachD D E a t) E T ∧ okL (reachD D E a t) E T a t ∧ ∀ b s, okL D E T b s → okL (reachD D E a t) E T b s := by
  cases hf : flag E a
  · by_cases hr : has D (kS a) = false ∨ shI t (txt D a) < 0
    · have e : reachD D E a t = D.put (kS a) (.lit (.string t.data.toList)) := by
        unfold reachD
        rw [if_pos]
        unfold reachB
        rcases hr with hr | hr <;> simp [hf, hr]
      rw [e]
      have hs := has_put_same F.mapD (isKey_kS a) (.lit (.string t.data.toList))
      have ex := txt_put_same F.mapD (isKey_kS a) t
      refine ⟨⟨isMap_put F.mapD _ _, F.mapE, fun b hb => ?_, fun b c hb hc => ?_⟩, .inr ⟨hs, by rw [ex]; exact leT_refl _⟩, fun b s hb => ?_⟩
      · by_cases e : a = b
        · subst e; exact hf
        · rw [has_put_other (kS_ne (Ne.symm e))] at hb; exact F.free b hb
      · by_cases e : a = c
        · subst e; rw [ex]; exact ht b hb
        · rw [has_put_other (kS_ne (Ne.symm e))] at hc; rw [txt_put_other e]; exact F.less b c hb hc
      · rcases hb with hb | ⟨hb, hl⟩
        · exact .inl hb
        · by_cases e : a = b
          · subst e
            refine .inr ⟨hs, ?_⟩
            rw [ex]
            rcases hr with hr | hr
            · rw [hr] at hb; cases hb
            · exact leT_trans (leT_lt hr) hl
          · exact .inr ⟨by rw [has_put_other (kS_ne (Ne.symm e))]; exact hb, by rw [txt_put_other e]; exact hl⟩
    · have e : reachD D E a t = D := by
        unfold reachD
        rw [if_neg]
        unfold reachB
        rw [not_or] at hr
        simp [hf, hr.1]
        have := hr.2; omega
      rw [e]
      rw [not_or] at hr
      exact ⟨F, .inr ⟨by simpa using hr.1, (leT_iff _ _).2 hr.2⟩, fun _ _ h => h⟩
  · have e : reachD D E a t = D := by unfold reachD reachB; rw [if_neg]; simp [hf]
    rw [e]
    exact ⟨F, .inl ⟨hf, ht a hf⟩, fun _ _ h => h⟩
theorem far_fold {ws : List ByteArray} {E : DataW Unit} {T : ByteArray → ByteArray} (f : DataW Unit → ByteArray → DataW Unit) (G : ByteArray → DataW Unit → Prop) :
    ∀ (l : List ByteArray) (D : DataW Unit), (∀ x ∈ l, ∀ D, Far ws D E T → Far ws (f D x) E T ∧ G x (f D x) ∧ ∀ b s, okL D E T b s → okL (f D x) E T b s) →
      (∀ x D D', G x D → (∀ b s, okL D E T b s → okL D' E T b s) → G x D') → Far ws D E T →
      Far ws (l.foldl f D) E T ∧ (∀ x ∈ l, G x (l.foldl f D)) ∧ ∀ b s, okL D E T b s → okL (l.foldl f D) E T b s
  | [], D, _, _, h => ⟨h, fun _ hx => absurd hx (by simp), fun _ _ h => h⟩
  | x :: l, D, hf, hG, h => by
    obtain ⟨h1, h2, h3⟩ := hf x (List.mem_cons_self ..) D h
    obtain ⟨k1, k2, k3⟩ := far_fold f G l (f D x) (fun y hy => hf y (List.mem_cons_of_mem _ hy)) hG h1
    refine ⟨k1, fun y hy => ?_, fun b s hb => k3 b s (h3 b s hb)⟩
    rcases List.mem_cons.1 hy with rfl | hy
    · exact hG y _ _ h2 k3
    · exact k2 y hy
structure Whole (ws : List ByteArray) (D E : DataW Unit) (T : ByteArray → ByteArray) : Prop where
  far : Far ws D E T
  emp : flag E ⟨#[]⟩ = false
  start : ∀ v ∈ ws, ∀ x ∈ ws, startsB x v = true → restOf x v ≠ ⟨#[]⟩ → okL D E T (restOf x v) x
  closed : ∀ a, flag E a = true → ∀ x ∈ ws, (startsB a x = true → okL D E T (restOf a x) (T a)) ∧ (startsB x a = true → okL D E T (restOf x a) (T a ++ restOf x a))
theorem okL_mono {D E : DataW Unit} {T : ByteArray → ByteArray} {a s t : ByteArray} (h : okL D E T a s) (k : leT s t) : okL D E T a t := by
  rcases h with ⟨h, l⟩ | ⟨h, l⟩
  · exact .inl ⟨h, leT_trans l k⟩
  · exact .inr ⟨h, leT_trans l k⟩
theorem whole_lead {ws : List ByteArray} {D E : DataW Unit} {T : ByteArray → ByteArray} (W : Whole ws D E T) {a t : ByteArray} (h : Lead ws a t) : okL D E T a t ∨ ∃ k, has D (kS k) = true ∧ leT (txt D k) t := by
  induction h with
  | start hv hx h hne => exact .inl (W.start _ hv _ hx h hne)
  | eat _ _ hx hs ih =>
    rcases ih with (⟨h1, h2⟩ | ⟨h1, h2⟩) | h
    · exact .inl (okL_mono ((W.closed _ h1 _ hx).1 hs) h2)
    · exact .inr ⟨_, h1, h2⟩
    · exact .inr h
  | grow _ _ hx hs ih =>
    rcases ih with (⟨h1, h2⟩ | ⟨h1, h2⟩) | ⟨k, h1, h2⟩
    · exact .inl (okL_mono ((W.closed _ h1 _ hx).2 hs) (leT_cat h2 _))
    · exact .inr ⟨_, h1, leT_trans h2 (leT_app _ _)⟩
    · exact .inr ⟨k, h1, leT_trans h2 (leT_app _ _)⟩
theorem first_le {D : DataW Unit} {a k : ByteArray} (h : FirstIs D a true) (hk : has D (kS k) = true) : leT (txt D a) (txt D k) := by
  cases h with
  | some x h =>
    rw [leT_iff]
    intro hl
    have h2 := h ⟨k.data.toList, hk⟩
    rw [ordI_neg] at h2
    rw [shI_neg] at hl
    apply h2
    rcases hl with hl | ⟨e, hl⟩
    · exact .inl hl
    · exact .inr ⟨e, .inl hl⟩
theorem rest_both {a x : ByteArray} (h : startsB a x = true) (k : startsB x a = true) : restOf a x = ⟨#[]⟩ ∧ restOf x a = ⟨#[]⟩ := by
  have h1 := restOf_size a x h
  have h2 := restOf_size x a k
  exact ⟨ByteArray.ext (Array.eq_empty_of_size_eq_zero (show (restOf a x).size = 0 by omega)), ByteArray.ext (Array.eq_empty_of_size_eq_zero (show (restOf x a).size = 0 by omega))⟩
theorem flag_nil (a : ByteArray) : flag (.map [] : DataW Unit) a = false := rfl
theorem whole_start (ws : List ByteArray) : Whole ws (startD ws) (.map []) id := by
  have hstep : ∀ v, ∀ x, ∀ D, Far ws D (.map []) id → Far ws (startStep v D x) (.map []) id ∧ (startsB x v = true → restOf x v ≠ ⟨#[]⟩ → okL (startStep v D x) (.map []) id (restOf x v) x) ∧ ∀ b s, okL D (.map []) id b s → okL (startStep v D x) (.map []) id b s := by
    intro v x D F
    unfold startStep
    split
    · rename_i h
      obtain ⟨h1, h2, h3⟩ := F.reach (a := restOf x v) (t := x) (fun b hb => by rw [flag_nil] at hb; cases hb)
      exact ⟨h1, fun _ _ => h2, h3⟩
    · rename_i h
      exact ⟨F, fun h1 h2 => absurd (by simp only [Bool.and_eq_true, decide_eq_true_eq]; exact ⟨h1, h2⟩) h, fun _ _ h => h⟩
  have hmono : ∀ (v x : ByteArray) (D D' : DataW Unit), (startsB x v = true → restOf x v ≠ ⟨#[]⟩ → okL D (.map []) id (restOf x v) x) → (∀ b s, okL D (.map []) id b s → okL D' (.map []) id b s) → (startsB x v = true → restOf x v ≠ ⟨#[]⟩ → okL D' (.map []) id (restOf x v) x) := fun v x D D' h k h1 h2 => k _ _ (h h1 h2)
  obtain ⟨h1, h2, _⟩ := far_fold (ws := ws) (E := .map []) (T := id) (fun D v => ws.foldl (startStep v) D) (fun v D => ∀ x ∈ ws, startsB x v = true → restOf x v ≠ ⟨#[]⟩ → okL D (.map []) id (restOf x v) x) ws (.map [])
    (fun v _ D F => far_fold (startStep v) (fun x D => startsB x v = true → restOf x v ≠ ⟨#[]⟩ → okL D (.map []) id (restOf x v) x) ws D (fun x _ D F => hstep v x D F) (hmono v) F)
    (fun v D D' h k x hx h1 h2 => k _ _ (h x hx h1 h2))
    ⟨isMap_nil, isMap_nil, fun a h => (by cases h), fun a b h => (by rw [flag_nil] at h; cases h)⟩
  exact ⟨h1, rfl, fun v hv x hx => h2 v hv x hx, fun a h => by rw [flag_nil] at h; cases h⟩
theorem whole_round {ws : List ByteArray} {D E : DataW Unit} {T : ByteArray → ByteArray} {a : ByteArray} (W : Whole ws D E T) (h : FirstIs D a true) (hne : a ≠ ⟨#[]⟩) :
    ∃ T', Whole ws (ws.foldl (leadStep (doneE E a) a (txt D a)) (D.del (kS a))) (doneE E a) T' := by
  have F := W.far
  have hD := firstIs_has h
  have hE := F.free a hD
  obtain ⟨T', hT'⟩ : ∃ T' : ByteArray → ByteArray, T' = fun b => if b = a then txt D a else T b := ⟨_, rfl⟩
  have Ta : T' a = txt D a := by rw [hT']; simp
  have To : ∀ b, b ≠ a → T' b = T b := fun b hb => by rw [hT']; simp [hb]
  have hfl : ∀ b, flag (doneE E a) b = true → b = a ∨ (b ≠ a ∧ flag E b = true) := fun b hb => by
    by_cases e : b = a
    · exact .inl e
    · rw [flag_done_other (Ne.symm e)] at hb; exact .inr ⟨e, hb⟩
  have hdl : ∀ b, has (D.del (kS a)) (kS b) = true → b ≠ a ∧ has D (kS b) = true := fun b hb => by
    by_cases e : b = a
    · subst e; rw [has_del_same] at hb; cases hb
    · rw [has_del_other (kS_ne e)] at hb; exact ⟨e, hb⟩
  have hle : ∀ b, flag (doneE E a) b = true → leT (T' b) (txt D a) := fun b hb => by
    rcases hfl b hb with rfl | ⟨e, hb⟩
    · rw [Ta]; exact leT_refl _
    · rw [To b e]; exact F.less b a hb hD
  have F1 : Far ws (D.del (kS a)) (doneE E a) T' := by
    refine ⟨isMap_del F.mapD _, isMap_put F.mapE _ _, fun b hb => ?_, fun b c hb hc => ?_⟩
    · obtain ⟨e, hb⟩ := hdl b hb
      rw [flag_done_other (Ne.symm e)]; exact F.free b hb
    · obtain ⟨e, hc⟩ := hdl c hc
      rw [txt_del_other (Ne.symm e)]
      exact leT_trans (hle b hb) (first_le h hc)
  have tr : ∀ b s, okL D E T b s → okL (D.del (kS a)) (doneE E a) T' b s := by
    rintro b s (⟨hb, l⟩ | ⟨hb, l⟩)
    · have e : b ≠ a := by rintro rfl; rw [hE] at hb; cases hb
      exact .inl ⟨by rw [flag_done_other (Ne.symm e)]; exact hb, by rw [To b e]; exact l⟩
    · by_cases e : b = a
      · subst e; exact .inl ⟨flag_done_same F.mapE b, by rw [Ta]; exact l⟩
      · exact .inr ⟨by rw [has_del_other (kS_ne e)]; exact hb, by rw [txt_del_other (Ne.symm e)]; exact l⟩
  obtain ⟨k1, k2, k3⟩ := far_fold (ws := ws) (E := doneE E a) (T := T') (leadStep (doneE E a) a (txt D a)) (fun x D' => (startsB a x = true → okL D' (doneE E a) T' (restOf a x) (txt D a)) ∧ (startsB x a = true → okL D' (doneE E a) T' (restOf x a) (txt D a ++ restOf x a))) ws (D.del (kS a))
    (fun x hx D' F' => by
      unfold leadStep
      split
      · rename_i h1
        obtain ⟨r1, r2, r3⟩ := F'.reach (a := restOf a x) (t := txt D a) hle
        refine ⟨r1, ⟨fun _ => r2, fun h2 => ?_⟩, r3⟩
        obtain ⟨e1, e2⟩ := rest_both h1 h2
        rw [e2]
        have e3 : txt D a ++ (⟨#[]⟩ : ByteArray) = txt D a := ByteArray.append_empty
        rw [e3]
        rw [e1] at r2 ⊢
        exact r2
      · rename_i h1
        split
        · rename_i h2
          obtain ⟨r1, r2, r3⟩ := F'.reach (a := restOf x a) (t := txt D a ++ restOf x a) (fun b hb => leT_trans (hle b hb) (leT_app _ _))
          exact ⟨r1, ⟨fun h => absurd h h1, fun _ => r2⟩, r3⟩
        · rename_i h2
          exact ⟨F', ⟨fun h => absurd h h1, fun h => absurd h h2⟩, fun _ _ h => h⟩)
    (fun x D1 D2 hG k => ⟨fun h => k _ _ (hG.1 h), fun h => k _ _ (hG.2 h)⟩) F1
  refine ⟨T', k1, by rw [flag_done_other hne]; exact W.emp, fun v hv x hx h1 h2 => k3 _ _ (tr _ _ (W.start v hv x hx h1 h2)), fun b hb x hx => ?_⟩
  rcases hfl b hb with rfl | ⟨e, hb⟩
  · rw [Ta]; exact k2 x hx
  · rw [To b e]
    exact ⟨fun h1 => k3 _ _ (tr _ _ ((W.closed b hb x hx).1 h1)), fun h1 => k3 _ _ (tr _ _ ((W.closed b hb x hx).2 h1))⟩
theorem search_least {ws : List ByteArray} {D E : DataW Unit} {r : ByteArray} {b : Bool} (h : Search ws D E r b) : ∀ T, Whole ws D E T → ∀ t, Lead ws ⟨#[]⟩ t → b = true ∧ leT r t := by
  induction h with
  | none h =>
    intro T W t L
    cases h with
    | none h =>
      rcases whole_lead W L with (⟨h1, _⟩ | ⟨h1, _⟩) | ⟨k, h1, _⟩
      · rw [W.emp] at h1; cases h1
      · exact absurd h1 (by rw [show kS ⟨#[]⟩ = Lit.string ByteArray.empty.data.toList from rfl, h]; simp)
      · exact absurd h1 (by rw [show kS k = Lit.string k.data.toList from rfl, h]; simp)
  | found h =>
    intro T W t L
    refine ⟨rfl, ?_⟩
    rcases whole_lead W L with (⟨h1, _⟩ | ⟨h1, h2⟩) | ⟨k, h1, h2⟩
    · rw [W.emp] at h1; cases h1
    · exact h2
    · exact leT_trans (first_le h h1) h2
  | step h ha _ ih =>
    intro T W t L
    obtain ⟨T', W'⟩ := whole_round W h ha
    exact ih T' W' t L
end Go.Proofs.YtfnibmcenjiodaaGreatDoor.M
namespace Go.Proofs.YtfnibmcenjiodaaGreatDoor.M
open Go.Sort Go.Shelf Go.RowKit Go.Maps Go.Proofs.YtfnibmcenjiodaaGreatDoorW.PrintWords Go.Proofs.YtfnibmcenjiodaaGreatDoorW.PrintLast Go.Proofs.YtfnibmcenjiodaaGreatDoorW.PrintMore
theorem leT_pre {t s : ByteArray} {m : List UInt8} (h : s.data.toList = t.data.toList ++ m) : leT t s := by
  have e : s = t ++ ⟨m.toArray⟩ := ByteArray.ext (Array.toList_inj.1 (by rw [h]; simp))
  rw [e]; exact leT_app _ _
theorem catW_cons (x : ByteArray) (l : List ByteArray) : catW (x :: l) = x.data.toList ++ catW l := by simp [catW]
theorem startsB_of {s w : ByteArray} (h : w.data.toList <+: s.data.toList) : startsB s w = true := List.isPrefixOf_iff_prefix.2 h
theorem lead_on {ws : List ByteArray} : ∀ (n : Nat) (a t : ByteArray) (zs us : List ByteArray), zs.length + us.length ≤ n → Lead ws a t → (∀ z ∈ zs, z ∈ ws) → (∀ z ∈ us, z ∈ ws) → a.data.toList ++ catW zs = catW us →
    ∀ s : ByteArray, s.data.toList = t.data.toList ++ catW zs → ∃ t', Lead ws ⟨#[]⟩ t' ∧ leT t' s := by
  intro n
  induction n with
  | zero =>
    intro a t zs us hn L _ _ h s hs
    obtain rfl : us = [] := List.eq_nil_of_length_eq_zero (by omega)
    have ha : a.data.toList = [] := (List.append_eq_nil_iff.1 (show _ = [] from h)).1
    have ha2 : a = ⟨#[]⟩ := ByteArray.ext (Array.toList_inj.1 ha)
    subst ha2
    exact ⟨t, L, leT_pre hs⟩
  | succ n ih =>
    intro a t zs us hn L hz hu h s hs
    by_cases ha : a = ⟨#[]⟩
    · subst ha; exact ⟨t, L, leT_pre hs⟩
    · cases us with
      | nil =>
        have ha : a.data.toList = [] := (List.append_eq_nil_iff.1 (show _ = [] from h)).1
        exact absurd (ByteArray.ext (Array.toList_inj.1 ha)) ‹_›
      | cons u us =>
        rw [catW_cons] at h
        have hu1 := hu u (List.mem_cons_self ..)
        have hu2 : ∀ z ∈ us, z ∈ ws := fun z hz => hu z (List.mem_cons_of_mem _ hz)
        rcases Nat.le_total u.data.toList.length a.data.toList.length with hl | hl
        · have hp : u.data.toList <+: a.data.toList := List.prefix_of_prefix_length_le ⟨_, h.symm⟩ ⟨_, rfl⟩ hl
          have hb := startsB_of hp
          have e := restOf_cat hb
          rw [e, List.append_assoc] at h
          exact ih _ t zs us (by simp at hn; omega) (.eat L ha hu1 hb) hz hu2 (List.append_cancel_left h) s hs
        · have hp : a.data.toList <+: u.data.toList := List.prefix_of_prefix_length_le ⟨_, h⟩ ⟨_, rfl⟩ hl
          have hb := startsB_of hp
          have e := restOf_cat hb
          rw [e, List.append_assoc] at h
          have h2 := List.append_cancel_left h
          exact ih _ (t ++ restOf u a) us zs (by simp at hn; omega) (.grow L ha hu1 hb) hu2 hz h2.symm s (by rw [hs, h2]; simp)
theorem rows_lead {ws : List ByteArray} (hne : ∀ w ∈ ws, w ≠ ⟨#[]⟩) : ∀ (xs ys : List ByteArray), (∀ z ∈ xs, z ∈ ws) → (∀ z ∈ ys, z ∈ ws) → xs ≠ ys → catW xs = catW ys →
    ∀ s : ByteArray, s.data.toList = catW xs → ∃ t', Lead ws ⟨#[]⟩ t' ∧ leT t' s := by
  have hcons : ∀ (x : ByteArray) (l : List ByteArray), x ∈ ws → catW (x :: l) ≠ [] := fun x l hx h => by
    rw [catW_cons] at h
    exact hne x hx (ByteArray.ext (Array.toList_inj.1 (List.append_eq_nil_iff.1 h).1))
  have main : ∀ (x y : ByteArray) (xs ys : List ByteArray), x ∈ ws → y ∈ ws → (∀ z ∈ xs, z ∈ ws) → (∀ z ∈ ys, z ∈ ws) → x ≠ y → y.data.toList.length ≤ x.data.toList.length → catW (x :: xs) = catW (y :: ys) → ∀ s : ByteArray, s.data.toList = catW (x :: xs) → ∃ t', Lead ws ⟨#[]⟩ t' ∧ leT t' s := by
    intro x y xs ys hx hy hxs hys hxy hl h s hs
    rw [catW_cons, catW_cons] at h
    have hp : y.data.toList <+: x.data.toList := List.prefix_of_prefix_length_le ⟨_, h.symm⟩ ⟨_, rfl⟩ hl
    have hb := startsB_of hp
    have e := restOf_cat hb
    have hr : restOf x y ≠ ⟨#[]⟩ := fun h => hxy (by rw [h] at e; exact ByteArray.ext (Array.toList_inj.1 (by rw [e]; simp)))
    rw [e, List.append_assoc] at h
    exact lead_on _ _ _ xs ys (Nat.le_refl _) (.start hy hx hb hr) hxs hys (List.append_cancel_left h) s (by rw [hs, catW_cons])
  intro xs
  induction xs with
  | nil =>
    intro ys _ hys hn h
    cases ys with
    | nil => exact absurd rfl hn
    | cons y ys => exact absurd h.symm (hcons y ys (hys y (List.mem_cons_self ..)))
  | cons x xs ih =>
    intro ys hxs hys hn h s hs
    have hx := hxs x (List.mem_cons_self ..)
    have hxs' : ∀ z ∈ xs, z ∈ ws := fun z hz => hxs z (List.mem_cons_of_mem _ hz)
    cases ys with
    | nil => exact absurd h (hcons x xs hx)
    | cons y ys =>
      have hy := hys y (List.mem_cons_self ..)
      have hys' : ∀ z ∈ ys, z ∈ ws := fun z hz => hys z (List.mem_cons_of_mem _ hz)
      by_cases e : x = y
      · subst e
        rw [catW_cons, catW_cons] at h
        obtain ⟨t', L, hl⟩ := ih ys hxs' hys' (fun e => hn (by rw [e])) (List.append_cancel_left h) ⟨(catW xs).toArray⟩ (by simp)
        refine ⟨t', L, leT_trans hl ?_⟩
        have h1 : (catW xs).length ≤ s.data.toList.length := by rw [hs, catW_cons]; simp
        have h2 : 0 < x.data.toList.length := List.length_pos_iff.2 (fun h => hne x hx (ByteArray.ext (Array.toList_inj.1 h)))
        have h3 : s.data.toList.length = x.data.toList.length + (catW xs).length := by rw [hs, catW_cons, List.length_append]
        rw [data_length] at h3
        have h4 : (⟨(catW xs).toArray⟩ : ByteArray).size = (catW xs).length := by show (catW xs).toArray.size = _; simp
        exact ⟨by omega, fun e => by omega⟩
      · rcases Nat.le_total y.data.toList.length x.data.toList.length with hl | hl
        · exact main x y xs ys hx hy hxs' hys' e hl h s hs
        · exact main y x ys xs hy hx hys' hxs' (Ne.symm e) hl h.symm s (by rw [hs, h])
end Go.Proofs.YtfnibmcenjiodaaGreatDoor.M
namespace Go.Proofs.YtfnibmcenjiodaaGreatDoor.M
open Go.Sort Go.Shelf Go.RowKit Go.Proofs.YtfnibmcenjiodaaGreatDoorW.PrintWords Go.Proofs.YtfnibmcenjiodaaGreatDoorW.PrintLast Go.Proofs.YtfnibmcenjiodaaGreatDoorW.PrintMore
attribute [local go_sem] Oper.semAt_some
theorem push_set (a : Array Obj) (o o' : Obj) : (a.push o).setIfInBounds a.size o' = a.push o' := by
  apply Array.ext_getElem?
  intro i
  rw [Array.getElem?_setIfInBounds, Array.getElem?_push, Array.getElem?_push]
  by_cases h : a.size = i
  · subst h; simp
  · rw [if_neg h, if_neg (Ne.symm h), if_neg (Ne.symm h)]
theorem putObj_alloc (W : World) (o o' : Obj) : (W.alloc o).putObj W.heap.size o' = W.alloc o' := by
  show ({ W with heap := (W.heap.push o).setIfInBounds W.heap.size o' } : World) = { W with heap := W.heap.push o' }
  rw [push_set]
theorem run_insert_first {P : Program} {T K E : TypeId} (hT : P.underlying T = some (.map K E)) (hK : P.underlying K = some .string) (W : World) (s : ByteArray) (v : Value) :
    (Instr.mapUpdate T (.map (some W.heap.size)) (.string s) v).run P (W.alloc (.map #[] 0)) = .ok () (W.alloc (.map #[{ key := .string s, val := v, born := 0 }] 1)) := by
  have hm : (W.alloc (.map #[] 0)).heap[W.heap.size]? = some (.map #[] 0) := blk_new W _
  unfold Instr.mapUpdate
  simp only [Sem.run_bind, run_underlying hT, Result.andThen, getObj_map hm, run_checkKey_str hK]
  rw [show (Instr.findKey K (.string s) (#[] : Array MapEntry).toList).run P (W.alloc (.map #[] 0)) = .ok none (W.alloc (.map #[] 0)) from by simp [Instr.findKey, run_underlying hK, Result.andThen, Instr.findNow]]
  simp only [setObj_map _ hm]
  rw [putObj_alloc]
  rfl
set_option maxRecDepth 100000 in
set_option maxHeartbeats 1000000 in
theorem counter_calls (A : Option Addr) (c : Nat) (ws : List ByteArray) (w : World) (hC : Kd.C Kd.string w A ws.length ws) (hw : ∀ x ∈ ws, 1 ≤ x.size) :
    Calls Tryz.prog 69 #[.agg #[.slice A ws.length c]] w fun e w' => e = .returned (.func (.func 116) #[] #[.pointer (some ⟨w.heap.size + 1 + 1, 0, none⟩), .pointer (some ⟨w.heap.size, 0, none⟩), .pointer (some ⟨w.heap.size + 1 + 1 + 1, 0, none⟩)]) ∧
      Made ws A c (w.heap.size + 1 + 1) w.heap.size (w.heap.size + 1 + 1 + 1) (w.heap.size + 1) w' ∧ MapOk ws (w.heap.size + 1) w' ∧ Below w.heap.size w w' := by
  have hmm := @run_makeMap Tryz.prog
  have hins := run_insert_first (P := Tryz.prog) (T := 205) Tryz.underlying205 Tryz.underlying9 (w.alloc (.cells #[.slice A ws.length c] 126)) ⟨#[]⟩ (.int .i64 1)
  rw [World.size_alloc] at hins
  go_enter Tryz.func69, Tryz.ntmps69
  go_wp2
  go_ret
  have hm := blk_alloc (blk_alloc (blk_new1 w (.cells #[.slice A ws.length c] 126) (.map #[{ key := .string ⟨#[]⟩, val := .int .i64 1, born := 0 }] 1)) (.cells #[.map (some (w.heap.size + 1))] 205))
    (.cells #[.func (.func 116) #[] #[.pointer (some ⟨w.heap.size + 1 + 1, 0, none⟩), .pointer (some ⟨w.heap.size, 0, none⟩), .pointer (some ⟨w.heap.size + 1 + 1 + 1, 0, none⟩)]] 129)
  refine ⟨rfl, ⟨hw, blk_alloc (blk_new2 w _ _ _) _, blk_alloc (blk_alloc (blk_alloc (blk_new w _) _) _) _, ?_, Kd.C_alloc (Kd.C_alloc (Kd.C_alloc (Kd.C_alloc hC _) _) _) _, ?_⟩, ?_, below_alloc (below_alloc (below2 _ _ _) _) _⟩
  · have := blk_new2 (w.alloc (.cells #[.slice A ws.length c] 126)) (.map #[{ key := .string ⟨#[]⟩, val := .int .i64 1, born := 0 }] 1) (.cells #[.map (some (w.heap.size + 1))] 205) (.cells #[.func (.func 116) #[] #[.pointer (some ⟨w.heap.size + 1 + 1, 0, none⟩), .pointer (some ⟨w.heap.size, 0, none⟩), .pointer (some ⟨w.heap.size + 1 + 1 + 1, 0, none⟩)]] 129)
    rwa [World.size_alloc] at this
  · exact ⟨_, _, hm⟩
  · refine ⟨_, _, hm, ?_, ?_, ?_⟩
    · intro e he; simp at he; subst he; exact ⟨_, rfl⟩
    · intro e he s hs; simp at he; subst he; cases hs; rfl
    · exact ⟨{ key := .string ⟨#[]⟩, val := .int .i64 1, born := 0 }, by simp, rfl⟩
def givenE (l : List ByteArray) (s : ByteArray) : Int := if codeOk l then (if 250 < s.size then 112 else if isSigns s then 0 else 112) else 110
set_option maxHeartbeats 1000000 in
theorem given_calls (A : Option Addr) (c : Nat) (l : List ByteArray) (s : ByteArray) (w : World) (hr : Kd.C Kd.string w A l.length l) (hsz : ∀ x ∈ l, x.size ≤ 9223372036854775807) (hs : s.size ≤ 9223372036854775807) :
    Calls Tryz.prog 68 #[.agg #[.slice A l.length c], .string s] w fun e w' => ∃ v, e = .returned (.tuple #[.agg #[v], .int .i64 (givenE l s)]) ∧ (givenE l s = 0 → v = .slice A l.length c) ∧ (∃ A n c, v = .slice A n c) ∧ Below w.heap.size w w' := by
  go_enter Tryz.func68, Tryz.ntmps68
  go_wp2_with fail
  refine (wire_Check A c l _ (Kd.C_alloc (Kd.C_alloc hr _) _) hsz).mono ?_
  rintro e w1 ⟨rfl, hb⟩
  have HX := Lib.hid (blk_below (blk_alloc (blk_new w (.cells #[.slice A l.length c] 24)) (.cells #[.slice none 0 0] 126)) hb)
  have HY := Lib.hid (blk_below (blk_new1 w (.cells #[.slice A l.length c] 24) (.cells #[.slice none 0 0] 126)) hb)
  have HB := Lib.hid (below_step (below2 w (.cells #[.slice A l.length c] 24) (.cells #[.slice none 0 0] 126)) hb)
  have hcx := box_cell HX.out
  have hcy := box_cell HY.out
  have hfy := box_free HY.out
  have hlt := blk_lt HY.out
  clear hb hr
  cases hok : codeOk l
  · have hE : checkE l = 110 := by simp [checkE, hok]
    rw [hE]
    clear hE
    go_wp2
    refine bodyPost_ret (v := .tuple #[.agg #[.slice none 0 0], .int .i64 110]) (by simp [results, Tryz.results68, go_sem, hcy]) rfl ?_
    exact ⟨.slice none 0 0, by simp [givenE, hok], by simp [givenE, hok], ⟨_, _, _, rfl⟩, HB.out.setCell (by simp) _⟩
  have hE : checkE l = 0 := by simp [checkE, hok]
  rw [hE]
  clear hE
  by_cases hbig : 250 < s.size
  · go_wp2
    refine bodyPost_ret (v := .tuple #[.agg #[.slice none 0 0], .int .i64 112]) (by simp [results, Tryz.results68, go_sem, hcy]) rfl ?_
    exact ⟨.slice none 0 0, by simp [givenE, hok, hbig], by simp [givenE, hok, hbig], ⟨_, _, _, rfl⟩, HB.out.setCell (by simp) _⟩
  have hbg : decide (250 < s.size) = false := by simpa using hbig
  go_wp2_with fail
  refine (wire_signs s w1 hs).mono ?_
  rintro e w2 ⟨rfl, hb2⟩
  have hcx2 := pw_cell_below hb2 hcx
  have HY2 := Lib.hid (blk_below HY.out hb2)
  have hcy2 := box_cell HY2.out
  have hfy2 := box_free HY2.out
  have HB2 := Lib.hid (below_step HB.out hb2)
  have hlt2 := blk_lt HY2.out
  clear hb2 hcx hcy hfy hlt
  cases hsg : isSigns s
  · go_wp2
    refine bodyPost_ret (v := .tuple #[.agg #[.slice none 0 0], .int .i64 112]) (by simp [results, Tryz.results68, go_sem, hcy2]) rfl ?_
    exact ⟨.slice none 0 0, by simp [givenE, hok, hsg], by simp [givenE, hok, hsg], ⟨_, _, _, rfl⟩, HB2.out.setCell (by simp) _⟩
  · go_wp2
    refine bodyPost_ret (v := .tuple #[.agg #[.slice A l.length c], .int .i64 0]) (by simp [results, Tryz.results68, go_sem, hcy2]) rfl ?_
    exact ⟨_, by simp [givenE, hok, hsg, hbig], fun _ => rfl, ⟨_, _, _, rfl⟩, HB2.out.setCell (by simp) _⟩
def countR (l : List ByteArray) (s : ByteArray) : Int × Int :=
  if givenE l s = 0 then (if 1000000 < waysV l s then (0, 4) else (waysV l s, 0)) else (0, givenE l s)
theorem givenE_ok {l : List ByteArray} {s : ByteArray} (h : givenE l s = 0) : codeOk l = true := by
  unfold givenE at h
  cases hok : codeOk l
  · rw [hok] at h; simp at h
  · rfl
theorem givenE_cases (l : List ByteArray) (s : ByteArray) : givenE l s = 0 ∨ givenE l s = 110 ∨ givenE l s = 112 := by
  unfold givenE; split
  · split
    · simp
    · split <;> simp
  · simp
set_option maxHeartbeats 1000000 in
theorem wire_Count (A : Option Addr) (c : Nat) (l : List ByteArray) (s : ByteArray) (w : World) (hr : Kd.C Kd.string w A l.length l) (hsz : ∀ x ∈ l, x.size ≤ 9223372036854775807) (hs : s.size ≤ 9223372036854775807) :
    Calls Tryz.prog 18 #[.agg #[.slice A l.length c], .string s] w fun e w' => e = .returned (.tuple #[.int .i64 (countR l s).1, .int .i64 (countR l s).2]) ∧ Below w.heap.size w w' := by
  go_enter Tryz.func18, Tryz.ntmps18
  go_wp2_with fail
  refine (given_calls A c l s _ (Kd.C_alloc hr _) hsz hs).mono ?_
  rintro e w1 ⟨v, rfl, hv, ⟨A', n', c', rfl⟩, hb⟩
  have HB := Lib.hid (below_step (below1 w _) hb)
  have HR := Lib.hid (Kd.C_below hr HB.out)
  clear hb hr
  rcases givenE_cases l s with hg | hg | hg
  · have hv' := hv hg
    simp only [Value.slice.injEq] at hv'
    obtain ⟨h1, h2, h3⟩ := hv'
    subst A' n' c'
    have hw := Lib.hid (fun x hx => (codeOk_words (givenE_ok hg) x hx).1)
    have HG := Lib.hid hg
    rw [hg]
    clear hv hg
    go_wp2_with fail
    refine (counter_calls A c l _ (Kd.C_alloc HR.out _) hw.out).mono ?_
    rintro e w2 ⟨rfl, hM, hMap, hb2⟩
    simp only [World.size_alloc] at hM hMap
    go_wp2_with fail
    refine (count_calls hM (s.size + 1) s w2 (by omega) (Keep.refl _ _ _) hMap).mono ?_
    rintro e w3 ⟨rfl, hk3, hm3⟩
    have HB3 : Hid (Below w.heap.size w w3) := Lib.hid (by
      have h1 : Below w.heap.size w w2 := below_step (below_alloc HB.out _) hb2
      have h2 := HB.out.size
      exact h1.trans (hk3.lose h1.size (fun k e => by cases e; omega)))
    clear hM hMap hb2 hk3 hm3
    by_cases hbig : 1000000 < waysV l s
    · go_wp2
      go_ret2
      exact ⟨by simp [countR, HG.out, hbig], HB3.out⟩
    · have hR : Hid (countR l s = (waysV l s, 0)) := Lib.hid (by unfold countR; rw [if_pos HG.out, if_neg hbig])
      go_wp2
      go_ret2
      exact ⟨by rw [hR.out]; rfl, HB3.out⟩
  all_goals
    have HG := Lib.hid hg
    rw [hg]
    clear hv hg
    go_wp2
    go_ret2
    exact ⟨by simp [countR, HG.out], below_alloc HB.out _⟩
end Go.Proofs.YtfnibmcenjiodaaGreatDoor.M
