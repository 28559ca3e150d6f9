/- Walks of the key's heads, its counter, and of wire.given and wire.Count. No statement of the seat is proved here. -/
import Derived.Test.YtfnibmcenjiodaaGreatDoorM6
import Derived.Test.YtfnibmcenjiodaaGreatDoorM7
namespace Go.Proofs.YtfnibmcenjiodaaGreatDoor.M
open Go.Sort Go.Shelf Go.RowKit Go.Proofs.YtfnibmcenjiodaaGreatDoorW.PrintWords Go.Proofs.YtfnibmcenjiodaaGreatDoorW.PrintLast Go.Proofs.YtfnibmcenjiodaaGreatDoorW.PrintMore
attribute [local go_sem] Oper.semAt_some min2_int min_two

/-- What is left of signs behind a word that they begin with. -/
def restOf (s w : ByteArray) : ByteArray := ⟨(Lib.trimPrefix s.data.toList w.data.toList).toArray⟩
def startsB (s w : ByteArray) : Bool := Lib.hasPrefix s.data.toList w.data.toList
def headAt (ws : List ByteArray) (s : ByteArray) (j : Nat) : List (Int × ByteArray) :=
  if startsB s (rdOf ByteArray.empty ws j) then [((j : Int) + 1, restOf s (rdOf ByteArray.empty ws j))] else []
/-- The heads that signs have among the first k words. -/
def headsTo (ws : List ByteArray) (s : ByteArray) (k : Nat) : List (Int × ByteArray) := (List.range k).flatMap (headAt ws s)
def headsL (ws : List ByteArray) (s : ByteArray) : List (Int × ByteArray) := headsTo ws s ws.length
theorem headsTo_succ (ws : List ByteArray) (s : ByteArray) (k : Nat) : headsTo ws s (k + 1) = headsTo ws s k ++ headAt ws s k := by
  simp [headsTo, List.range_succ]
theorem headsTo_length (ws : List ByteArray) (s : ByteArray) : ∀ k, (headsTo ws s k).length ≤ k
  | 0 => by simp [headsTo]
  | k + 1 => by
    have := headsTo_length ws s k
    rw [headsTo_succ, List.length_append]
    have h2 : (headAt ws s k).length ≤ 1 := by unfold headAt; split <;> simp
    omega
theorem headsTo_prefix (ws : List ByteArray) (s : ByteArray) {k n : Nat} (h : k ≤ n) : headsTo ws s k <+: headsTo ws s n := by
  induction n with
  | zero => obtain rfl : k = 0 := by omega
            exact List.prefix_refl _
  | succ n ih =>
    by_cases e : k = n + 1
    · rw [e]; exact List.prefix_refl _
    · rw [headsTo_succ]
      exact (ih (by omega)).trans (List.prefix_append _ _)

abbrev encHead (x : Int × ByteArray) : Array Value := #[.int .i64 x.1, .string x.2]

/-- What the heads want kept between two rounds: what lay in the world wb but for the map m, and their own two boxes. -/
def KeepH (wb : World) (m bk bs : Nat) (W W' : World) : Prop := Keep wb.heap.size (some m) W W' ∧ W'.heap[bk]? = W.heap[bk]? ∧ W'.heap[bs]? = W.heap[bs]?
theorem KeepH.trans {wb : World} {m bk bs : Nat} {W W1 W2 : World} (h : KeepH wb m bk bs W W1) (k : KeepH wb m bk bs W1 W2) : KeepH wb m bk bs W W2 := ⟨h.1.trans k.1, k.2.1.trans h.2.1, k.2.2.trans h.2.2⟩

set_option maxRecDepth 100000 in
set_option maxHeartbeats 4000000 in
theorem heads1_in (n : Nat) (hn : 1 ≤ n) (l bk bs m : Nat) (A : Option Addr) (c : Nat) (ws : List ByteArray) (s : ByteArray) (wb : World) {es : Array MapEntry} {ck : Nat} (hm : wb.heap[m]? = some (.map es ck)) (hC : Kd.C Kd.string wb A ws.length ws)
    (J Jx : List (Int × ByteArray) → World → Prop)
    (hY : ∀ pre x W, J pre W → pre.length < ws.length → x ∈ headsL ws s → YieldAt Fence.wide (n - 1) Tryz.prog l (encHead x) W fun e W' =>
      (e = .returned (.bool true) ∧ J (pre ++ [x]) W' ∧ KeepH wb m bk bs W W') ∨ (e = .returned (.bool false) ∧ Jx (pre ++ [x]) W'))
    (W : World) (hW : Keep wb.heap.size (some m) wb W) (hk : W.heap[bk]? = some (.cells #[.slice A ws.length c] 126 (0, 0))) (hs : W.heap[bs]? = some (.cells #[.string s] 9 (0, 0))) (h0 : J [] W) :
    CallsIn Fence.wide n Tryz.prog 117 #[.func (.yield l) #[] #[], .pointer (some ⟨bk, 0, none⟩), .pointer (some ⟨bs, 0, none⟩)] W fun e W' => (∃ v, e = .returned v) ∧
      ((∃ ys, ys = headsL ws s ∧ J ys W') ∨ (∃ pre, pre <+: headsL ws s ∧ Jx pre W')) := by
  have ck0 : W.cell? ⟨bk, 0, none⟩ = some (.slice A ws.length c) := box_cell hk
  have hmax := Kd.C_max hC
  refine callsIn_of_wp Tryz.func117 rfl trivial ?_ rfl
  simp only [Tryz.ntmps117, List.size_toArray, List.length_cons, List.length_nil, Nat.reduceAdd, Nat.reduceSub, Array.replicate_succ, Array.replicate_zero, List.push_toArray, List.append_toArray, List.nil_append, List.cons_append]
  gi_wp2
  gi_loopw [12] (fun i wr => ∃ k : Nat, k ≤ ws.length ∧ i = .int .i64 k ∧ J (headsTo ws s k) wr ∧ Keep wb.heap.size (some m) wb wr ∧ wr.heap[bs]? = some (.cells #[.string s] 9 (0, 0)))
    (fun i _ => ws.length - (intOf i).toNat)
  case atStart => exact ⟨0, Nat.zero_le _, rfl, h0, hW, hs⟩
  case round =>
    obtain ⟨k, hk1, rfl, hJs, hnx, hbs⟩ := hrel
    by_cases hlt : k < ws.length
    · have cs0 : wr.cell? ⟨bs, 0, none⟩ = some (.string s) := box_cell hbs
      obtain ⟨ad, rfl, hcell⟩ := Kd.at_string (C_keep_map hC hm hnx) k (by omega) (by omega)
      rw [show ((k : Int).toNat) = k from by omega] at hcell
      obtain ⟨x, hx⟩ : ∃ x, x = rdOf ByteArray.empty ws k := ⟨_, rfl⟩
      rw [← hx] at hcell
      have Hnx := Lib.hid hnx
      have hsc := headsTo_succ ws s k
      unfold headAt at hsc
      rw [← hx] at hsc
      have Hbs := Lib.hid hbs
      clear hnx hk hs hm hW hx hbs
      cases hp : startsB s x
      · rw [hp] at hsc
        simp only [Bool.false_eq_true, if_false, List.append_nil] at hsc
        rw [← hsc] at hJs
        clear hsc
        gi_wp2_with (refine ⟨trivial, ?_⟩; gi_at_call 118; refine (callsIn_wide.2 (Tryz.strings_CutPrefix s x _)).mono ?_; rintro e w2 ⟨rfl, rfl⟩; rw [show Lib.hasPrefix s.data.toList x.data.toList = false from hp])
        refine ⟨fun _ h => (by cases h), ?_⟩
        gi_wp2
        go_roundw
        case rel => exact ⟨k + 1, by omega, by simp, hJs, Hnx.out, Hbs.out⟩
        case measure => simp [intOf]; omega
      · rw [hp] at hsc
        simp only [if_true] at hsc
        have hl := headsTo_length ws s k
        have hmem : ((k : Int) + 1, restOf s x) ∈ headsL ws s := (headsTo_prefix ws s (show k + 1 ≤ ws.length by omega)).subset (by rw [hsc]; simp)
        obtain ⟨fn, tmps, assign, body, hy, hR⟩ := hY _ ((k : Int) + 1, restOf s x) wr hJs (by omega) hmem
        rw [← hsc] at hR
        have HR := Lib.hid hR
        dsimp only [encHead, restOf] at hy
        clear hsc hl hR hmem
        gi_wp2_with (refine ⟨trivial, ?_⟩; gi_at_call 118; refine (callsIn_wide.2 (Tryz.strings_CutPrefix s x _)).mono ?_; rintro e w2 ⟨rfl, rfl⟩; rw [show Lib.hasPrefix s.data.toList x.data.toList = true from hp])
        refine HR.out.mono ?_
        rintro e W3 (⟨rfl, hJ3, hk3⟩ | ⟨rfl, hJx3⟩)
        · gi_wp2
          go_roundw
          case rel => exact ⟨k + 1, by omega, by simp, hJ3, Hnx.out.trans hk3.1, hk3.2.2.trans Hbs.out⟩
          case measure => simp [intOf]; omega
        · gi_wp2
          refine bodyPost_ret (results_none rfl _ _ _) rfl ?_
          exact ⟨⟨_, rfl⟩, .inr ⟨_, headsTo_prefix ws s (by omega), hJx3⟩⟩
    · obtain rfl : k = ws.length := by omega
      gi_wp2
      go_end0
      exact ⟨⟨_, rfl⟩, .inl ⟨_, rfl, hJs⟩⟩

/-- A head of signs. -/
abbrev HeadOf (ws : List ByteArray) (s : ByteArray) := { x : Int × ByteArray // x ∈ headsL ws s }
theorem heads_stops (n : Nat) (hn : 1 ≤ n) (bk bs m : Nat) (A : Option Addr) (c : Nat) (ws : List ByteArray) (s : ByteArray) (wb w : World) {es : Array MapEntry} {ck : Nat} (hm : wb.heap[m]? = some (.map es ck)) (hC : Kd.C Kd.string wb A ws.length ws) (hb : Keep wb.heap.size (some m) wb w)
    (hk : w.heap[bk]? = some (.cells #[.slice A ws.length c] 126 (0, 0))) (hs : w.heap[bs]? = some (.cells #[.string s] 9 (0, 0))) :
    SeqStopsK Fence.wide n Tryz.prog 117 #[.pointer (some ⟨bk, 0, none⟩), .pointer (some ⟨bs, 0, none⟩)] (fun x : HeadOf ws s => encHead x.1) (KeepH wb m bk bs) (fun ys => ys.map (·.1) = headsL ws s) (fun pre => pre.map (·.1) <+: headsL ws s) ws.length w :=
  fun l J Jx W hW _ _ hY h0 => by
    refine (heads1_in n hn l bk bs m A c ws s wb hm hC (fun pre W => ∃ p : List (HeadOf ws s), p.map (·.1) = pre ∧ J p W) (fun pre W => ∃ p : List (HeadOf ws s), p.map (·.1) = pre ∧ Jx p W) ?_ W (hb.trans (.of_below (hW.mono hb.size) _)) (blk_below hk hW) (blk_below hs hW) ⟨[], rfl, h0⟩).mono ?_
    · rintro pre x W ⟨p, rfl, hJ⟩ hl hx
      refine (hY p ⟨x, hx⟩ W hJ (by simpa using hl)).mono ?_
      rintro e w' (⟨rfl, hJ', hk⟩ | ⟨rfl, hJ'⟩)
      · exact .inl ⟨rfl, ⟨_, by simp, hJ'⟩, hk⟩
      · exact .inr ⟨rfl, ⟨_, by simp, hJ'⟩⟩
    · rintro e W' ⟨hv, ⟨ys, rfl, p, hp, hJ⟩ | ⟨pre, hpre, p, rfl, hJ⟩⟩
      · exact ⟨hv, .inl ⟨p, hp, hJ⟩⟩
      · exact ⟨hv, .inr ⟨p, hpre, hJ⟩⟩

theorem heads_calls (A : Option Addr) (c len : Nat) (s : ByteArray) (w : World) :
    Calls Tryz.prog 71 #[.agg #[.slice A len c], .string s] w fun e w' => e = .returned (.func (.func 117) #[] #[.pointer (some ⟨w.heap.size, 0, none⟩), .pointer (some ⟨w.heap.size + 1, 0, none⟩)]) ∧ w' = (w.alloc (.cells #[.slice A len c] 126)).alloc (.cells #[.string s] 9) := by
  go_enter Tryz.func71, Tryz.ntmps71
  go_wp2
  go_ret
  exact ⟨rfl, rfl⟩

/-! ### How many readings -/
/-- How many readings signs have, at most one more than a million, by rounds. -/
def waysF (ws : List ByteArray) : Nat → ByteArray → Int
  | 0, _ => 0
  | f + 1, s => if s.size = 0 then 1 else (headsL ws s).foldl (fun n x => min 1000001 (n + waysF ws f x.2)) 0
def waysV (ws : List ByteArray) (s : ByteArray) : Int := waysF ws (s.size + 1) s
theorem restOf_size (s w : ByteArray) (h : startsB s w = true) : (restOf s w).size + w.size = s.size := by
  have hp : w.data.toList <+: s.data.toList := List.isPrefixOf_iff_prefix.1 h
  have hl := hp.length_le
  rw [data_length, data_length] at hl
  unfold restOf
  show (Lib.trimPrefix s.data.toList w.data.toList).toArray.size + _ = _
  unfold Lib.trimPrefix
  rw [if_pos (show Lib.hasPrefix s.data.toList w.data.toList = true from h)]
  simp only [List.size_toArray, List.length_drop, data_length]
  omega
theorem headsL_mem {ws : List ByteArray} {s : ByteArray} {x : Int × ByteArray} (h : x ∈ headsL ws s) : ∃ w ∈ ws, startsB s w = true ∧ x.2 = restOf s w := by
  unfold headsL headsTo at h
  obtain ⟨j, hj, hx⟩ := List.mem_flatMap.1 h
  have hj := List.mem_range.1 hj
  unfold headAt at hx
  split at hx
  · rename_i hs
    rw [List.mem_singleton] at hx
    refine ⟨rdOf ByteArray.empty ws j, ?_, hs, by rw [hx]⟩
    have : rdOf ByteArray.empty ws (j : Int) = ws[j] := by simp [rdOf, hj]
    rw [this]
    exact List.getElem_mem hj
  · simp at hx
theorem fold_bound (f : Int × ByteArray → Int) (hf : ∀ x, 0 ≤ f x) : ∀ (l : List (Int × ByteArray)) (n : Int), 0 ≤ n ∧ n ≤ 1000001 → 0 ≤ l.foldl (fun n x => min 1000001 (n + f x)) n ∧ l.foldl (fun n x => min 1000001 (n + f x)) n ≤ 1000001
  | [], n, h => h
  | x :: l, n, h => fold_bound f hf l _ (by have := hf x; dsimp only; omega)
theorem waysF_bound (ws : List ByteArray) : ∀ f s, 0 ≤ waysF ws f s ∧ waysF ws f s ≤ 1000001
  | 0, s => by simp [waysF]
  | f + 1, s => by
    unfold waysF
    split
    · omega
    · exact fold_bound _ (fun x => (waysF_bound ws f x.2).1) _ _ (by omega)
theorem fold_congr (f g : Int × ByteArray → Int) : ∀ (l : List (Int × ByteArray)) (n : Int), (∀ x ∈ l, f x = g x) → l.foldl (fun n x => min 1000001 (n + f x)) n = l.foldl (fun n x => min 1000001 (n + g x)) n
  | [], _, _ => rfl
  | x :: l, n, h => by
    rw [List.foldl_cons, List.foldl_cons, h x (by simp)]
    exact fold_congr f g l _ (fun y hy => h y (by simp [hy]))
theorem waysF_eq (ws : List ByteArray) (hw : ∀ x ∈ ws, 1 ≤ x.size) : ∀ f g s, s.size < f → s.size < g → waysF ws f s = waysF ws g s
  | 0, _, _, h, _ => by omega
  | _, 0, _, _, h => by omega
  | f + 1, g + 1, s, hf, hg => by
    unfold waysF
    split
    · rfl
    · refine fold_congr _ _ _ _ (fun x hx => ?_)
      obtain ⟨w, hmem, hs, he⟩ := headsL_mem hx
      have := restOf_size s w hs
      have := hw w hmem
      rw [← he] at *
      exact waysF_eq ws hw f g x.2 (by omega) (by omega)
theorem waysV_step (ws : List ByteArray) (hw : ∀ x ∈ ws, 1 ≤ x.size) (s : ByteArray) (h : s.size ≠ 0) : waysV ws s = (headsL ws s).foldl (fun n x => min 1000001 (n + waysV ws x.2)) 0 := by
  unfold waysV
  rw [waysF, if_neg h]
  refine fold_congr _ _ _ _ (fun x hx => ?_)
  obtain ⟨w, hmem, hs, he⟩ := headsL_mem hx
  have := restOf_size s w hs
  have := hw w hmem
  rw [← he] at *
  exact waysF_eq ws hw _ _ _ (by omega) (by omega)
theorem waysV_empty (ws : List ByteArray) : waysV ws ⟨#[]⟩ = 1 := rfl

/-! ### The counter -/
/-- The map m holds readings alone, and that of no signs. -/
def MapOk (ws : List ByteArray) (m : Nat) (w : World) : Prop :=
  ∃ es ck, w.heap[m]? = some (.map es ck) ∧ StrKeys es.toList ∧ (∀ e ∈ es.toList, ∀ s, e.key = .string s → e.val = .int .i64 (waysV ws s)) ∧ ∃ e ∈ es.toList, e.key = .string ⟨#[]⟩
theorem MapOk.of_heap {ws : List ByteArray} {m : Nat} {w w' : World} (h : MapOk ws m w) (e : w'.heap[m]? = w.heap[m]?) : MapOk ws m w' := by
  obtain ⟨es, ck, hm, r⟩ := h
  exact ⟨es, ck, e.trans hm, r⟩
theorem MapOk.lt {ws : List ByteArray} {m : Nat} {w : World} (h : MapOk ws m w) : m < w.heap.size := by
  obtain ⟨es, ck, hm, r⟩ := h
  exact blk_lt hm
/-- What the counter's closure leans on, in the world w0 in which it was made. -/
structure Made (ws : List ByteArray) (A : Option Addr) (c bm bk bf m : Nat) (w0 : World) : Prop where
  words : ∀ x ∈ ws, 1 ≤ x.size
  hbm : w0.heap[bm]? = some (.cells #[.map (some m)] 205 (0, 0))
  hbk : w0.heap[bk]? = some (.cells #[.slice A ws.length c] 126 (0, 0))
  hbf : w0.heap[bf]? = some (.cells #[.func (.func 116) #[] #[.pointer (some ⟨bm, 0, none⟩), .pointer (some ⟨bk, 0, none⟩), .pointer (some ⟨bf, 0, none⟩)]] 129 (0, 0))
  hC : Kd.C Kd.string w0 A ws.length ws
  hm : ∃ es ck, w0.heap[m]? = some (.map es ck)
abbrev countArgs (s : ByteArray) (bm bk bf : Nat) : Array Value := #[.string s, .pointer (some ⟨bm, 0, none⟩), .pointer (some ⟨bk, 0, none⟩), .pointer (some ⟨bf, 0, none⟩)]
theorem zeroInt (w : World) : (zeroValue 3).run Tryz.prog w = .ok (.int .i64 0) w := by kernel_rfl
theorem keepsFrom_keep {B m : Nat} {W W' : World} (h : Keep W.heap.size (some m) W W') (hm : m < B) : KeepsFrom B W W' :=
  ⟨h.size, fun k o hk ho _ => h.blk ho (blk_lt ho) (by intro e; cases e; omega)⟩
theorem min_wrap {a b : Int} (ha : 0 ≤ a ∧ a ≤ 1000001) (hb : 0 ≤ b ∧ b ≤ 1000001) (h : IntKind.i64.wrap (a + b) < 1000001) : IntKind.i64.wrap (a + b) = min 1000001 (a + b) := by
  rw [IntWalk.i64_in _ (by omega)] at h ⊢; omega
theorem min_wrap' {a b : Int} (ha : 0 ≤ a ∧ a ≤ 1000001) (hb : 0 ≤ b ∧ b ≤ 1000001) (h : 1000001 ≤ IntKind.i64.wrap (a + b)) : (1000001 : Int) = min 1000001 (a + b) := by
  rw [IntWalk.i64_in _ (by omega)] at h; omega
set_option maxRecDepth 100000 in
set_option maxHeartbeats 4000000 in
theorem count_calls {ws : List ByteArray} {A : Option Addr} {c bm bk bf m : Nat} {w0 : World} (M : Made ws A c bm bk bf m w0) : ∀ (N : Nat) (s : ByteArray) (w : World), s.size < N → Keep w0.heap.size (some m) w0 w → MapOk ws m w →
    Calls Tryz.prog 116 (countArgs s bm bk bf) w fun e w' => e = .returned (.int .i64 (waysV ws s)) ∧ Keep w.heap.size (some m) w w' ∧ MapOk ws m w'
  | 0, _, _, h, _, _ => absurd h (Nat.not_lt_zero _)
  | N + 1, s, w, hN, hK, hMap => by
    obtain ⟨es0, ck0, hm0⟩ := M.hm
    obtain ⟨es, ck, hm, hsk, hval, hemp⟩ := hMap
    have hbm : w.heap[bm]? = some (.cells #[.map (some m)] 205 (0, 0)) := hK.blk M.hbm (blk_lt M.hbm) (by intro e; cases e; have := M.hbm; rw [hm0] at this; cases this)
    have hbk : w.heap[bk]? = some (.cells #[.slice A ws.length c] 126 (0, 0)) := hK.blk M.hbk (blk_lt M.hbk) (by intro e; cases e; have := M.hbk; rw [hm0] at this; cases this)
    have hbf : w.heap[bf]? = some (.cells #[.func (.func 116) #[] #[.pointer (some ⟨bm, 0, none⟩), .pointer (some ⟨bk, 0, none⟩), .pointer (some ⟨bf, 0, none⟩)]] 129 (0, 0)) := hK.blk M.hbf (blk_lt M.hbf) (by intro e; cases e; have := M.hbf; rw [hm0] at this; cases this)
    have cbm := box_cell hbm
    have cbk := box_cell hbk
    have hlk := run_lookup_str (P := Tryz.prog) (T := 205) Tryz.underlying205 Tryz.underlying9 hm hsk s zeroInt true
    refine (callsIn_wide (n := 9)).1 ?_
    refine callsIn_of_wp_marks Tryz.func116 rfl trivial ?_ rfl
    simp only [Tryz.ntmps116, List.size_toArray, List.length_cons, List.length_nil, Nat.reduceAdd, Nat.reduceSub, Array.replicate_succ, Array.replicate_zero, List.push_toArray, List.append_toArray, List.nil_append, List.cons_append]
    cases hf : findStr s es.toList 0 with
    | some r =>
      obtain ⟨j, v⟩ := r
      rw [hf] at hlk
      simp only [Option.map_some, Option.getD_some, Option.isSome_some, if_true] at hlk
      have hv : v = .int .i64 (waysV ws s) := by
        obtain ⟨_, e, he, hk, hve⟩ := findStr_some hf
        rw [← hve]
        exact hval e (List.mem_of_getElem? he) s hk
      subst hv
      clear hf
      gi_wp2
      exact ⟨_, results_tmp rfl _ _ _, rfl, Keep.refl _ _ _, es, ck, hm, hsk, hval, hemp⟩
    | none =>
      rw [hf] at hlk
      simp only [Option.map_none, Option.getD_none, Option.isSome_none, if_true] at hlk
      have hs0 : Hid (s.size ≠ 0) := Lib.hid (by
        intro h
        obtain ⟨e, he, hk⟩ := hemp
        have hse : s = ⟨#[]⟩ := by
          obtain ⟨d⟩ := s
          have : d.size = 0 := h
          rw [Array.eq_empty_of_size_eq_zero this]
        rw [← hse] at hk
        exact findStr_none hsk hf e he hk)
      have hzk := blk_lt hbk
      have hzf := blk_lt hbf
      have hzm := blk_lt hbm
      have hzz := blk_lt hm
      have HMap : Hid (MapOk ws m w) := Lib.hid ⟨es, ck, hm, hsk, hval, hemp⟩
      have Hbf := Lib.hid hbf
      have Hbm := Lib.hid hbm
      have HK := Lib.hid hK
      have Hm0 := Lib.hid hm0
      clear hf hm hsk hval hemp hbf hbm hbk hK hm0
      gi_wp2_with (refine ⟨trivial, ?_⟩; gi_at_call 71; refine (callsIn_wide.2 (heads_calls A c ws.length s _)).mono ?_; rintro e w1 ⟨rfl, rfl⟩)
      obtain ⟨wL, hwL⟩ : ∃ wL, wL = (((w.alloc (Obj.cells #[Value.int IntKind.i64 0] 3)).alloc (Obj.cells #[Value.slice A ws.length c] 126)).alloc (Obj.cells #[Value.string s] 9)) := ⟨_, rfl⟩
      have hbL : Below w.heap.size w wL := by rw [hwL]; exact below_alloc (below2 _ _ _) _
      have hsz : wL.heap.size = w.heap.size + 3 := by rw [hwL]; simp only [World.size_alloc]
      have hn0 : wL.heap[w.heap.size]? = some (.cells #[.int .i64 0] 3 (0, 0)) := by rw [hwL]; exact blk_alloc (blk_alloc (blk_new w _) _) _
      have hk1 : wL.heap[w.heap.size + 1]? = some (.cells #[.slice A ws.length c] 126 (0, 0)) := by rw [hwL]; exact blk_alloc (blk_new1 w _ _) _
      have hs1 : wL.heap[w.heap.size + 1 + 1]? = some (.cells #[.string s] 9 (0, 0)) := by rw [hwL]; exact blk_new2 w _ _ _
      rw [← hwL]
      clear hwL cbm cbk hlk
      have hKL : Keep w0.heap.size (some m) w0 wL := HK.out.trans (.of_below (hbL.mono HK.out.size) _)
      have hle : w0.heap.size ≤ w.heap.size := HK.out.size
      refine wpIn_rangeFunc_ownG rfl (by decide) (gf := 117) (lb := #[.pointer (some ⟨w.heap.size + 1, 0, none⟩), .pointer (some ⟨w.heap.size + 1 + 1, 0, none⟩)]) rfl trivial (enters_of Tryz.func117 (by kernel_rfl) rfl) (w0 := wL)
        (heads_stops 8 (by decide) _ _ m A c ws s w0 wL Hm0.out M.hC hKL hk1 hs1) (fun h k => h.trans k) ?hKb (Below.refl _ _) (fun _ => rfl)
        (fun pre W => W.heap[w.heap.size]? = some (.cells #[.int .i64 (pre.foldl (fun n x => min 1000001 (n + waysV ws x.1.2)) 0)] 3 (0, 0)) ∧ Keep w.heap.size (some m) w W ∧ MapOk ws m W ∧ w.heap.size + 3 ≤ W.heap.size)
        (fun _ _ _ => False)
        ?hI
        (fun _ _ _ _ _ hs _ _ => hs)
        ⟨hn0, .of_below hbL _, HMap.out.of_heap (hbL.block m hzz), by omega⟩
        (fun x => { tmps := #[.string s, .pointer (some ⟨bm, 0, none⟩), .pointer (some ⟨bk, 0, none⟩), .pointer (some ⟨bf, 0, none⟩), undef, .int .i64 0, .int .i64 0, .bool false, .pointer (some ⟨w.heap.size, 0, none⟩), undef, .string x.1.2, .tuple #[.int .i64 0, .bool false], .map (some m), .string s, .tuple #[.int .i64 0, .bool false], .int .i64 0, .bool false, .bool false, undef, .agg #[.slice A ws.length c], .string s, .func (.func 117) #[] #[.pointer (some ⟨w.heap.size + 1, 0, none⟩), .pointer (some ⟨w.heap.size + 1 + 1, 0, none⟩)], .int .i64 x.1.1, .string x.1.2, undef, undef, undef, undef, undef, undef, undef, undef, undef, undef], defers := [] }) ?assign ?body ?done ?stop
      case hKb =>
        intro W l o o' hl h _ _
        refine ⟨(Keep.refl _ _ W).put o' (.inl (by omega)), World.putObj_heap_other (by omega), World.putObj_heap_other (by omega)⟩
      case hI =>
        intro pre X Y row hs hg hr
        have hne : ∀ k, k < wL.heap.size → some k ≠ row := fun k hk e => by have := (hr k e.symm).1; omega
        refine ⟨(hg.block _ (blk_lt hs.1) (hne _ (by omega))).trans hs.1, hs.2.1.trans ⟨hg.os, hg.tape, hg.output, hg.size, fun k hk _ => hg.block k (Nat.lt_of_lt_of_le hk hs.2.1.size) (hne _ (by omega))⟩, hs.2.2.1.of_heap (hg.block m hs.2.2.1.lt (hne _ (by omega))), Nat.le_trans hs.2.2.2 hg.size⟩
      case assign =>
        intro l x W K hK
        gi_wp2
        exact hK
      case body =>
        rintro l pre ⟨x, hx⟩ W ⟨hbox, hKW, hMW, hlt3⟩ hlt
        dsimp only
        have hxs : x.2.size < N := by
          obtain ⟨wd, hmem, hst, he⟩ := headsL_mem hx
          have := restOf_size s wd hst
          have := M.words wd hmem
          rw [← he] at *
          omega
        have hc1 := box_cell hbox
        have hf1 := box_free hbox
        have hzf2 := Nat.lt_of_lt_of_le hzf hKW.size
        have hcf : W.cell? ⟨bf, 0, none⟩ = some (.func (.func 116) #[] #[.pointer (some ⟨bm, 0, none⟩), .pointer (some ⟨bk, 0, none⟩), .pointer (some ⟨bf, 0, none⟩)]) := box_cell (hKW.blk Hbf.out hzf (by intro e; cases e; have := Hbf.out; rw [HMap.out.choose_spec.choose_spec.1] at this; cases this))
        have hcall := count_calls M N x.2 W.drew hxs ((HK.out.trans (hKW.mono hle)).drew) hMW
        have hfb := fold_bound (fun x : Int × ByteArray => waysV ws x.2) (fun x => (waysF_bound ws _ x.2).1) (pre.map (·.1)) 0 (by omega)
        rw [List.foldl_map] at hfb
        have hwb : 0 ≤ waysV ws x.2 ∧ waysV ws x.2 ≤ 1000001 := waysF_bound ws _ x.2
        obtain ⟨acc, hacc⟩ : ∃ acc, acc = pre.foldl (fun n x => min 1000001 (n + waysV ws x.1.2)) 0 := ⟨_, rfl⟩
        rw [← hacc] at hbox hc1 hfb
        have Hacc := Lib.hid hacc
        clear hacc
        have Hbox := Lib.hid hbox
        have HKW := Lib.hid hKW
        have Hcall := Lib.hid hcall
        clear hbox hKW hMW hcall hlt
        have hmo : Tryz.prog.follows .mixedOrders = true := by kernel_rfl
        have fin : Hid (∀ (w2 : World) (v : Int) (a' : Act), w2.heap[w.heap.size]? = some (.cells #[.int .i64 acc] 3 (0, 0)) → Keep W.drew.heap.size (some m) W.drew w2 → MapOk ws m w2 → v = min 1000001 (acc + waysV ws x.2) →
            ownPostG (w.heap.size + 3) (KeepH w0 m (w.heap.size + 1) (w.heap.size + 1 + 1)) (fun (pre : List (HeadOf ws s)) W => W.heap[w.heap.size]? = some (.cells #[.int .i64 (pre.foldl (fun n x => min 1000001 (n + waysV ws x.1.2)) 0)] 3 (0, 0)) ∧ Keep w.heap.size (some m) w W ∧ MapOk ws m W ∧ w.heap.size + 3 ≤ W.heap.size)
              (fun _ _ _ => False) (pre ++ [⟨x, hx⟩]) W Exit.normal a' (w2.setCell ⟨w.heap.size, 0, none⟩ (.int .i64 v))) := Lib.hid (by
          intro w2 v a' hb2 hk2 hm2 hv
          have hk3 : Keep W.heap.size (some m) W w2 := ⟨hk2.os, hk2.tape, hk2.output, hk2.size, hk2.block⟩
          have hWs : w.heap.size ≤ W.heap.size := HKW.out.size
          have hbl := blk_lt Hbox.out
          refine ⟨(keepsFrom_keep hk3 (by omega)).trans ((KeepsOthers.setCell _ _ _).from _), ⟨(hk3.mono (by omega)).setCell (by dsimp only; omega) _, ?_, ?_⟩, ?_, (HKW.out.trans (hk3.mono hWs)).setCell (by dsimp only; omega) _, hm2.of_heap (Below.heap_setCell _ _ _ _ (by dsimp only; omega)), by have := hk3.size; simp [World.setCell]; omega⟩
          · rw [Below.heap_setCell _ _ _ _ (by dsimp only; omega)]
            exact hk3.block _ (by omega) (by intro e; cases e; omega)
          · rw [Below.heap_setCell _ _ _ _ (by dsimp only; omega)]
            exact hk3.block _ (by omega) (by intro e; cases e; omega)
          · rw [box_put hb2, List.foldl_append, ← Hacc.out, hv]; rfl)
        gi_wp2
        gi_region_with_o (refine ⟨trivial, ?_⟩; gi_at_call 116; refine (CallsIn.inRound l (callsIn_wide.2 Hcall.out)).mono ?_; rintro e w2 ⟨rfl, hk2, hm2⟩; have Hb2 := Lib.hid (hk2.blk Hbox.out (blk_lt Hbox.out) (show some w.heap.size ≠ some m by intro e; cases e; omega)); have hc2 := box_cell Hb2.out; have hf2 := box_free Hb2.out; have Hk2 := Lib.hid hk2; have Hm2 := Lib.hid hm2; clear hk2 hm2)
        all_goals gi_wp2
        all_goals first
          | exact fin.out _ _ _ Hb2.out Hk2.out Hm2.out (min_wrap hfb hwb ‹_›)
          | exact fin.out _ _ _ Hb2.out Hk2.out Hm2.out (min_wrap' hfb hwb ‹_›)
      case done =>
        rintro D ys W hD hS ⟨hbox, hKW, hMW, hlt3⟩ hK
        have hfold : ys.foldl (fun n x => min 1000001 (n + waysV ws x.1.2)) 0 = waysV ws s := by
          rw [waysV_step ws M.words s hs0.out]
          have h := congrArg (fun (l : List (Int × ByteArray)) => l.foldl (fun n x => min 1000001 (n + waysV ws x.2)) 0) hS
          simp only [List.foldl_map] at h
          exact h
        rw [hfold] at hbox
        obtain ⟨es2, ck2, hm2, hsk2, hval2, hemp2⟩ := hMW
        obtain ⟨es3, ck3, hrun, hsk3, hval3, hold3, hnew3⟩ := run_mapUpdate_str (P := Tryz.prog) (T := 205) Tryz.underlying205 Tryz.underlying9 hm2 hsk2 s (.int .i64 (waysV ws s))
        have hc1 := box_cell hbox
        have hcm : W.cell? ⟨bm, 0, none⟩ = some (.map (some m)) := box_cell (hKW.blk Hbm.out hzm (by intro e; cases e; have := Hbm.out; rw [HMap.out.choose_spec.choose_spec.1] at this; cases this))
        have hlm := blk_lt hm2
        have hc2 : (W.putObj m (.map es3 ck3)).cell? ⟨w.heap.size, 0, none⟩ = some (.int .i64 (waysV ws s)) := by
          rw [World.cell?_of_block (World.putObj_heap_other (by dsimp only; omega))]; exact hc1
        have hK2 : (W.putObj m (.map es3 ck3)).heap[D]? = some (.deferred (some [])) := by rw [World.putObj_heap_other (by omega)]; exact hK
        have Hfin : Hid (Keep w.heap.size (some m) w ((W.putObj m (.map es3 ck3)).putObj D (.deferred none)) ∧ MapOk ws m ((W.putObj m (.map es3 ck3)).putObj D (.deferred none))) := Lib.hid (by
          refine ⟨(hKW.put _ (.inr rfl)).put _ (.inl (by omega)), es3, ck3, ?_, hsk3, ?_, ?_⟩
          · rw [World.putObj_heap_other (by omega)]; exact World.putObj_heap_same hlm
          · intro e he s' hk
            rcases hval3 e he with ⟨h1, h2⟩ | h1
            · rw [h1] at hk; cases hk; exact h2
            · exact hval2 e h1 s' hk
          · obtain ⟨e, he, hk⟩ := hemp2
            refine ⟨e, hold3 e he (fun h => ?_), hk⟩
            rw [hk] at h; cases h
            exact hs0.out rfl)
        have HK2 := Lib.hid hK2
        clear hbox hm2 hsk2 hval2 hemp2 hsk3 hval3 hold3 hnew3 hK hK2 hfold hS
        gi_wp2
        refine ⟨by simp, .inl ⟨_, _, rfl, run_takeDeferred HK2.out, ?_⟩⟩
        exact ⟨_, results_tmp rfl _ _ _, rfl, Hfin.out⟩
      case stop =>
        rintro D c' pre W _ _ h _
        exact h.elim
end Go.Proofs.YtfnibmcenjiodaaGreatDoor.M
