/- Contracts and plain laws that the claim's card stands on (texts M20 M21 N12 M11 U0 U1 M41 M42 of the work, put together). No statement of the seat is proved here. -/
import Derived.Deep.LoopGhost
import Derived.Lib.OthersKept
import Derived.LoopN
import Derived.Deep.RegionHeld3
import Derived.Maps.AppendAt
import Derived.Test.YtfnibmcenjiodaaGreatDoorProg
import Derived.Below
import Derived.Deep.Draws
import Derived.Deep.AppendLies
import Derived.OwnWalk
import Derived.Laws.BytesArg
import Derived.Laws.MakeOwn
import Derived.Laws.OwnMore
import Derived.Deep.OwnRows
import Derived.Tactics
import Derived.Lib.ConvBytes
import Derived.Laws.Slices
import Derived.WalkKit
import Derived.KernelRfl
import Derived.RowKit3
import Derived.Deep.QuietTactic
import Derived.BigQuiet
import Derived.WideLaws
import Derived.Deep.DeepCutAuto
import Derived.Deep.CutBlock
import Derived.Laws.Rows
import Derived.Lib.AppendStr
import Derived.ArgAppend
import Derived.Laws.IdiomCopy
import Derived.OrdersHeld
import Derived.Laws.BitsLemmas
import Derived.RowKit
import Derived.Laws.StructEq
import Derived.Maps.RangeWalk
import Derived.DeepKeys4
import Derived.Test.YtfnibmcenjiodaaGreatDoorQ1
import Derived.Test.YtfnibmcenjiodaaGreatDoorQ2
import Derived.Test.YtfnibmcenjiodaaGreatDoorQ3
import Derived.Test.YtfnibmcenjiodaaGreatDoorQ4
import Derived.Test.YtfnibmcenjiodaaGreatDoorQ5
import Derived.Test.YtfnibmcenjiodaaGreatDoorQ6
import Derived.Test.YtfnibmcenjiodaaGreatDoorQ7
import Derived.Test.YtfnibmcenjiodaaGreatDoorQ8
import Derived.Test.YtfnibmcenjiodaaGreatDoorQ9
import Derived.Test.YtfnibmcenjiodaaGreatDoorQ10
import Derived.Test.YtfnibmcenjiodaaGreatDoorQ11
import Derived.Test.YtfnibmcenjiodaaGreatDoorQ12
import Derived.Test.YtfnibmcenjiodaaGreatDoorQ13
import Derived.Test.YtfnibmcenjiodaaGreatDoorQ14
import Derived.Test.YtfnibmcenjiodaaGreatDoorQ15
set_option linter.unusedVariables false
set_option linter.unusedSimpArgs false
namespace Go.Proofs.YtfnibmcenjiodaaGreatDoor.M
open Go.Sort Go.Shelf Go.RowKit Go.Maps Go.Proofs.YtfnibmcenjiodaaGreatDoorW.PrintWords Go.Proofs.YtfnibmcenjiodaaGreatDoorW.PrintLast Go.Proofs.YtfnibmcenjiodaaGreatDoorW.PrintMore
attribute [local go_sem] Oper.semAt_some
theorem foldl_take_succ {β : Type} (f : β → ByteArray → β) (ws : List ByteArray) (D : β) (j : Nat) (h : j < ws.length) : (ws.take (j + 1)).foldl f D = f ((ws.take j).foldl f D) (rdOf ByteArray.empty ws j) := by
  rw [List.take_succ_eq_append_getElem h, List.foldl_append]
  simp [rdOf, h]
theorem rdOf_mem (ws : List ByteArray) (j : Nat) (h : j < ws.length) : rdOf ByteArray.empty ws j ∈ ws := by
  have : rdOf ByteArray.empty ws j = ws[j] := by simp [rdOf, h]
  rw [this]; exact List.getElem_mem h
structure DW (ws : List ByteArray) (A : Option Addr) (c : Nat) (w0 : World) (n n' : Nat) (D E : DataW Unit) (W : World) : Prop where
  key : W.heap[w0.heap.size]? = some (.cells #[.slice A ws.length c] 126 (0, 0))
  bt : W.heap[w0.heap.size + 1 + 1 + 1]? = some (.cells #[.map (some (w0.heap.size + 1))] 222 (0, 0))
  bd : W.heap[w0.heap.size + 1 + 1 + 1 + 1]? = some (.cells #[.map (some (w0.heap.size + 1 + 1))] 223 (0, 0))
  tm : TMap W (w0.heap.size + 1) n D
  fm : FMap W (w0.heap.size + 1 + 1) n' E
  cs : Kd.C Kd.string W A ws.length ws
  below : Below w0.heap.size w0 W
theorem DW.texts {ws : List ByteArray} {A : Option Addr} {c : Nat} {w0 W W' : World} {n n' n2 : Nat} {D D' E : DataW Unit} (h : DW ws A c w0 n n' D E W) (h0 : Kd.C Kd.string w0 A ws.length ws) (hk : Keep W.heap.size (some (w0.heap.size + 1)) W W') (hT : TMap W' (w0.heap.size + 1) n2 D') : DW ws A c w0 n2 n' D' E W' := by
  have hb : Below w0.heap.size w0 W' := ⟨hk.os.trans h.below.os, hk.tape.trans h.below.tape, hk.output.trans h.below.output, Nat.le_trans h.below.size hk.size, fun k hk1 => (hk.block k (Nat.lt_of_lt_of_le hk1 h.below.size) (by intro e; have := Option.some.inj e; omega)).trans (h.below.block k hk1)⟩
  exact ⟨hk.blk h.key (blk_lt h.key) (by intro e; have := Option.some.inj e; omega), hk.blk h.bt (blk_lt h.bt) (by intro e; have := Option.some.inj e; omega), hk.blk h.bd (blk_lt h.bd) (by intro e; have := Option.some.inj e; omega), hT, h.fm.kept (row := some (w0.heap.size + 1)) ⟨hk.os, hk.tape, hk.output, hk.size, hk.block⟩ (by intro e; have := Option.some.inj e; omega), Kd.C_below h0 hb, hb⟩
theorem DW.flags {ws : List ByteArray} {A : Option Addr} {c : Nat} {w0 W W' : World} {n n' n2 : Nat} {D E E' : DataW Unit} (h : DW ws A c w0 n n' D E W) (h0 : Kd.C Kd.string w0 A ws.length ws) (hk : Keep W.heap.size (some (w0.heap.size + 1 + 1)) W W') (hF : FMap W' (w0.heap.size + 1 + 1) n2 E') : DW ws A c w0 n n2 D E' W' := by
  have hb : Below w0.heap.size w0 W' := ⟨hk.os.trans h.below.os, hk.tape.trans h.below.tape, hk.output.trans h.below.output, Nat.le_trans h.below.size hk.size, fun k hk1 => (hk.block k (Nat.lt_of_lt_of_le hk1 h.below.size) (by intro e; have := Option.some.inj e; omega)).trans (h.below.block k hk1)⟩
  exact ⟨hk.blk h.key (blk_lt h.key) (by intro e; have := Option.some.inj e; omega), hk.blk h.bt (blk_lt h.bt) (by intro e; have := Option.some.inj e; omega), hk.blk h.bd (blk_lt h.bd) (by intro e; have := Option.some.inj e; omega), h.tm.kept (row := some (w0.heap.size + 1 + 1)) ⟨hk.os, hk.tape, hk.output, hk.size, hk.block⟩ (by intro e; have := Option.some.inj e; omega), hF, Kd.C_below h0 hb, hb⟩
theorem DW.carry {ws : List ByteArray} {A : Option Addr} {c : Nat} {w0 W W' : World} {n n' : Nat} {D E : DataW Unit} (h : DW ws A c w0 n n' D E W) (h0 : Kd.C Kd.string w0 A ws.length ws) (hk : Below W.heap.size W W') : DW ws A c w0 n n' D E W' :=
  have hb : Below w0.heap.size w0 W' := h.below.trans (hk.mono h.below.size)
  ⟨(hk.block _ (blk_lt h.key)).trans h.key, (hk.block _ (blk_lt h.bt)).trans h.bt, (hk.block _ (blk_lt h.bd)).trans h.bd, map_below h.tm hk, map_below h.fm hk, Kd.C_below h0 hb, hb⟩
theorem DW.made {ws : List ByteArray} {A : Option Addr} {c : Nat} {w : World} (h0 : Kd.C Kd.string w A ws.length ws) : DW ws A c w 0 0 (.map []) (.map []) (((((w.alloc (.cells #[.slice A ws.length c] 126)).alloc (.map #[] 0)).alloc (.map #[] 0)).alloc (.cells #[.map (some (w.heap.size + 1))] 222)).alloc (.cells #[.map (some (w.heap.size + 1 + 1))] 223)) := by
  obtain ⟨w1, hw1⟩ : ∃ w1, w1 = w.alloc (.cells #[.slice A ws.length c] 126) := ⟨_, rfl⟩
  have e1 : w1.heap.size = w.heap.size + 1 := by rw [hw1, World.size_alloc]
  have b1 : Below w.heap.size w w1 := by rw [hw1]; exact below1 _ _
  have k1 : w1.heap[w.heap.size]? = some (.cells #[.slice A ws.length c] 126 (0, 0)) := by rw [hw1]; exact blk_new w _
  rw [← hw1]
  obtain ⟨w2, hw2⟩ : ∃ w2, w2 = w1.alloc (.map #[] 0) := ⟨_, rfl⟩
  have e2 : w2.heap.size = w.heap.size + 1 + 1 := by rw [hw2, World.size_alloc, e1]
  have t2 : TMap w2 (w.heap.size + 1) 0 (.map []) := by rw [hw2, ← e1]; exact World.ownsMap_made _ _ _ _
  have b2 : Below w1.heap.size w1 w2 := by rw [hw2]; exact below1 _ _
  rw [← hw2]
  obtain ⟨w3, hw3⟩ : ∃ w3, w3 = w2.alloc (.map #[] 0) := ⟨_, rfl⟩
  have e3 : w3.heap.size = w.heap.size + 1 + 1 + 1 := by rw [hw3, World.size_alloc, e2]
  have f3 : FMap w3 (w.heap.size + 1 + 1) 0 (.map []) := by rw [hw3, ← e2]; exact World.ownsMap_made _ _ _ _
  have b3 : Below w2.heap.size w2 w3 := by rw [hw3]; exact below1 _ _
  rw [← hw3]
  obtain ⟨w4, hw4⟩ : ∃ w4, w4 = w3.alloc (.cells #[.map (some (w.heap.size + 1))] 222) := ⟨_, rfl⟩
  have e4 : w4.heap.size = w.heap.size + 1 + 1 + 1 + 1 := by rw [hw4, World.size_alloc, e3]
  have c4 : w4.heap[w.heap.size + 1 + 1 + 1]? = some (.cells #[.map (some (w.heap.size + 1))] 222 (0, 0)) := by rw [hw4, ← e3]; exact blk_new w3 _
  have b4 : Below w3.heap.size w3 w4 := by rw [hw4]; exact below1 _ _
  rw [← hw4]
  have c5 : (w4.alloc (.cells #[.map (some (w.heap.size + 1 + 1))] 223)).heap[w.heap.size + 1 + 1 + 1 + 1]? = some (.cells #[.map (some (w.heap.size + 1 + 1))] 223 (0, 0)) := by rw [← e4]; exact blk_new w4 _
  have b5 : Below w4.heap.size w4 (w4.alloc (.cells #[.map (some (w.heap.size + 1 + 1))] 223)) := below1 _ _
  have hb : Below w.heap.size w (w4.alloc (.cells #[.map (some (w.heap.size + 1 + 1))] 223)) := b1.trans ((b2.mono (by omega)).trans ((b3.mono (by omega)).trans ((b4.mono (by omega)).trans (b5.mono (by omega)))))
  have x2 := (b2.block _ (blk_lt k1)).trans k1
  have x3 := (b3.block _ (blk_lt x2)).trans x2
  have x4 := (b4.block _ (blk_lt x3)).trans x3
  exact ⟨(b5.block _ (blk_lt x4)).trans x4, (b5.block _ (blk_lt c4)).trans c4, c5, map_below (map_below (map_below t2 b3) b4) b5, map_below (map_below f3 b4) b5, Kd.C_below h0 hb, hb⟩
theorem firstIs_some {D : DataW Unit} {s : ByteArray} (h : FirstIs D s true) : ∃ x : KeyOf D, s = bk x.1 := by
  cases h with
  | some x _ => exact ⟨x, rfl⟩
set_option maxRecDepth 100000 in
set_option maxHeartbeats 4000000 in
theorem double_calls (A : Option Addr) (c : Nat) (ws : List ByteArray) (N : Nat) (w : World) (hC : Kd.C Kd.string w A ws.length ws) (hN : ∀ x ∈ ws, x.size ≤ N) (hB : N * (1 + (sufs ws).length) ≤ 1000000) (hW : ws.length * (ws.length + (sufs ws).length + 1) ≤ 1000000) (hU : (sufs ws).length ≤ 1000000) :
    Calls Tryz.prog 89 #[.agg #[.slice A ws.length c]] w fun e w' => ∃ s f, e = .returned (.tuple #[.string s, .bool f]) ∧ Search ws (startD ws) (.map []) s f ∧ Below w.heap.size w w' := by
  have hmm := @run_makeMap Tryz.prog
  have hC0 := Lib.hid hC
  go_enter Tryz.func89, Tryz.ntmps89
  go_wp2_with fail
  go_loopw [29] (fun i wr => ∃ k n : Nat, k ≤ ws.length ∧ i = .int .i64 k ∧ n ≤ k * ws.length ∧ Hid (DW ws A c w n 0 ((ws.take k).foldl (fun D v => ws.foldl (startStep v) D) (.map [])) (.map []) wr) ∧ Hid (Bnd ws ((ws.take k).foldl (fun D v => ws.foldl (startStep v) D) (.map [])) (.map []) N)) (fun i _ => ws.length - (intOf i).toNat)
  case atStart =>
    refine ⟨0, 0, by omega, rfl, by omega, ?_, ?_⟩
    · exact Lib.hid (DW.made hC)
    · exact Lib.hid ⟨isMap_nil, isMap_nil, fun a h => (by cases h), fun a h => (by cases h), fun a h => (by cases h)⟩
  case round =>
    obtain ⟨k, n, hk, rfl, hn, H, HB⟩ := hrel
    have hmax := Kd.C_max hC
    by_cases hlt : k < ws.length
    · obtain ⟨ad, rfl, hcell⟩ := Kd.at_string H.out.cs k (by omega) (by omega)
      rw [show ((k : Int).toNat) = k from by omega] at hcell
      obtain ⟨v, hv⟩ : ∃ v, v = rdOf ByteArray.empty ws k := ⟨_, rfl⟩
      rw [← hv] at hcell
      have ck0 : wr.cell? ⟨w.heap.size, 0, none⟩ = some (.slice (some ad) ws.length c) := box_cell H.out.key
      have Hv := Lib.hid hv
      clear hv
      go_wp2_with fail
      go_loopw [37] (fun i w2 => ∃ j n2 : Nat, j ≤ ws.length ∧ i = .int .i64 j ∧ n2 ≤ n + j ∧ Hid (DW ws (some ad) c w n2 0 ((ws.take j).foldl (startStep v) ((ws.take k).foldl (fun D v => ws.foldl (startStep v) D) (.map []))) (.map []) w2) ∧ Hid (Bnd ws ((ws.take j).foldl (startStep v) ((ws.take k).foldl (fun D v => ws.foldl (startStep v) D) (.map []))) (.map []) N)) (fun i _ => ws.length - (intOf i).toNat)
      case atStart => exact ⟨0, n, by omega, rfl, by omega, by simpa using H, by simpa using HB⟩
      case round =>
        obtain ⟨j, n2, hj, rfl, hn2, H2, HB2⟩ := hrel
        by_cases hlj : j < ws.length
        · obtain ⟨ad2, he2, hcell2⟩ := Kd.at_string H2.out.cs j (by omega) (by omega)
          cases he2
          rw [show ((j : Int).toNat) = j from by omega] at hcell2
          obtain ⟨x, hx⟩ : ∃ x, x = rdOf ByteArray.empty ws j := ⟨_, rfl⟩
          rw [← hx] at hcell2
          have Hx := Lib.hid hx
          clear hx hcell ck0
          cases hp : startsB x v
          · go_wp2_with (go_at_call 118; refine (Tryz.strings_CutPrefix x v _).mono ?_; rintro e w3 ⟨rfl, rfl⟩; rw [show Lib.hasPrefix x.data.toList v.data.toList = false from hp])
            have est : ∀ D, startStep v D x = D := fun D => by unfold startStep; rw [hp]; rfl
            refine ⟨⟨j + 1, n2, by omega, by simp, by omega, ?_, ?_⟩, by simp [intOf]; omega⟩
            · rw [foldl_take_succ _ _ _ _ hlj, ← Hx.out, est]; exact H2
            · rw [foldl_take_succ _ _ _ _ hlj, ← Hx.out, est]; exact HB2
          · by_cases hr : restOf x v = ⟨#[]⟩
            · have hr2 : (⟨(Lib.trimPrefix x.data.toList v.data.toList).toArray⟩ : ByteArray) = ⟨#[]⟩ := hr
              go_wp2_with (go_at_call 118; refine (Tryz.strings_CutPrefix x v _).mono ?_; rintro e w3 ⟨rfl, rfl⟩; rw [show Lib.hasPrefix x.data.toList v.data.toList = true from hp]; rw [hr2])
              have est : ∀ D, startStep v D x = D := fun D => by unfold startStep; rw [hr]; simp
              refine ⟨⟨j + 1, n2, by omega, by simp, by omega, ?_, ?_⟩, by simp [intOf]; omega⟩
              · rw [foldl_take_succ _ _ _ _ hlj, ← Hx.out, est]; exact H2
              · rw [foldl_take_succ _ _ _ _ hlj, ← Hx.out, est]; exact HB2
            · have hr2 : ¬ restOf x v = ByteArray.mk #[] := hr
              have ct := box_cell H2.out.bt
              have cd := box_cell H2.out.bd
              obtain ⟨r, hrr⟩ : ∃ r, r = restOf x v := ⟨_, rfl⟩
              have hr3 : (⟨(Lib.trimPrefix x.data.toList v.data.toList).toArray⟩ : ByteArray) = r := hrr.symm
              rw [← hrr] at hr2
              have hre : r.toList.isEmpty = false := by
                rw [Lib.toList_data]
                cases h : r.data.toList with
                | nil => exact absurd (ByteArray.ext (Array.toList_inj.1 h)) hr2
                | cons _ _ => rfl
              have Hrr := Lib.hid hrr
              clear hrr hr
              go_wp2_with (go_at_call 118; refine (Tryz.strings_CutPrefix x v _).mono ?_; rintro e w3 ⟨rfl, rfl⟩; rw [show Lib.hasPrefix x.data.toList v.data.toList = true from hp]; rw [hr3])
              refine (reach_calls _ _ _ _ _ _ n2 0 r x _ ct cd H2.out.tm H2.out.fm (blk_lt H2.out.bt) ?_ ?_ ?_).mono ?_
              · have h1 : k * ws.length + ws.length ≤ ws.length * ws.length := by rw [← Nat.succ_mul]; exact Nat.mul_le_mul_right _ hlt
                have h2 : ws.length * ws.length ≤ ws.length * (ws.length + (sufs ws).length + 1) := Nat.mul_le_mul_left _ (by omega)
                unfold maxLen; omega
              · have h1 : r ∈ sufs ws := by rw [Hrr.out]; exact sufs_rest (sufs_self (by rw [Hx.out]; exact rdOf_mem _ _ hlj)) hp
                have h2 := sufs_size h1 hN
                have h3 : N * 1 ≤ N * (1 + (sufs ws).length) := Nat.mul_le_mul_left _ (by omega)
                unfold maxLen; omega
              · have h2 := hN x (by rw [Hx.out]; exact rdOf_mem _ _ hlj)
                have h3 : N * 1 ≤ N * (1 + (sufs ws).length) := Nat.mul_le_mul_left _ (by omega)
                unfold maxLen; omega
              rintro e w4 ⟨rfl, hT4, hk4⟩
              have H4 := Lib.hid (H2.out.texts hC0.out hk4 hT4)
              clear hT4 hk4 ct cd
              have est : ∀ D, startStep v D x = reachD D (.map []) r x := fun D => by unfold startStep; rw [hp, ← Hrr.out]; simp [hr2]
              go_wp2
              refine ⟨⟨j + 1, n2 + 1, by omega, by simp, by omega, ?_, ?_⟩, by simp [intOf]; omega⟩
              · rw [foldl_take_succ _ _ _ _ hlj, ← Hx.out, est]; exact H4
              · rw [foldl_take_succ _ _ _ _ hlj, ← Hx.out]; exact Lib.hid (bnd_start hN HB2.out (by rw [Hx.out]; exact rdOf_mem _ _ hlj))
        · obtain rfl : j = ws.length := by omega
          rw [List.take_length] at H2 HB2
          have hkn : (k + 1) * ws.length = k * ws.length + ws.length := Nat.succ_mul k ws.length
          go_wp2
          refine ⟨⟨k + 1, n2, by omega, by simp, by omega, ?_, ?_⟩, by simp [intOf]; omega⟩
          · rw [foldl_take_succ _ _ _ _ hlt, ← Hv.out]; exact H2
          · rw [foldl_take_succ _ _ _ _ hlt, ← Hv.out]; exact HB2
    · obtain rfl : k = ws.length := by omega
      rw [List.take_length] at H HB
      have hS0 : Hid (∀ r b, Search ws (startD ws) (.map []) r b → Search ws (startD ws) (.map []) r b) := Lib.hid (fun _ _ h => h)
      change Hid (DW ws A c w n 0 (startD ws) (.map []) wr) at H
      change Hid (Bnd ws (startD ws) (.map []) N) at HB
      have hSW : Hid (ws.length * (ws.length + (sufs ws).length + 1) = ws.length * ws.length + ws.length * (sufs ws).length + ws.length) := Lib.hid (by rw [Nat.mul_add, Nat.mul_add, Nat.mul_one])
      go_wp2_with fail
      go_loopg [13] (open_ ws (.map [])) (fun g _ w3 => ∃ (D E : DataW Unit) (m m' : Nat), open_ ws E ≤ g ∧ m ≤ ws.length * ws.length + ws.length * ((sufs ws).length - open_ ws E) ∧ m' ≤ (sufs ws).length - open_ ws E ∧ Hid (DW ws A c w m m' D E w3) ∧ Hid (Bnd ws D E (bndT ws E N)) ∧ Hid (∀ r b, Search ws D E r b → Search ws (startD ws) (.map []) r b))
      case atStart =>
        refine ⟨startD ws, .map [], n, 0, Nat.le_refl _, by omega, by omega, H, ?_, hS0⟩
        refine Lib.hid ⟨HB.out.mapD, HB.out.mapE, HB.out.ends, HB.out.free, fun a ha => Nat.le_trans (HB.out.small a ha) ?_⟩
        unfold bndT
        exact Nat.le_mul_of_pos_right _ (by omega)
      case round =>
        clear H HB hS0 hn
        obtain ⟨D, E, m, m', hg, hm, hm', H3, HB3, HS3⟩ := hrel
        have ct := box_cell H3.out.bt
        have Hm := Lib.hid (And.intro hm (And.intro hm' hg))
        clear hm hm' hg
        have hkz : ∀ x : KeyOf D, x.1.length ≤ maxLen := fun x => by
          have h1 := sufs_size (HB3.out.ends (bk x.1) x.2) hN
          have h2 : N * 1 ≤ N * (1 + (sufs ws).length) := Nat.mul_le_mul_left _ (by omega)
          have h3 : (bk x.1).size = x.1.length := rfl
          unfold maxLen; omega
        have Hkz := Lib.hid hkz
        clear hkz
        go_wp2_with fail
        refine (keys_calls _ _).mono ?_
        rintro e w4 ⟨rfl, hw4⟩
        have hb4 : Below wr.heap.size wr w4 := by rw [hw4]; exact below1 _ _
        have hn4 : w4.cell? ⟨wr.heap.size, 0, none⟩ = some (.map (some (w.heap.size + 1))) := by rw [hw4]; exact box_cell (blk_new wr _)
        have hs4 : w4.heap.size = wr.heap.size + 1 := by rw [hw4, World.size_alloc]
        have H4 := Lib.hid (H3.out.carry hC0.out hb4)
        clear hw4
        go_wp2_with fail
        refine (first_calls D _ _ _ _ _ (by omega) (blk_lt H4.out.bt) hn4 (box_cell H4.out.bt) H4.out.tm Hkz.out).mono ?_
        rintro e w5 ⟨s, f, rfl, hF, hb5⟩
        have H5 := Lib.hid (H4.out.carry hC0.out hb5)
        have HF := Lib.hid hF
        clear hF hb5 hb4 hn4 hs4 ct
        cases f
        · go_wp2
          go_ret2
          have hS := HS3.out _ _ (.none HF.out)
          exact ⟨_, _, rfl, hS, H5.out.below⟩
        · have ct5 := box_cell H5.out.bt
          have hsz : s.size ≤ maxLen := by obtain ⟨x, rfl⟩ := firstIs_some HF.out; exact Hkz.out x
          obtain ⟨hlk, htz⟩ := look_txt H5.out.tm hsz
          have HK := Lib.hid (keyS hsz)
          obtain ⟨t, ht⟩ : ∃ t, t = txt D s := ⟨_, rfl⟩
          rw [← ht] at hlk htz
          have Ht := Lib.hid ht
          clear ht
          by_cases hs0 : s = ⟨#[]⟩
          · subst hs0
            go_wp2_with (first
              | (at_delete; refine wpList_delete_own _ rfl _ _ 222 9 rfl 9 (string_keyed Tryz.underlying9) Tryz.underlying222 _ _ m D rfl H5.out.tm _ _ rfl HK.out ?_; intro w6 hown6 hturn6; have H6 := Lib.hid (H5.out.texts hC0.out (Keep.of_grown hturn6.grown) hown6); have cd6 := box_cell H6.out.bd; clear hown6 hturn6)
              | (at_mapUpdate; refine wpList_mapUpdate_own _ rfl _ _ _ 223 rfl 9 4 (string_keyed Tryz.underlying9) Tryz.underlying223 _ _ m' E rfl H6.out.fm (by have h1 := Hm.out.2.1; unfold maxLen; omega) _ _ (kS _) rfl rfl HK.out _ [] (plainElem_bool Tryz.underlying4 true) ?_; intro w7 hown7 hgrow7; have H7 := Lib.hid (H6.out.flags hC0.out (Keep.of_grown hgrow7) hown7); clear hown7 hgrow7 cd6; have ck7 := box_cell H7.out.key)
              | go_in)
            go_ret2
            exact ⟨_, _, rfl, HS3.out _ _ (by rw [Ht.out]; exact .found HF.out), H7.out.below⟩
          · have hse : s.toList.isEmpty = false := by
              rw [Lib.toList_data]
              cases h : s.data.toList with
              | nil => exact absurd (ByteArray.ext (Array.toList_inj.1 h)) hs0
              | cons _ _ => rfl
            have Hse := Lib.hid hse
            go_wp2_with (first
              | (at_delete; refine wpList_delete_own _ rfl _ _ 222 9 rfl 9 (string_keyed Tryz.underlying9) Tryz.underlying222 _ _ m D rfl H5.out.tm _ _ rfl HK.out ?_; intro w6 hown6 hturn6; have H6 := Lib.hid (H5.out.texts hC0.out (Keep.of_grown hturn6.grown) hown6); have cd6 := box_cell H6.out.bd; clear hown6 hturn6)
              | (at_mapUpdate; refine wpList_mapUpdate_own _ rfl _ _ _ 223 rfl 9 4 (string_keyed Tryz.underlying9) Tryz.underlying223 _ _ m' E rfl H6.out.fm (by have h1 := Hm.out.2.1; unfold maxLen; omega) _ _ (kS _) rfl rfl HK.out _ [] (plainElem_bool Tryz.underlying4 true) ?_; intro w7 hown7 hgrow7; have H7 := Lib.hid (H6.out.flags hC0.out (Keep.of_grown hgrow7) hown7); clear hown7 hgrow7 cd6; have ck7 := box_cell H7.out.key)
              | go_in)
            have Hne : Hid (s = ⟨#[]⟩ → False) := Lib.hid hs0
            clear hs0 hse hlk htz ct5
            have hsu := Lib.hid (HB3.out.ends s (firstIs_has HF.out))
            have hfr := HB3.out.free s (firstIs_has HF.out)
            have hgt := Lib.hid (bndT_done (N := N) HB3.out.mapE hsu.out hfr)
            have hop := Lib.hid (open_done HB3.out.mapE hsu.out hfr)
            have htN : Hid (t.size + N ≤ bndT ws (doneE E s) N) := Lib.hid (by have h1 := HB3.out.small s (firstIs_has HF.out); rw [← Ht.out] at h1; have := hgt.out; omega)
            have HB7 : Hid (Bnd ws (D.del (kS s)) (doneE E s) (bndT ws (doneE E s) N)) := Lib.hid (bnd_del HB3.out (by have := hgt.out; omega))
            change Hid (DW ws A c w m (m' + 1) (D.del (kS s)) (doneE E s) w7) at H7
            clear hfr ck7
            go_loopw [81] (fun i w8 => ∃ j n2 : Nat, j ≤ ws.length ∧ i = .int .i64 j ∧ n2 ≤ m + j ∧ Hid (DW ws A c w n2 (m' + 1) ((ws.take j).foldl (leadStep (doneE E s) s t) (D.del (kS s))) (doneE E s) w8) ∧ Hid (Bnd ws ((ws.take j).foldl (leadStep (doneE E s) s t) (D.del (kS s))) (doneE E s) (bndT ws (doneE E s) N))) (fun i _ => ws.length - (intOf i).toNat)
            case atStart => exact ⟨0, m, by omega, rfl, by omega, by simpa using H7, by simpa using HB7⟩
            case round =>
              clear H7 HB7
              obtain ⟨j, n2, hj, rfl, hn2, H8, HB8⟩ := hrel
              by_cases hlj : j < ws.length
              · obtain ⟨ad2, he2, hcell2⟩ := Kd.at_string H8.out.cs j (by omega) (by omega)
                cases he2
                rw [show ((j : Int).toNat) = j from by omega] at hcell2
                obtain ⟨x, hx⟩ : ∃ x, x = rdOf ByteArray.empty ws j := ⟨_, rfl⟩
                rw [← hx] at hcell2
                have Hx := Lib.hid hx
                clear hx
                have hxm : Hid (x ∈ ws) := Lib.hid (by rw [Hx.out]; exact rdOf_mem _ _ hlj)
                have hn2b : Hid (n2 < maxLen) := Lib.hid (by
                  have h1 := Hm.out.1
                  have h2 : ws.length * ((sufs ws).length - open_ ws E) ≤ ws.length * (sufs ws).length := Nat.mul_le_mul_left _ (by omega)
                  have h3 := hSW.out
                  unfold maxLen; omega)
                have hbl := Lib.hid (bndT_le ws (doneE E s) N)
                have ct := box_cell H8.out.bt
                have cd := box_cell H8.out.bd
                cases hp : startsB s x
                · cases hq : startsB x s
                  · have est : ∀ D', leadStep (doneE E s) s t D' x = D' := fun D' => by unfold leadStep; rw [hp, hq]; simp
                    clear ct cd
                    go_wp2_with fail
                    refine (Tryz.strings_CutPrefix s x _).mono ?_
                    rintro e w9 ⟨rfl, rfl⟩
                    rw [show Lib.hasPrefix s.data.toList x.data.toList = false from hp]
                    go_wp2_with fail
                    refine (Tryz.strings_CutPrefix x s _).mono ?_
                    rintro e w9 ⟨rfl, rfl⟩
                    rw [show Lib.hasPrefix x.data.toList s.data.toList = false from hq]
                    go_wp2
                    refine ⟨⟨j + 1, n2, by omega, by simp, by omega, ?_, ?_⟩, by simp [intOf]; omega⟩
                    · rw [foldl_take_succ _ _ _ _ hlj, ← Hx.out, est]; exact H8
                    · rw [foldl_take_succ _ _ _ _ hlj, ← Hx.out, est]; exact HB8
                  · have hr0 := sufs_rest (sufs_self hxm.out) hq
                    obtain ⟨r, hrr⟩ : ∃ r, r = restOf x s := ⟨_, rfl⟩
                    have hr3 : (⟨(Lib.trimPrefix x.data.toList s.data.toList).toArray⟩ : ByteArray) = r := hrr.symm
                    rw [← hrr] at hr0
                    have est : ∀ D', leadStep (doneE E s) s t D' x = reachD D' (doneE E s) r (t ++ r) := fun D' => by unfold leadStep; rw [hp, hq, ← hrr]; simp
                    have Hr0 := Lib.hid hr0
                    clear hrr hr0
                    have htr : ¬ 9223372036854775807 < t.size + r.size := by
                      have h2 := sufs_size Hr0.out hN
                      have h3 := htN.out
                      have h4 := hbl.out
                      omega
                    go_wp2_with fail
                    refine (Tryz.strings_CutPrefix s x _).mono ?_
                    rintro e w9 ⟨rfl, rfl⟩
                    rw [show Lib.hasPrefix s.data.toList x.data.toList = false from hp]
                    go_wp2_with fail
                    refine (Tryz.strings_CutPrefix x s _).mono ?_
                    rintro e w9 ⟨rfl, rfl⟩
                    rw [show Lib.hasPrefix x.data.toList s.data.toList = true from hq, hr3]
                    go_wp2_with fail
                    refine (reach_calls _ _ _ _ _ _ n2 (m' + 1) r (t ++ r) _ ct cd H8.out.tm H8.out.fm (blk_lt H8.out.bt) hn2b.out ?_ ?_).mono ?_
                    · have h2 := sufs_size Hr0.out hN
                      have h3 : N * 1 ≤ N * (1 + (sufs ws).length) := Nat.mul_le_mul_left _ (by omega)
                      unfold maxLen; omega
                    · have h2 := sufs_size Hr0.out hN
                      have h3 := htN.out
                      have h4 := hbl.out
                      rw [ByteArray.size_append]
                      unfold maxLen; omega
                    rintro e w9 ⟨rfl, hT9, hk9⟩
                    have H9 := Lib.hid (H8.out.texts hC0.out hk9 hT9)
                    clear hT9 hk9 ct cd
                    go_wp2
                    refine ⟨⟨j + 1, n2 + 1, by omega, by simp, by omega, ?_, ?_⟩, by simp [intOf]; omega⟩
                    · rw [foldl_take_succ _ _ _ _ hlj, ← Hx.out, est]; exact H9
                    · rw [foldl_take_succ _ _ _ _ hlj, ← Hx.out]; exact Lib.hid (bnd_lead HB8.out hN hsu.out hxm.out htN.out)
                · have hr0 := sufs_rest hsu.out hp
                  obtain ⟨r, hrr⟩ : ∃ r, r = restOf s x := ⟨_, rfl⟩
                  have hr3 : (⟨(Lib.trimPrefix s.data.toList x.data.toList).toArray⟩ : ByteArray) = r := hrr.symm
                  rw [← hrr] at hr0
                  have est : ∀ D', leadStep (doneE E s) s t D' x = reachD D' (doneE E s) r t := fun D' => by unfold leadStep; rw [hp, ← hrr]; simp
                  have Hr0 := Lib.hid hr0
                  clear hrr hr0
                  go_wp2_with (go_at_call 118; refine (Tryz.strings_CutPrefix s x _).mono ?_; rintro e w9 ⟨rfl, rfl⟩; rw [show Lib.hasPrefix s.data.toList x.data.toList = true from hp]; rw [hr3])
                  refine (reach_calls _ _ _ _ _ _ n2 (m' + 1) r t _ ct cd H8.out.tm H8.out.fm (blk_lt H8.out.bt) hn2b.out ?_ ?_).mono ?_
                  · have h2 := sufs_size Hr0.out hN
                    have h3 : N * 1 ≤ N * (1 + (sufs ws).length) := Nat.mul_le_mul_left _ (by omega)
                    unfold maxLen; omega
                  · have h3 := htN.out
                    have h4 := hbl.out
                    unfold maxLen; omega
                  rintro e w9 ⟨rfl, hT9, hk9⟩
                  have H9 := Lib.hid (H8.out.texts hC0.out hk9 hT9)
                  clear hT9 hk9 ct cd
                  go_wp2
                  refine ⟨⟨j + 1, n2 + 1, by omega, by simp, by omega, ?_, ?_⟩, by simp [intOf]; omega⟩
                  · rw [foldl_take_succ _ _ _ _ hlj, ← Hx.out, est]; exact H9
                  · rw [foldl_take_succ _ _ _ _ hlj, ← Hx.out]; exact Lib.hid (bnd_lead HB8.out hN hsu.out hxm.out htN.out)
              · obtain rfl : j = ws.length := by omega
                rw [List.take_length] at H8 HB8
                go_wp2
                go_roundg (open_ ws (doneE E s))
                case rel =>
                  have h1 := Hm.out.1
                  have h2 := Hm.out.2.1
                  have h3 := hop.out
                  have h4 := open_le ws E
                  have h5 : ws.length * ((sufs ws).length - open_ ws E) + ws.length ≤ ws.length * ((sufs ws).length - open_ ws (doneE E s)) := by
                    rw [← Nat.mul_succ]; exact Nat.mul_le_mul_left _ (by omega)
                  refine ⟨_, _, n2, m' + 1, Nat.le_refl _, by omega, by omega, H8, HB8, Lib.hid (fun r b hS => HS3.out r b (.step HF.out Hne.out ?_))⟩
                  rw [← Ht.out]; exact hS
                case measure => have h1 := Hm.out.2.2; have h2 := hop.out; omega
end Go.Proofs.YtfnibmcenjiodaaGreatDoor.M
namespace Go.Proofs.YtfnibmcenjiodaaGreatDoor.M
open Go.Sort Go.Shelf Go.RowKit Go.Maps Go.Proofs.YtfnibmcenjiodaaGreatDoorW.PrintWords Go.Proofs.YtfnibmcenjiodaaGreatDoorW.PrintLast Go.Proofs.YtfnibmcenjiodaaGreatDoorW.PrintMore
attribute [local go_sem] Oper.semAt_some
theorem sufs_length : ∀ (l : List ByteArray) (N : Nat), (∀ x ∈ l, x.size ≤ N) → (sufs l).length ≤ l.length * (N + 1)
  | [], _, _ => by simp [sufs]
  | x :: l, N, h => by
    have ih := sufs_length l N (fun y hy => h y (by simp [hy]))
    have hx := h x (by simp)
    have e : (sufs (x :: l)).length = (x.size + 1) + (sufs l).length := by simp [sufs]
    rw [e, List.length_cons, Nat.succ_mul]
    omega
def DoubleIs (l : List ByteArray) (s : ByteArray) (n : Int) : Prop :=
  (codeOk l = false ∧ s = ⟨#[]⟩ ∧ n = 110) ∨ (codeOk l = true ∧ ∃ r f, Search l (startD l) (.map []) r f ∧ ((f = true ∧ s = r ∧ n = 0) ∨ (f = false ∧ s = ⟨#[]⟩ ∧ n = 6)))
set_option maxHeartbeats 1000000 in
theorem wire_Double (A : Option Addr) (c : Nat) (l : List ByteArray) (w : World) (hr : Kd.C Kd.string w A l.length l) (hsz : ∀ x ∈ l, x.size ≤ 9223372036854775807) :
    Calls Tryz.prog 42 #[.agg #[.slice A l.length c]] w fun e w' => ∃ s n, e = .returned (.tuple #[.string s, .int .i64 n]) ∧ DoubleIs l s n ∧ Below w.heap.size w w' := by
  go_enter Tryz.func42, Tryz.ntmps42
  go_wp2_with fail
  refine (wire_Check A c l _ (Kd.C_alloc hr _) hsz).mono ?_
  rintro e w1 ⟨rfl, hb⟩
  have HX := Lib.hid (blk_below (blk_new w (.cells #[.slice A l.length c] 24)) hb)
  have HB := Lib.hid (below_step (below1 w (.cells #[.slice A l.length c] 24)) hb)
  have HR := Lib.hid (Kd.C_below hr HB.out)
  have hcx := box_cell HX.out
  clear hb hr
  cases hok : codeOk l
  · have hE : checkE l = 110 := by simp [checkE, hok]
    rw [hE]
    clear hE
    go_wp2
    go_ret2
    exact ⟨_, _, rfl, .inl ⟨hok, rfl, rfl⟩, HB.out⟩
  have hE : checkE l = 0 := by simp [checkE, hok]
  rw [hE]
  clear hE
  have Hok := Lib.hid hok
  clear hok
  have hw := Lib.hid (codeOk_words Hok.out)
  have hl := Lib.hid (codeOk_len Hok.out)
  have hs := Lib.hid (sufs_length l 6 (fun x hx => (hw.out x hx).2))
  go_wp2_with fail
  refine (double_calls A c l 6 w1 HR.out (fun x hx => (hw.out x hx).2) ?_ ?_ (by have := hl.out; have := hs.out; omega)).mono ?_
  · have := hl.out; have := hs.out; omega
  · have h1 := hl.out; have h2 := hs.out
    exact Nat.le_trans (Nat.mul_le_mul h1.2 (show l.length + (sufs l).length + 1 ≤ 57 by omega)) (by decide)
  rintro e w2 ⟨s, f, rfl, hS, hb2⟩
  have HS := Lib.hid hS
  have HB2 := Lib.hid (below_step HB.out hb2)
  clear hS hb2
  cases f
  · go_wp2
    go_ret2
    exact ⟨_, _, rfl, .inr ⟨Hok.out, s, false, HS.out, .inr ⟨rfl, rfl, rfl⟩⟩, HB2.out⟩
  · go_wp2
    go_ret2
    exact ⟨_, _, rfl, .inr ⟨Hok.out, s, true, HS.out, .inl ⟨rfl, rfl, rfl⟩⟩, HB2.out⟩
def UniqueIs (l : List ByteArray) (b : Bool) (n : Int) : Prop := ∃ s m, DoubleIs l s m ∧ ((m = 110 ∧ b = false ∧ n = 110) ∨ (m ≠ 110 ∧ b = decide (m = 6) ∧ n = 0))
set_option maxHeartbeats 1000000 in
theorem wire_Unique (A : Option Addr) (c : Nat) (l : List ByteArray) (w : World) (hr : Kd.C Kd.string w A l.length l) (hsz : ∀ x ∈ l, x.size ≤ 9223372036854775807) :
    Calls Tryz.prog 29 #[.agg #[.slice A l.length c]] w fun e w' => ∃ b n, e = .returned (.tuple #[.bool b, .int .i64 n]) ∧ UniqueIs l b n ∧ Below w.heap.size w w' := by
  go_enter Tryz.func29, Tryz.ntmps29
  go_wp2_with fail
  refine (wire_Double A c l _ (Kd.C_alloc hr _) hsz).mono ?_
  rintro e w1 ⟨s, n, rfl, hD, hb⟩
  have HD := Lib.hid hD
  have HB := Lib.hid (below_step (below1 w (.cells #[.slice A l.length c] 24)) hb)
  have hn : n = 110 ∨ n = 0 ∨ n = 6 := by
    rcases hD with ⟨_, _, h⟩ | ⟨_, _, _, _, ⟨_, _, h⟩ | ⟨_, _, h⟩⟩
    · exact .inl h
    · exact .inr (.inl h)
    · exact .inr (.inr h)
  clear hb hr hD
  rcases hn with rfl | rfl | rfl
  · go_wp2
    go_ret2
    exact ⟨_, _, rfl, ⟨s, _, HD.out, .inl ⟨rfl, rfl, rfl⟩⟩, HB.out⟩
  · go_wp2
    go_ret2
    exact ⟨_, _, rfl, ⟨s, _, HD.out, .inr ⟨by decide, rfl, rfl⟩⟩, HB.out⟩
  · go_wp2
    go_ret2
    exact ⟨_, _, rfl, ⟨s, _, HD.out, .inr ⟨by decide, rfl, rfl⟩⟩, HB.out⟩
end Go.Proofs.YtfnibmcenjiodaaGreatDoor.M
namespace Go.Proofs.YtfnibmcenjiodaaGreatDoor.M
open Go.Sort Go.Shelf Go.RowKit Go.Maps Go.Proofs.YtfnibmcenjiodaaGreatDoorW.PrintWords Go.Proofs.YtfnibmcenjiodaaGreatDoorW.PrintLast Go.Proofs.YtfnibmcenjiodaaGreatDoorW.PrintMore
theorem codeOk_nodup {l : List ByteArray} (h : codeOk l = true) : l.Nodup := by
  simp only [codeOk, Bool.and_eq_true] at h
  exact (N.distinct_iff l).1 h.2
theorem codeOk_pos {l : List ByteArray} (h : codeOk l = true) : ∀ x ∈ l, 1 ≤ x.size := fun x hx => (codeOk_words h x hx).1
theorem leT_antisymm {a b : ByteArray} (h : leT a b) (k : leT b a) : a = b := by
  have e : a.size = b.size := Nat.le_antisymm h.1 k.1
  exact ByteArray.ext (Array.toList_inj.1 (List.le_antisymm (h.2 e.symm) (k.2 e)))
def Least2 (l : List ByteArray) (s : ByteArray) : Prop := 2 ≤ waysV l s ∧ ∀ t, 2 ≤ waysV l t → leT s t
theorem least2_eq {l : List ByteArray} {s t : ByteArray} (h : Least2 l s) (k : Least2 l t) : s = t := leT_antisymm (h.2 _ k.1) (k.2 _ h.1)
open Classical in
noncomputable def doubleR (l : List ByteArray) : ByteArray × Int :=
  if codeOk l = true then (if h : ∃ s, Least2 l s then (Classical.choose h, 0) else (⟨#[]⟩, 6)) else (⟨#[]⟩, 110)
noncomputable def uniqueR (l : List ByteArray) : Bool × Int := if codeOk l = true then (decide ((doubleR l).2 = 6), 0) else (false, 110)
theorem double_bad {l : List ByteArray} (h : codeOk l = false) : doubleR l = (⟨#[]⟩, 110) := by
  unfold doubleR; rw [if_neg (by rw [h]; decide)]
theorem double_some {l : List ByteArray} (h : codeOk l = true) {s : ByteArray} (k : Least2 l s) : doubleR l = (s, 0) := by
  unfold doubleR
  have hx : ∃ s, Least2 l s := ⟨s, k⟩
  rw [if_pos h, dif_pos hx, least2_eq (Classical.choose_spec hx) k]
theorem double_none {l : List ByteArray} (h : codeOk l = true) (k : ∀ t, waysV l t < 2) : doubleR l = (⟨#[]⟩, 6) := by
  unfold doubleR
  rw [if_pos h, dif_neg]
  rintro ⟨s, hs, _⟩
  have := k s
  omega
theorem double_eq {l : List ByteArray} {s : ByteArray} {n : Int} (h : DoubleIs l s n) : doubleR l = (s, n) := by
  rcases h with ⟨h1, rfl, rfl⟩ | ⟨h1, r, f, hS, hh⟩
  · exact double_bad h1
  · have hp := codeOk_pos h1
    have hn := codeOk_nodup h1
    have hw := search_least hS id (whole_start l)
    rcases hh with ⟨rfl, rfl, rfl⟩ | ⟨rfl, rfl, rfl⟩
    · have hL := search_sound hS (sound_start l) rfl
      refine double_some h1 ⟨lead_two hp hL, fun t ht => ?_⟩
      obtain ⟨t', L, hl⟩ := two_lead hp hn ht
      exact leT_trans (hw t' L).2 hl
    · refine double_none h1 (fun t => ?_)
      rcases (show waysV l t < 2 ∨ 2 ≤ waysV l t by omega) with h | h
      · exact h
      · obtain ⟨t', L, hl⟩ := two_lead hp hn h
        exact absurd (hw t' L).1 (by decide)
theorem unique_eq {l : List ByteArray} {b : Bool} {n : Int} (h : UniqueIs l b n) : uniqueR l = (b, n) := by
  obtain ⟨s, m, hD, hh⟩ := h
  have e := double_eq hD
  unfold uniqueR
  have hm : codeOk l = false ↔ m = 110 := by
    rcases hD with ⟨h1, _, h2⟩ | ⟨h1, _, _, _, ⟨_, _, h2⟩ | ⟨_, _, h2⟩⟩ <;> simp [h1, h2]
  rcases hh with ⟨h1, rfl, rfl⟩ | ⟨h1, rfl, rfl⟩
  · rw [if_neg (by rw [hm.2 h1]; decide)]
  · have : codeOk l = true := by
      cases h : codeOk l
      · exact absurd (hm.1 h) h1
      · rfl
    rw [if_pos this, e]
theorem lex_min : ∀ (n : Nat) (P : List UInt8 → Prop), (∃ l, l.length = n ∧ P l) → ∃ m, m.length = n ∧ P m ∧ ∀ l, l.length = n → P l → m ≤ l
  | 0, P, ⟨l, h1, h2⟩ => ⟨l, h1, h2, fun l' h _ => by
      rw [List.eq_nil_of_length_eq_zero h1, List.eq_nil_of_length_eq_zero h]; exact List.le_refl _⟩
  | n + 1, P, ⟨l, h1, h2⟩ => by
    have key : ∀ k, (∃ (b : UInt8) (l : List UInt8), b.toNat = k ∧ l.length = n ∧ P (b :: l)) → ∃ (b : UInt8) (l : List UInt8), l.length = n ∧ P (b :: l) ∧ ∀ (c : UInt8) (l' : List UInt8), l'.length = n → P (c :: l') → b.toNat ≤ c.toNat := by
      intro k
      induction k using Nat.strongRecOn with
      | ind k ih =>
        rintro ⟨b, l, e, h1, h2⟩
        by_cases hc : ∃ (c : UInt8) (l' : List UInt8), l'.length = n ∧ P (c :: l') ∧ c.toNat < k
        · obtain ⟨c, l', h3, h4, h5⟩ := hc
          exact ih c.toNat h5 ⟨c, l', rfl, h3, h4⟩
        · refine ⟨b, l, h1, h2, fun c l' h3 h4 => ?_⟩
          rcases Nat.lt_or_ge c.toNat b.toNat with h | h
          · exact absurd ⟨c, l', h3, h4, by omega⟩ hc
          · exact h
    obtain ⟨b, l, h3, h4, h5⟩ := by
      cases l with
      | nil => cases h1
      | cons b l => exact key b.toNat ⟨b, l, rfl, by simpa using h1, h2⟩
    obtain ⟨m, h6, h7, h8⟩ := lex_min n (fun l => P (b :: l)) ⟨l, h3, h4⟩
    refine ⟨b :: m, by simp [h6], h7, fun l' h9 h10 => ?_⟩
    cases l' with
    | nil => cases h9
    | cons c l' =>
      have h11 := h5 c l' (by simpa using h9) h10
      rcases Nat.lt_or_ge b.toNat c.toNat with h | h
      · exact List.le_of_lt (List.cons_lt_cons_iff.2 (.inl (UInt8.lt_iff_toNat_lt.2 h)))
      · obtain rfl : b = c := UInt8.toNat_inj.1 (by omega)
        have := h8 l' (by simpa using h9) h10
        exact List.cons_le_cons_iff.2 (.inr ⟨rfl, this⟩)
theorem least2_exists {l : List ByteArray} {s : ByteArray} (h : 2 ≤ waysV l s) : ∃ r, Least2 l r := by
  have key : ∀ n, (∃ s : ByteArray, s.size = n ∧ 2 ≤ waysV l s) → ∃ s : ByteArray, 2 ≤ waysV l s ∧ ∀ t, 2 ≤ waysV l t → s.size ≤ t.size := by
    intro n
    induction n using Nat.strongRecOn with
    | ind n ih =>
      rintro ⟨s, e, h⟩
      by_cases hc : ∃ t, 2 ≤ waysV l t ∧ t.size < n
      · obtain ⟨t, h1, h2⟩ := hc
        exact ih t.size h2 ⟨t, rfl, h1⟩
      · refine ⟨s, h, fun t ht => ?_⟩
        rcases Nat.lt_or_ge t.size s.size with h3 | h3
        · exact absurd ⟨t, ht, by omega⟩ hc
        · exact h3
  obtain ⟨s, h1, h2⟩ := key _ ⟨s, rfl, h⟩
  obtain ⟨m, h3, h4, h5⟩ := lex_min s.size (fun d => 2 ≤ waysV l ⟨d.toArray⟩) ⟨s.data.toList, data_length s, h1⟩
  have hm : (⟨m.toArray⟩ : ByteArray).size = m.length := by show m.toArray.size = _; simp
  refine ⟨⟨m.toArray⟩, h4, fun t ht => ⟨by rw [hm, h3]; exact h2 t ht, fun e => ?_⟩⟩
  rw [hm, h3] at e
  have := h5 t.data.toList (by rw [data_length]; exact e) ht
  simpa using this
theorem double_cases {l : List ByteArray} (h : codeOk l = true) : (∃ s, Least2 l s ∧ doubleR l = (s, 0) ∧ uniqueR l = (false, 0)) ∨ ((∀ t, waysV l t < 2) ∧ doubleR l = (⟨#[]⟩, 6) ∧ uniqueR l = (true, 0)) := by
  by_cases hx : ∃ s, 2 ≤ waysV l s
  · obtain ⟨s, hs⟩ := hx
    obtain ⟨r, hr⟩ := least2_exists hs
    refine .inl ⟨r, hr, double_some h hr, ?_⟩
    unfold uniqueR; rw [if_pos h, double_some h hr]; rfl
  · have hn : ∀ t, waysV l t < 2 := fun t => by
      rcases (show waysV l t < 2 ∨ 2 ≤ waysV l t by omega) with h | h
      · exact h
      · exact absurd ⟨t, h⟩ hx
    refine .inr ⟨hn, double_none h hn, ?_⟩
    unfold uniqueR; rw [if_pos h, double_none h hn]; rfl
end Go.Proofs.YtfnibmcenjiodaaGreatDoor.M
namespace Go.Proofs.YtfnibmcenjiodaaGreatDoor.M
open Go.Sort Go.Shelf Go.RowKit Go.Proofs.YtfnibmcenjiodaaGreatDoorW.PrintWords Go.Proofs.YtfnibmcenjiodaaGreatDoorW.PrintLast Go.Proofs.YtfnibmcenjiodaaGreatDoorW.PrintMore
attribute [local go_sem] Oper.semAt_some
abbrev dotS : ByteArray := ⟨#[46]⟩
abbrev dashS : ByteArray := ⟨#[45]⟩
abbrev bothS : ByteArray := ⟨#[45, 46]⟩
theorem iter_lower (w : World) (s : ByteArray) (p j : Nat) (h : j < w.heap.size) : (w.iter s p).heap[j]? = w.heap[j]? := Below.heap_alloc _ _ _ h
theorem below_iter {B : Nat} {a w : World} (h : Below B a w) (hB : B ≤ w.heap.size) (s : ByteArray) (p : Nat) : Below B a (w.iter s p) := h.trans ((Below.refl B w).alloc hB _)
theorem next_one (w : World) (k : Nat) (s : ByteArray) (pos : Nat) (v : Int) (hk : w.heap[k]? = some (.stringIter s pos)) (h : pos < s.size) (ha : (s[pos]'h).toNat < 128) (hv : (((s[pos]'h).toNat : Nat) : Int) = v) (p' : Nat) (hp : pos + 1 = p') :
    ∀ ty, (Instr.next (.pointer (some ⟨k, 0, none⟩)) true ty).run Tryz.prog w = .ok (.tuple #[.bool true, .int .i64 pos, .int .i32 v]) (w.iterAt k s p') := by
  intro ty; subst hv hp; exact Lib.run_next_ascii_at w k s pos ty hk h ha
set_option maxRecDepth 100000 in
set_option maxHeartbeats 4000000 in
theorem cutLeft_dot (w : World) : Calls Tryz.prog 120 #[.string bothS, .string dotS] w fun e w' => e = .returned (.string bothS) ∧ Below w.heap.size w w' := by
  obtain ⟨W1, hW1⟩ : ∃ W1, W1 = (w.iter bothS 0).iterAt w.heap.size bothS 1 := ⟨_, rfl⟩
  have n1 := next_one (w.iter bothS 0) w.heap.size bothS 0 45 (World.iter_heap _ _ _) (by decide) (by decide) (by decide) 1 rfl
  rw [← hW1] at n1
  have n2 := next_one (W1.iter dotS 0) W1.heap.size dotS 0 46 (World.iter_heap _ _ _) (by decide) (by decide) (by decide) 1 rfl
  have n3 := fun ty => Lib.run_next_end_at (P := Tryz.prog) ((W1.iter dotS 0).iterAt W1.heap.size dotS 1) W1.heap.size dotS 1 ty (Lib.iterAt_heap _ _ _ _ _ (World.iter_heap _ _ _)) (by decide)
  have hB : Below w.heap.size w ((W1.iter dotS 0).iterAt W1.heap.size dotS 1) := by
    have h1 : w.heap.size ≤ W1.heap.size := by rw [hW1, Lib.iterAt_size]; exact (below_iter (Below.refl _ _) (Nat.le_refl _) _ _ : Below w.heap.size w _).size
    refine Lib.below_iterAt (below_iter ?_ h1 _ _) h1 _ _
    rw [hW1]
    exact Lib.below_iterAt (below_iter (Below.refl _ _) (Nat.le_refl _) _ _) (Nat.le_refl _) _ _
  clear hW1
  go_enter Tryz.func120, Tryz.ntmps120
  go_wp2
  refine wp_loop_rounds 3 ?_
  rw [rounds_succ]
  go_wp2
  refine wp_loop_rounds 3 ?_
  rw [rounds_succ]
  go_wp2
  rw [rounds_succ]
  go_wp2
  go_ret
  exact ⟨rfl, hB⟩
set_option maxRecDepth 100000 in
set_option maxHeartbeats 4000000 in
theorem cutLeft_dash (w : World) : Calls Tryz.prog 120 #[.string bothS, .string dashS] w fun e w' => e = .returned (.string dotS) ∧ Below w.heap.size w w' := by
  obtain ⟨W1, hW1⟩ : ∃ W1, W1 = (w.iter bothS 0).iterAt w.heap.size bothS 1 := ⟨_, rfl⟩
  have n1 := next_one (w.iter bothS 0) w.heap.size bothS 0 45 (World.iter_heap _ _ _) (by decide) (by decide) (by decide) 1 rfl
  rw [← hW1] at n1
  have hk1 : W1.heap[w.heap.size]? = some (.stringIter bothS 1) := by rw [hW1]; exact Lib.iterAt_heap _ _ _ _ _ (World.iter_heap _ _ _)
  have hb1 : Below w.heap.size w W1 := by rw [hW1]; exact Lib.below_iterAt (below_iter (Below.refl _ _) (Nat.le_refl _) _ _) (Nat.le_refl _) _ _
  have hl1 := blk_lt hk1
  have n2 := next_one (W1.iter dashS 0) W1.heap.size dashS 0 45 (World.iter_heap _ _ _) (by decide) (by decide) (by decide) 1 rfl
  obtain ⟨W2, hW2⟩ : ∃ W2, W2 = (W1.iter dashS 0).iterAt W1.heap.size dashS 1 := ⟨_, rfl⟩
  rw [← hW2] at n2
  have n3 := fun ty => Lib.run_next_end_at (P := Tryz.prog) W2 W1.heap.size dashS 1 ty (by rw [hW2]; exact Lib.iterAt_heap _ _ _ _ _ (World.iter_heap _ _ _)) (by decide)
  have hk2 : W2.heap[w.heap.size]? = some (.stringIter bothS 1) := by rw [hW2, Lib.iterAt_other _ _ _ _ _ (by omega), iter_lower _ _ _ _ hl1]; exact hk1
  have hb2 : Below w.heap.size w W2 := by rw [hW2]; exact Lib.below_iterAt (below_iter hb1 hb1.size _ _) hb1.size _ _
  obtain ⟨W3, hW3⟩ : ∃ W3, W3 = W2.iterAt w.heap.size bothS 2 := ⟨_, rfl⟩
  have n4 := next_one W2 w.heap.size bothS 1 46 hk2 (by decide) (by decide) (by decide) 2 rfl
  rw [← hW3] at n4
  have hb3 : Below w.heap.size w W3 := by rw [hW3]; exact Lib.below_iterAt hb2 (Nat.le_refl _) _ _
  have n5 := next_one (W3.iter dashS 0) W3.heap.size dashS 0 45 (World.iter_heap _ _ _) (by decide) (by decide) (by decide) 1 rfl
  obtain ⟨W4, hW4⟩ : ∃ W4, W4 = (W3.iter dashS 0).iterAt W3.heap.size dashS 1 := ⟨_, rfl⟩
  rw [← hW4] at n5
  have n6 := fun ty => Lib.run_next_end_at (P := Tryz.prog) W4 W3.heap.size dashS 1 ty (by rw [hW4]; exact Lib.iterAt_heap _ _ _ _ _ (World.iter_heap _ _ _)) (by decide)
  have hb4 : Below w.heap.size w W4 := by rw [hW4]; exact Lib.below_iterAt (below_iter hb3 hb3.size _ _) hb3.size _ _
  clear hW1 hW2 hW3 hW4 hk1 hk2 hl1 hb1 hb2 hb3
  go_enter Tryz.func120, Tryz.ntmps120
  go_wp2
  refine wp_loop_rounds 3 ?_
  rw [rounds_succ]
  go_wp2
  refine wp_loop_rounds 3 ?_
  rw [rounds_succ]
  go_wp2
  rw [rounds_succ]
  go_wp2
  rw [rounds_succ]
  go_wp2
  refine wp_loop_rounds 3 ?_
  rw [rounds_succ]
  go_wp2
  rw [rounds_succ]
  go_wp2
  go_ret
  exact ⟨rfl, hb4⟩
set_option maxRecDepth 100000 in
theorem last_both (w : World) : Calls Tryz.prog 170 #[.string bothS] w fun e w' => e = .returned (.tuple #[.int .i32 46, .int .i64 1]) ∧ w' = w := by
  have e1 : wrap32 (bothS[1].toNat : Int) = 46 := by kernel_rfl
  go_enter Tryz.func170, Tryz.ntmps170
  go_wp2
  go_ret2
  refine ⟨?_, rfl⟩
  show Ending.returned (.tuple #[.int .i32 (wrap32 (bothS[1].toNat : Int)), .int .i64 1]) = _
  rw [e1]
set_option maxRecDepth 100000 in
theorem last_dash (w : World) : Calls Tryz.prog 170 #[.string dashS] w fun e w' => e = .returned (.tuple #[.int .i32 45, .int .i64 1]) ∧ w' = w := by
  have e1 : wrap32 (dashS[0].toNat : Int) = 45 := by kernel_rfl
  go_enter Tryz.func170, Tryz.ntmps170
  go_wp2
  go_ret2
  refine ⟨?_, rfl⟩
  show Ending.returned (.tuple #[.int .i32 (wrap32 (dashS[0].toNat : Int)), .int .i64 1]) = _
  rw [e1]
set_option maxRecDepth 100000 in
theorem last_dot (w : World) : Calls Tryz.prog 170 #[.string dotS] w fun e w' => e = .returned (.tuple #[.int .i32 46, .int .i64 1]) ∧ w' = w := by
  have e1 : wrap32 (dotS[0].toNat : Int) = 46 := by kernel_rfl
  go_enter Tryz.func170, Tryz.ntmps170
  go_wp2
  go_ret2
  refine ⟨?_, rfl⟩
  show Ending.returned (.tuple #[.int .i32 (wrap32 (dotS[0].toNat : Int)), .int .i64 1]) = _
  rw [e1]
set_option maxRecDepth 100000 in
set_option maxHeartbeats 4000000 in
theorem cutRight_dash (w : World) : Calls Tryz.prog 119 #[.string dotS, .string dashS] w fun e w' => e = .returned (.string dotS) ∧ Below w.heap.size w w' := by
  obtain ⟨W1, hW1⟩ : ∃ W1, W1 = (w.iter dashS 0).iterAt w.heap.size dashS 1 := ⟨_, rfl⟩
  have n1 := next_one (w.iter dashS 0) w.heap.size dashS 0 45 (World.iter_heap _ _ _) (by decide) (by decide) (by decide) 1 rfl
  rw [← hW1] at n1
  have n3 := fun ty => Lib.run_next_end_at (P := Tryz.prog) W1 w.heap.size dashS 1 ty (by rw [hW1]; exact Lib.iterAt_heap _ _ _ _ _ (World.iter_heap _ _ _)) (by decide)
  have hb1 : Below w.heap.size w W1 := by rw [hW1]; exact Lib.below_iterAt (below_iter (Below.refl _ _) (Nat.le_refl _) _ _) (Nat.le_refl _) _ _
  clear hW1
  go_enter Tryz.func119, Tryz.ntmps119
  go_wp2
  refine wp_loop_rounds 3 ?_
  rw [rounds_succ]
  go_wp2_with fail
  refine (last_dot w).mono ?_
  rintro e w' ⟨rfl, rfl⟩
  go_wp2
  refine wp_loop_rounds 3 ?_
  rw [rounds_succ]
  go_wp2
  rw [rounds_succ]
  go_wp2
  go_ret
  exact ⟨rfl, hb1⟩
set_option maxRecDepth 100000 in
set_option maxHeartbeats 4000000 in
theorem cutRight_dot (w : World) : Calls Tryz.prog 119 #[.string bothS, .string dotS] w fun e w' => e = .returned (.string dashS) ∧ Below w.heap.size w w' := by
  obtain ⟨W1, hW1⟩ : ∃ W1, W1 = (w.iter dotS 0).iterAt w.heap.size dotS 1 := ⟨_, rfl⟩
  have n1 := next_one (w.iter dotS 0) w.heap.size dotS 0 46 (World.iter_heap _ _ _) (by decide) (by decide) (by decide) 1 rfl
  rw [← hW1] at n1
  have n3 := fun ty => Lib.run_next_end_at (P := Tryz.prog) W1 w.heap.size dotS 1 ty (by rw [hW1]; exact Lib.iterAt_heap _ _ _ _ _ (World.iter_heap _ _ _)) (by decide)
  have hb1 : Below w.heap.size w W1 := by rw [hW1]; exact Lib.below_iterAt (below_iter (Below.refl _ _) (Nat.le_refl _) _ _) (Nat.le_refl _) _ _
  obtain ⟨W2, hW2⟩ : ∃ W2, W2 = (W1.iter dotS 0).iterAt W1.heap.size dotS 1 := ⟨_, rfl⟩
  have n4 := next_one (W1.iter dotS 0) W1.heap.size dotS 0 46 (World.iter_heap _ _ _) (by decide) (by decide) (by decide) 1 rfl
  rw [← hW2] at n4
  have n5 := fun ty => Lib.run_next_end_at (P := Tryz.prog) W2 W1.heap.size dotS 1 ty (by rw [hW2]; exact Lib.iterAt_heap _ _ _ _ _ (World.iter_heap _ _ _)) (by decide)
  have hb2 : Below w.heap.size w W2 := by rw [hW2]; exact Lib.below_iterAt (below_iter hb1 hb1.size _ _) hb1.size _ _
  clear hW1 hW2 hb1
  have he : bothS.extract 0 1 = dashS := by decide
  go_enter Tryz.func119, Tryz.ntmps119
  go_wp2
  refine wp_loop_rounds 3 ?_
  rw [rounds_succ]
  go_wp2_with fail
  refine (last_both w).mono ?_
  rintro e w' ⟨rfl, rfl⟩
  go_wp2
  refine wp_loop_rounds 3 ?_
  rw [rounds_succ]
  go_wp2
  rw [rounds_succ]
  go_wp2
  rw [rounds_succ]
  go_wp2_with fail
  refine (last_dash W1).mono ?_
  rintro e w' ⟨rfl, rfl⟩
  go_wp2
  refine wp_loop_rounds 3 ?_
  rw [rounds_succ]
  go_wp2
  rw [rounds_succ]
  go_wp2
  go_ret
  exact ⟨rfl, hb2⟩
def flipB (b : UInt8) : UInt8 := if b = 45 then 46 else 45
theorem signs_at {s : ByteArray} (h : isSigns s = true) (i : Nat) (hi : i < s.size) : s.data[i]'hi = 45 ∨ s.data[i]'hi = 46 := by
  have := List.all_eq_true.1 h (s.data[i]'hi) (by simp)
  simpa using this
def turnAt (s : ByteArray) (i : Nat) : ByteArray := s.extract 0 i ++ ⟨#[flipB (s.data.getD i 0)]⟩ ++ s.extract (i + 1) s.size
theorem extract_one (s : ByteArray) (i : Nat) (hi : i < s.size) : s.extract i (i + 1) = ⟨#[s.data[i]'hi]⟩ := by
  have hi' : i < s.data.size := hi
  apply ByteArray.ext
  rw [ByteArray.data_extract]
  apply Array.ext
  · simp; omega
  · intro j h1 h2
    simp at h2
    subst h2
    simp
set_option maxRecDepth 100000 in
set_option maxHeartbeats 4000000 in
theorem turned_calls (s : ByteArray) (i : Nat) (hi : i < s.size) (hs : s.size ≤ 1000) (hsg : isSigns s = true) (w : World) : Calls Tryz.prog 73 #[.string s, .int .i64 i] w fun e w' => e = .returned (.string (turnAt s i)) ∧ Below w.heap.size w w' := by
  have hx := extract_one s i hi
  have k0 : (0 : Int) ≤ (i : Int) := by omega
  have k1 : (i : Int) ≤ (s.size : Int) := by omega
  have k2 : (i : Int) ≤ (i : Int) + 1 := by omega
  have k3 : (i : Int) + 1 ≤ (s.size : Int) := by omega
  have k4 : (0 : Int) ≤ (i : Int) + 1 := by omega
  have k5 : IntKind.i64.wrap ((i : Int) + 1) = (i : Int) + 1 := IntWalk.i64_in _ (by omega)
  have k6 : ((i : Int) + 1).toNat = i + 1 := by omega
  have f1 : ¬ 9223372036854775807 < min i s.size + 1 := by omega
  have f2 : ¬ 9223372036854775807 < min i s.size + 1 + (s.size - (i + 1)) := by omega
  have hg : s.data.getD i 0 = s.data[i]'hi := by simp only [Array.getD]; exact dif_pos hi
  rcases signs_at hsg i hi with hd | hd
  · rw [hd] at hx
    have ht : turnAt s i = s.extract 0 i ++ dotS ++ s.extract (i + 1) s.size := by unfold turnAt; rw [hg, hd]; rfl
    go_enter Tryz.func73, Tryz.ntmps73
    go_wp2
    go_region_held3 (fun w' => True) (trivial) (first | (go_at_call 120; refine (cutLeft_dash _).mono ?_; rintro e w' ⟨rfl, hb⟩; have hB := below_step (Below.refl w.heap.size w).drew hb; clear hb) | (go_at_call 119; refine (cutRight_dash _).mono ?_; rintro e w'' ⟨rfl, hb'⟩; have hB' := below_step hB hb'; clear hb'))
    go_wp2
    go_ret
    exact ⟨by rw [ht]; rfl, hB'⟩
  · rw [hd] at hx
    have ht : turnAt s i = s.extract 0 i ++ dashS ++ s.extract (i + 1) s.size := by unfold turnAt; rw [hg, hd]; rfl
    go_enter Tryz.func73, Tryz.ntmps73
    go_wp2
    go_region_held3 (fun w' => True) (trivial) (first | (go_at_call 120; refine (cutLeft_dot _).mono ?_; rintro e w' ⟨rfl, hb⟩; have hB := below_step (Below.refl w.heap.size w).drew hb; clear hb) | (go_at_call 119; refine (cutRight_dot _).mono ?_; rintro e w'' ⟨rfl, hb'⟩; have hB' := below_step hB hb'; clear hb'))
    go_wp2
    go_ret
    exact ⟨by rw [ht]; rfl, hB'⟩
theorem turnAt_size (s : ByteArray) (i : Nat) (hi : i < s.size) : (turnAt s i).size = s.size := by
  unfold turnAt
  simp only [ByteArray.size_append, ByteArray.size_extract]
  show _ + 1 + _ = _
  omega
theorem own_below' {w w' : World} {base n : Nat} {e : TypeId} {size : Nat} {v : Value} {xs : List Value} (h : w.ownsRow base e size v n xs) (hb : Below w.heap.size w w') : w'.ownsRow base e size v n xs := by
  refine ⟨h.1, ?_⟩
  rcases h.2 with h | ⟨g, cap, cur, rfl, h1, h2, h3⟩
  · exact .inl h
  · exact .inr ⟨g, cap, cur, rfl, h1, blk_below h2 hb, h3⟩
def mendAt (l : List ByteArray) (s : ByteArray) (k : Nat) : List ByteArray := if 0 < waysV l (turnAt s k) then [turnAt s k] else []
def mendTo (l : List ByteArray) (s : ByteArray) (n : Nat) : List ByteArray := (List.range n).flatMap (mendAt l s)
theorem mendTo_succ (l : List ByteArray) (s : ByteArray) (k : Nat) : mendTo l s (k + 1) = mendTo l s k ++ mendAt l s k := by simp [mendTo, List.range_succ]
theorem mendTo_length (l : List ByteArray) (s : ByteArray) : ∀ k, (mendTo l s k).length ≤ k
  | 0 => by simp [mendTo]
  | k + 1 => by
    have := mendTo_length l s k
    rw [mendTo_succ, List.length_append]
    have h2 : (mendAt l s k).length ≤ 1 := by unfold mendAt; split <;> simp
    omega
def mendSorted (l : List ByteArray) (s : ByteArray) : List ByteArray := (sortB (mendTo l s s.size)).map fun x => ⟨x.toArray⟩
def mendR (l : List ByteArray) (s : ByteArray) : List ByteArray × Int :=
  if givenE l s = 0 then (if mendTo l s s.size = [] then ([], 6) else (mendSorted l s, 0)) else ([], givenE l s)
theorem givenE_signs {l : List ByteArray} {s : ByteArray} (h : givenE l s = 0) : isSigns s = true := by
  unfold givenE at h
  split at h
  · split at h
    · simp at h
    · split at h
      · assumption
      · simp at h
  · simp at h
set_option maxRecDepth 100000 in
set_option maxHeartbeats 8000000 in
theorem wire_Mend (A : Option Addr) (c : Nat) (l : List ByteArray) (s : ByteArray) (w : World) (hr : Kd.C Kd.string w A l.length l) (hsz : ∀ x ∈ l, x.size ≤ 9223372036854775807) (hs : s.size ≤ 9223372036854775807) :
    Calls Tryz.prog 22 #[.agg #[.slice A l.length c], .string s] w fun e w' => ∃ v, e = .returned (.tuple #[v, .int .i64 (mendR l s).2]) ∧ w'.ownsRow w.heap.size 9 1 v (mendR l s).1.length ((mendR l s).1.map Value.string) ∧ Below w.heap.size w w' := by
  go_enter Tryz.func22, Tryz.ntmps22
  go_wp2_with fail
  refine (given_calls A c l s _ (Kd.C_alloc hr _) hsz hs).mono ?_
  rintro e w1 ⟨v, rfl, hv, ⟨A', n', c', rfl⟩, hb⟩
  have HB := Lib.hid (below_step (below1 w _) hb)
  have HR := Lib.hid (Kd.C_below hr HB.out)
  clear hb hr
  rcases givenE_cases l s with hg | hg | hg
  · have hv' := hv hg
    simp only [Value.slice.injEq] at hv'
    obtain ⟨h1, h2, h3⟩ := hv'
    subst A' n' c'
    have hw := Lib.hid (fun x hx => (codeOk_words (givenE_ok hg) x hx).1)
    have hsz2 := givenE_size hg
    have hsg := Lib.hid (givenE_signs hg)
    have HG := Lib.hid hg
    rw [hg]
    clear hv hg
    go_wp2_with fail
    refine (counter_calls A c l _ (Kd.C_alloc HR.out _) hw.out).mono ?_
    rintro e w2 ⟨rfl, hM, hMap, hb2⟩
    have HB2 := Lib.hid (below_step (below_alloc HB.out _) hb2)
    simp only [World.size_alloc] at hM hMap ⊢
    have hms : w.heap.size ≤ w1.heap.size + 1 + 1 := by have := HB.out.size; omega
    have hltM := hMap.lt
    have hB1 := HB.out.size
    have hBM := hb2.size
    rw [World.size_alloc] at hBM
    obtain ⟨m, hm⟩ : ∃ m, m = w1.heap.size + 1 + 1 := ⟨_, rfl⟩
    obtain ⟨bm, hbm⟩ : ∃ m, m = w1.heap.size + 1 + 1 + 1 := ⟨_, rfl⟩
    obtain ⟨bk, hbk⟩ : ∃ m, m = w1.heap.size + 1 := ⟨_, rfl⟩
    obtain ⟨bf, hbf⟩ : ∃ m, m = w1.heap.size + 1 + 1 + 1 + 1 := ⟨_, rfl⟩
    rw [← hbf, ← hbm, ← hm, ← hbk] at hM
    rw [← hm] at hMap hms hltM
    rw [show w1.heap.size + 1 + 1 + 1 + 1 = bf from hbf.symm, show w1.heap.size + 1 + 1 + 1 = bm from hbm.symm, show w1.heap.size + 1 = bk from hbk.symm]
    have HM := Lib.hid hM
    have HMap := Lib.hid hMap
    clear hM hMap hb2 hm hbm hbk hbf
    obtain ⟨i0, hi, hz0, hz1, hz2⟩ := info_parts info9
    go_wp2
    go_loopw [9, 25] (fun v i wr => ∃ k : Nat, k ≤ s.size ∧ i = .int .i64 k ∧ wr.ownsRow w2.heap.size 9 1 v (mendTo l s k).length ((mendTo l s k).map Value.string) ∧ (v = .slice none 0 0 ↔ mendTo l s k = []) ∧ Keep w2.heap.size (some m) w2 wr ∧ MapOk l m wr)
      (fun _ i _ => s.size - (intOf i).toNat)
    case atStart => exact ⟨0, by omega, rfl, by simpa [mendTo] using World.ownsRow_nil _ _ _ _, by simp [mendTo], Keep.refl _ _ _, HMap.out⟩
    case round =>
      obtain ⟨k, hk1, rfl, hown, hnil, hK, hmap⟩ := hrel
      by_cases hlt : k < s.size
      · have hts := turnAt_size s k hlt
        have hsc := Lib.hid (mendTo_succ l s k)
        have hlen := mendTo_length l s k
        have Hnil := Lib.hid hnil
        have HK := Lib.hid hK
        have Hmap := Lib.hid hmap
        have Hown := Lib.hid hown
        clear hnil hK hmap hown
        go_wp2_with fail
        refine (turned_calls s k hlt (by omega) hsg.out wr).mono ?_
        rintro e w3 ⟨rfl, hb3⟩
        have HK3 := Lib.hid (HK.out.trans (.of_below (hb3.mono HK.out.size) _))
        have Hmap3 := Lib.hid (Hmap.out.of_heap (hb3.block _ Hmap.out.lt))
        have Hown3 := Lib.hid (own_below' Hown.out hb3)
        clear hb3
        obtain ⟨x, hx⟩ : ∃ x, x = turnAt s k := ⟨_, rfl⟩
        rw [← hx] at hts ⊢
        have hcnt := count_calls HM.out (s.size + 1) x w3 (by omega) HK3.out Hmap3.out
        obtain ⟨nx, hnx⟩ : ∃ nx, nx = waysV l x := ⟨_, rfl⟩
        rw [← hnx] at hcnt
        have Hcnt := Lib.hid hcnt
        have hge : 0 ≤ nx := by rw [hnx]; exact (waysF_bound l _ x).1
        have Hx := Lib.hid hx
        have Hnx := Lib.hid hnx
        clear hcnt hx hnx
        go_wp2_with fail
        refine Hcnt.out.mono ?_
        rintro e w4 ⟨rfl, hk4, hm4⟩
        have HK4 := Lib.hid (HK3.out.trans (hk4.mono HK3.out.size))
        have Hm4 := Lib.hid hm4
        have Hown4 : Hid (w4.ownsRow w2.heap.size 9 1 u9 (mendTo l s k).length ((mendTo l s k).map Value.string)) := Lib.hid (by
          obtain ⟨es, ck, hmm, _⟩ := Hmap3.out
          refine own_kept_obj Hown3.out ⟨hk4.os, hk4.tape, hk4.output, hk4.size, hk4.block⟩ ?_
          rintro r e; cases e
          exact ⟨_, hmm, rfl⟩)
        have hsz4 := HK4.out.size
        clear hk4 hm4
        by_cases hpx : 0 < nx
        · go_wp2_with (at_builtin; refine wpList_append_own_at _ rfl _ _ 22 rfl w2.heap.size 9 i0 (.string ⟨#[]⟩) 1 16 Tryz.underlying22 hi hz0 hz1 hz2 rfl (by decide) _ _ _ rfl (Hown4.out.alloc _) ⟨w4.heap.size, 0, none⟩ 1 1 [.string x] rfl rfl (cell_one_new _ _ _) (by simp [Value.oneCell']) (by unfold maxLen; omega) (by omega) (by simp; omega) ?_; intro v' w5 hown' hgrow _ _; have hgrow' : (w4.alloc (.cells #[.string x] 9)).grownBy w5 u9.ownBlock := hgrow; clear hgrow; obtain ⟨g', cap', rfl⟩ := ownsRow_succ hown'; have Hg := Lib.hid hgrow'; have Ho := Lib.hid hown'; clear hgrow' hown')
          have hxe : mendTo l s k ++ [x] = mendTo l s (k + 1) := by rw [hsc.out]; unfold mendAt; rw [← Hx.out, ← Hnx.out, if_pos hpx]
          go_roundw
          case rel =>
            refine ⟨k + 1, by omega, by simp, ?_, ?_, ?_, ?_⟩
            · have := Ho.out
              rw [← hxe]; simpa using this
            · rw [← hxe]; simp
            · refine HK4.out.trans ?_
              have hk5 : Keep w2.heap.size (some m) w4 (w4.alloc (.cells #[.string x] 9)) := .of_below ((below1 _ _).mono hsz4) _
              refine hk5.trans ⟨Hg.out.os, Hg.out.tape, Hg.out.output, Hg.out.size, fun j hj hne => Hg.out.block j (by simp only [World.size_alloc]; omega) (fun e => ?_)⟩
              have := own_base Hown4.out j e.symm; omega
            · obtain ⟨es, ck, hmm, hrest⟩ := Hm4.out
              refine ⟨es, ck, ?_, hrest⟩
              refine (Hg.out.block m (by have := blk_lt hmm; simp only [World.size_alloc]; omega) (fun e => ?_)).trans (blk_alloc hmm _)
              obtain ⟨cc, hc⟩ := own_typed Hown4.out m e.symm
              rw [hmm] at hc; cases hc
          case measure => simp [intOf]; omega
        · have h0x : nx = 0 := by omega
          subst h0x
          have hxe : mendTo l s (k + 1) = mendTo l s k := by rw [hsc.out]; unfold mendAt; rw [← Hx.out, ← Hnx.out]; simp
          go_wp2
          go_roundw
          case rel => exact ⟨k + 1, by omega, by simp, by rw [hxe]; exact Hown4.out, by rw [hxe]; exact Hnil.out, HK4.out, Hm4.out⟩
          case measure => simp [intOf]; omega
      · obtain rfl : k = s.size := by omega
        have hB2 := HB2.out.size
        have hBw : Below w.heap.size w wr := HB2.out.trans (hK.lose hB2 (fun j e => by cases e; omega))
        rcases hown.2 with ⟨rfl, hz⟩ | ⟨gb, cap, cur, rfl, hbase, hgb, r1, r2, r3, r4⟩
        · have hR : mendR l s = ([], 6) := by unfold mendR; rw [HG.out, if_pos rfl, if_pos (hnil.1 rfl)]
          go_wp2
          go_ret2
          exact ⟨_, rfl, World.ownsRow_nil _ _ _ _, hBw⟩
        · have hne : mendTo l s s.size ≠ [] := fun e => by have := hnil.2 e; cases this
          have hR : mendR l s = (mendSorted l s, 0) := by unfold mendR; rw [HG.out, if_pos rfl, if_neg hne]
          have hpos : 0 < (mendTo l s s.size).length := List.length_pos_iff.2 hne
          have hlen2 := mendTo_length l s s.size
          rw [map_string_enc] at r4
          obtain ⟨ms, hms'⟩ : ∃ ms, ms = mendTo l s s.size := ⟨_, rfl⟩
          rw [← hms'] at r4 r1 hpos hlen2 ⊢
          have hH : Holds encStr wr gb 0 (ms.map (·.data.toList)).toArray := holds_of_block hgb (by simpa using r4)
          have hgl := blk_lt hgb
          have hlen : (ms.map (·.data.toList)).length = ms.length := by simp
          have cS := Tryz.slices_Sort_string gb 0 cap (ms.map (·.data.toList)) wr hH hgl (by rw [hlen]; omega)
          rw [hlen] at cS
          have HL := Lib.hid hlen
          have Hms' := Lib.hid hms'
          have CS := Lib.hid cS
          have HBw := Lib.hid hBw
          have HRR := Lib.hid hR
          clear hlen hms' cS hH hown hnil hK hmap hBw hR hne
          go_wp2_with fail
          refine CS.out.mono ?_
          rintro e w3 ⟨rfl, nn, os, rfl⟩
          go_wp2
          go_ret2
          have hrow := ownsRow_sorted (n := nn) (os := os) (ss := ms.map (·.data.toList)) (ts := sortB ms) (by simp [sortB]) hbase hgb (by simpa using r1) r2 r3
          rw [HL.out] at hrow
          have hfin : (mendSorted l s).map Value.string = (sortB ms).map encStr := by unfold mendSorted; rw [← Hms'.out, List.map_map]; rfl
          have hlenS : (mendSorted l s).length = ms.length := by unfold mendSorted; rw [← Hms'.out]; simp [sortB]
          rw [HRR.out]
          refine ⟨_, rfl, ?_, HBw.out.grown (grownBy_sorted _) HBw.out.size (fun j hj => by cases hj; omega)⟩
          dsimp only
          rw [hfin, hlenS]
          exact own_lower hrow hB2
  · have hR : mendR l s = ([], 110) := by unfold mendR; rw [hg]; rfl
    rw [hg]
    clear hv hg
    go_wp2
    go_ret2
    rw [hR]
    exact ⟨_, rfl, World.ownsRow_nil _ _ _ _, below_alloc HB.out _⟩
  · have hR : mendR l s = ([], 112) := by unfold mendR; rw [hg]; rfl
    rw [hg]
    clear hv hg
    go_wp2
    go_ret2
    rw [hR]
    exact ⟨_, rfl, World.ownsRow_nil _ _ _ _, below_alloc HB.out _⟩
end Go.Proofs.YtfnibmcenjiodaaGreatDoor.M
namespace Go.Proofs.YtfnibmcenjiodaaGreatDoor.U
open Go.RowKit Go.Proofs.YtfnibmcenjiodaaGreatDoorW.PrintWords Go.Proofs.YtfnibmcenjiodaaGreatDoorW.PrintLast Go.Proofs.YtfnibmcenjiodaaGreatDoorW.PrintMore
attribute [local go_sem] max2_int min2_int max_two min_two max_three min_three max_four min_four   -- for this text's walks alone
def errW : Option Int → Value
  | none => .nilIface
  | some c => .iface 0 (.int .i64 c)
theorem errW_none : errW none = .nilIface := rfl
theorem errW_some (c : Int) : errW (some c) = .iface 0 (.int .i64 c) := rfl
theorem info3 : (Tryz.prog.info? 3).map (fun i => (i.zero, i.size, i.bytes)) = some (some (.int .i64 0), 1, 8) := by kernel_rfl
end Go.Proofs.YtfnibmcenjiodaaGreatDoor.U
namespace Go.Proofs.YtfnibmcenjiodaaGreatDoor.U
open Go.RowKit Go.Proofs.YtfnibmcenjiodaaGreatDoorW.PrintWords Go.Proofs.YtfnibmcenjiodaaGreatDoorW.PrintLast Go.Proofs.YtfnibmcenjiodaaGreatDoorW.PrintMore
attribute [local go_sem] max2_int min2_int max_two min_two max_three min_three max_four min_four   -- for this text's walks alone
def cmp_Or_int.l0 : Nat → Int → List Int → Int → Int → Option (Int)
  | 0, _, _, _, _ => none
  | k + 1, x3, x6, x7, x8 => if x8 < x7 then (if 0 ≤ x8 then (if x8 < (x6.length : Int) then (if (rd x6 x8) = x3 then (cmp_Or_int.l0 k x3 x6 x7 (wrap64 (x8 + 1))) else (some (rd x6 x8))) else (none)) else (none)) else (some x3)
def cmp_Or_int.f (k : Nat) (l0 : List Int) : Option (Int) := cmp_Or_int.l0 k 0 l0 (l0.length : Int) 0
set_option maxHeartbeats 8000000 in
set_option maxRecDepth 100000 in
theorem cmp_Or_int.calls (k : Nat) (A0 : Option Addr) (c0 : Nat) (l0 : List Int) (r : Int) (w : World) (hr0 : Kd.C (Kd.int .i64) w A0 l0.length l0) (hc0 : l0.length ≤ c0) (h : cmp_Or_int.f k l0 = some r) :
    Calls Tryz.prog 128 #[.slice A0 l0.length c0] w fun e w' => e = .returned (.int .i64 r) ∧ Drawn0 w w' := by
  have HR0 := Aside0.mk hr0
  have HC0 := Aside0.mk hc0
  clear hr0 hc0
  have H : (cmp_Or_int.l0 k 0 l0 (l0.length : Int) 0) = some r := h
  clear h
  have H' := Aside0.mk H
  clear H
  go_enter Tryz.func128, Tryz.ntmps128
  go_wp2
  go_loopg [8] k (fun kq v8 w' => ∃ (x8_1 : Int), v8 = .int .i64 x8_1 ∧ Aside0 (cmp_Or_int.l0 kq 0 l0 (l0.length : Int) x8_1 = some r) ∧ Aside0 (kq ≤ k) ∧ Drawn0 w w')
  case atStart => exact ⟨(0), (by first | rfl | (simp; done) | (simp [*]; done)), H', ⟨Nat.le_refl _⟩, by repeat (first | exact Drawn0.refl _ | apply Drawn0.step)⟩
  case round =>
    clear H'
    try clear c1
    obtain ⟨x8_1, rfl, HA, HK1, ⟨m1, rfl⟩⟩ := hrel
    cases gk with
    | zero => exact absurd HA.out (by simp [cmp_Or_int.l0])
    | succ k1 =>
      have H := HA.out
      clear HA
      simp only [cmp_Or_int.l0] at H
      by_cases c2 : x8_1 < (l0.length : Int)
      · rw [if_pos c2] at H
        have c2b0 : decide (x8_1 < (l0.length : Int)) = true := decide_eq_true c2
        clear c2
        by_cases c3 : 0 ≤ x8_1
        · rw [if_pos c3] at H
          have c3b0 : decide (0 ≤ x8_1) = true := decide_eq_true c3
          clear c3
          by_cases c4 : x8_1 < (l0.length : Int)
          · rw [if_pos c4] at H
            have c4b0 : decide (x8_1 < (l0.length : Int)) = true := decide_eq_true c4
            clear c4
            by_cases c5 : (rd l0 x8_1) = 0
            · rw [if_pos c5] at H
              have c5b0 : ((rd l0 x8_1) == 0) = true := beq_iff_eq.mpr c5
              have c5b1 : ((rd l0 x8_1) != 0) = false := bne_eq_false_iff_eq.mpr c5
              clear c5
              have H' := Aside0.mk H
              clear H
              have p101 : 0 ≤ (x8_1 : Int) := of_decide_eq_true (by first | (with_reducible assumption) | assumption)
              have q101 : x8_1 < (l0.length : Int) := of_decide_eq_true (by first | (with_reducible assumption) | assumption)
              obtain ⟨ad101, e101, hx101_0⟩ := Kd.at_int HR0.out x8_1 p101 q101
              cases e101
              replace p101 := eq_true p101
              replace q101 := eq_true q101
              go_wp2
              go_roundg k1
              case measure => have := HK1.out; omega
              case rel => exact ⟨(wrap64 (x8_1 + 1)), (by first | rfl | (simp; done) | (simp [*]; done)), H', ⟨by have := HK1.out; omega⟩, by repeat (first | exact Drawn0.refl _ | apply Drawn0.step)⟩
            · rw [if_neg c5] at H
              have c5b0 : ((rd l0 x8_1) == 0) = false := beq_eq_false_iff_ne.mpr c5
              have c5b1 : ((rd l0 x8_1) != 0) = true := bne_iff_ne.mpr c5
              obtain rfl := Option.some.inj H
              have p101 : 0 ≤ (x8_1 : Int) := of_decide_eq_true (by first | (with_reducible assumption) | assumption)
              have q101 : x8_1 < (l0.length : Int) := of_decide_eq_true (by first | (with_reducible assumption) | assumption)
              obtain ⟨ad101, e101, hx101_0⟩ := Kd.at_int HR0.out x8_1 p101 q101
              cases e101
              replace p101 := eq_true p101
              replace q101 := eq_true q101
              go_wp2
              go_ret
              exact ⟨by first | rfl | (simp; done) | (simp [*]; done), by repeat (first | exact Drawn0.refl _ | apply Drawn0.step)⟩
          · rw [if_neg c4] at H
            exact absurd H (by simp)
        · rw [if_neg c3] at H
          exact absurd H (by simp)
      · rw [if_neg c2] at H
        have c2b0 : decide (x8_1 < (l0.length : Int)) = false := decide_eq_false c2
        clear c2
        obtain rfl := Option.some.inj H
        go_wp2
        go_ret
        exact ⟨by first | rfl | (simp; done) | (simp [*]; done), by repeat (first | exact Drawn0.refl _ | apply Drawn0.step)⟩
def wire_before.f (k : Nat) (a0_0 : ByteArray) (a0_1 : ByteArray) (a1_0 : ByteArray) (a1_1 : ByteArray) : Option (Int) := (gCmpS.f a0_0 a1_0).bind fun t104 => ((gCmpS.f a0_1 a1_1).bind fun t105 => ((cmp_Or_int.f k (([t104, t105] : List Int))).bind fun t109 => (some t109)))
def wire_before.T1 : Bool × List (List Nat × List Nat) := (true, [([], []), ([0], [0]), ([], []), ([2], [2]), ([1, 3], [1, 3]), ([], []), ([5], [5]), ([], []), ([7], [7]), ([6, 8, 4], [6, 8]), ([4, 9], [4, 9]), ([10, 9], [10]), ([11, 11, 0, 1, 2, 3, 4, 5, 6, 7, 8, 9, 10, 11], [11])])
def wire_before.B1 : List Nat := [0, 1, 0, 4, 15, 0, 32, 0, 128, 511, 1023, 2047, 4095]
theorem wire_before.tab1 : rtab .any (opsOf Tryz.f85 1) = wire_before.T1 := by kernel_rfl
theorem wire_before.bits1 : waitsOk wire_before.T1.2 wire_before.B1 = true := by kernel_rfl
set_option maxHeartbeats 8000000 in
set_option maxRecDepth 100000 in
theorem wire_before.calls (k : Nat) (a0_0 : ByteArray) (a0_1 : ByteArray) (a1_0 : ByteArray) (a1_1 : ByteArray) (r : Int) (w : World) (h : wire_before.f k a0_0 a0_1 a1_0 a1_1 = some r) :
    Calls Tryz.prog 85 #[.agg #[.string a0_0, .string a0_1], .agg #[.string a1_0, .string a1_1]] w fun e w' => e = .returned (.int .i64 r) ∧ Below w.heap.size w w' := by
  have hu152 := Tryz.underlying152
  have HB := Aside0.mk (Below.refl w.heap.size w)
  have H : ((gCmpS.f a0_0 a1_0).bind fun t104 => ((gCmpS.f a0_1 a1_1).bind fun t105 => ((cmp_Or_int.f k (([t104, t105] : List Int))).bind fun t109 => (some t109)))) = some r := h
  clear h
  replace H := Option.bind_eq_some_iff.mp H
  obtain ⟨t104, A30, H⟩ := H
  replace H : ((gCmpS.f a0_1 a1_1).bind fun t105 => ((cmp_Or_int.f k (([t104, t105] : List Int))).bind fun t109 => (some t109))) = some r := H
  have A3 := Aside0.mk A30
  clear A30
  replace H := Option.bind_eq_some_iff.mp H
  obtain ⟨t105, A40, H⟩ := H
  replace H : ((cmp_Or_int.f k (([t104, t105] : List Int))).bind fun t109 => (some t109)) = some r := H
  have A4 := Aside0.mk A40
  clear A40
  obtain ⟨y106, hy106⟩ : ∃ y_ : List Int, y_ = (([t104, t105] : List Int)) := ⟨_, rfl⟩
  replace H : ((cmp_Or_int.f k y106).bind fun t109 => (some t109)) = some r := by first | (rw [hy106]; with_reducible exact H) | (have H2_ := (Option.bind_some _ _).symm.trans H; rw [hy106]; with_reducible exact H2_) | (have H2_ := (Option.bind_some _ _).symm.trans H; with_reducible exact H2_) | with_reducible exact H | (rw [hy106]; exact H) | exact H
  have Ny106 := Aside0.mk hy106
  clear hy106
  replace H := Option.bind_eq_some_iff.mp H
  obtain ⟨t109, A50, H⟩ := H
  replace H : (some t109) = some r := H
  have A5 := Aside0.mk A50
  clear A50
  obtain rfl := Option.some.inj H
  go_enter Tryz.func85, Tryz.ntmps85
  try go_wp2_with (first | ((with_reducible refine gate_dst (N := 2) rfl ?_); refine box_event ?hg (N := 2) ?hd (cs := #[.string a0_0, .string a0_1]) (t := 152) ?hr ?_; (case hd => rfl); (case hg => rfl); (case hr => first | (go_simp; done) | (go_simp; rfl)); intro gb102 hg w6 hbox hb; have n0_ := Aside0.mk (below_step (by repeat (first | (with_reducible first | exact HB.out | apply below_alloc | apply pw_below_drewN | apply below_drew1) | exact HB.out)) hb); have n1_ := Aside0.mk (hbox); have n2_ := Aside0.mk ((by rw [hg]; exact (below_size (by repeat (first | (with_reducible first | exact HB.out | apply below_alloc | apply pw_below_drewN | apply below_drew1) | exact HB.out))) : w.heap.size ≤ gb102)); have n3_ := Aside0.mk ((by rw [hg]; exact (below_size (by repeat (first | (with_reducible first | exact HB.out | apply below_alloc | apply pw_below_drewN | apply below_drew1) | exact HB.out))) : w.heap.size ≤ gb102)); clear HB; have HB := n0_; have BK102 := n1_; have GW102 := n2_; have GE102 := n3_; clear n0_ n1_ n2_ n3_; clear hb hbox hg) | ((with_reducible refine gate_dst (N := 3) rfl ?_); refine box_event ?hg (N := 3) ?hd (cs := #[.string a1_0, .string a1_1]) (t := 152) ?hr ?_; (case hd => rfl); (case hg => rfl); (case hr => first | (go_simp; done) | (go_simp; rfl)); intro gb103 hg w7 hbox hb; have n0_ := Aside0.mk (blk_below (g := gb102) (o := .cells #[.string a0_0, .string a0_1] 152 (0, 0)) (by (with_reducible repeat (first | refine blk_drewN ?_ _ | refine blk_drew ?_ | refine blk_alloc ?_ _)); exact BK102.out) hb); have n1_ := Aside0.mk (below_step (by repeat (first | (with_reducible first | exact HB.out | apply below_alloc | apply pw_below_drewN | apply below_drew1 | refine below_set ?_ GE102.out) | exact HB.out)) hb); have n2_ := Aside0.mk (hbox); have n3_ := Aside0.mk ((by rw [hg]; exact (below_size (by repeat (first | (with_reducible first | exact HB.out | apply below_alloc | apply pw_below_drewN | apply below_drew1 | refine below_set ?_ GE102.out) | exact HB.out))) : w.heap.size ≤ gb103)); have n4_ := Aside0.mk ((by rw [hg]; exact (below_size (by repeat (first | (with_reducible first | exact HB.out | apply below_alloc | apply pw_below_drewN | apply below_drew1 | refine below_set ?_ GE102.out) | exact HB.out))) : w.heap.size ≤ gb103)); have n5_ := Aside0.mk ((by rw [hg]; exact Nat.ne_of_lt (blk_lt (g := gb102) (o := .cells #[.string a0_0, .string a0_1] 152 (0, 0)) (by (with_reducible repeat (first | refine blk_drewN ?_ _ | refine blk_drew ?_ | refine blk_alloc ?_ _)); exact BK102.out)) : gb102 ≠ gb103)); have n6_ := Aside0.mk ((by rw [hg]; exact Nat.ne_of_gt (blk_lt (g := gb102) (o := .cells #[.string a0_0, .string a0_1] 152 (0, 0)) (by (with_reducible repeat (first | refine blk_drewN ?_ _ | refine blk_drew ?_ | refine blk_alloc ?_ _)); exact BK102.out)) : gb103 ≠ gb102)); clear BK102; clear HB; have BK102 := n0_; have HB := n1_; have BK103 := n2_; have GW103 := n3_; have GE103 := n4_; have NB102_103 := n5_; have NB103_102 := n6_; clear n0_ n1_ n2_ n3_ n4_ n5_ n6_; clear hb hbox hg))
  have n0_ := Aside0.mk (blk_drew BK102.out)
  have n1_ := Aside0.mk (blk_drew BK103.out)
  have n2_ := Aside0.mk (below_drew1 HB.out)
  clear BK102
  clear BK103
  clear HB
  have BK102 := n0_
  have BK103 := n1_
  have HB := n2_
  clear n0_ n1_ n2_
  refine start_ (n := 13) (S := fun w' => w'.cell? ⟨gb102, 0, none⟩ = some (.string a0_0) ∧ w'.cell? ⟨gb102, 1, none⟩ = some (.string a0_1) ∧ w'.cell? ⟨gb103, 0, none⟩ = some (.string a1_0) ∧ w'.cell? ⟨gb103, 1, none⟩ = some (.string a1_1)) (ds := []) #[false, false, false, false, false, false, false, false, false, false, false, false, false] (by kernel_rfl) rfl rfl ⟨(blk_cell BK102.out 0).trans rfl, (blk_cell BK102.out 1).trans rfl, (blk_cell BK103.out 0).trans rfl, (blk_cell BK103.out 1).trans rfl⟩ (fun hHeld => ?_); refine with_tabW wire_before.tab1 wire_before.bits1 (fun HT_ HW_ => ?_)
  generalize w7.drew = w8 at BK102 BK103 HB hHeld ⊢
  refine pure_ (i := 0) (N := some 5) (v := ?_) (a' := ?_) #[true, false, false, false, false, false, false, false, false, false, false, false, false] rfl rfl (any_of HT_.out (by kernel_rfl)) (fun _ _ _ h => h) (Or.inl ⟨by rfl, ?_⟩) ?_ ?_
  rotate_left
  · intro w'
    go_simp
    with_reducible rfl
  rotate_left
  · simp only [Act.put, List.setIfInBounds_toArray, List.set_cons_zero, List.set_cons_succ, i64_w, i32_w]
    rfl
  refine pure_ (i := 2) (N := some 7) (v := ?_) (a' := ?_) #[true, false, true, false, false, false, false, false, false, false, false, false, false] rfl rfl (any_of HT_.out (by kernel_rfl)) (fun _ _ _ h => h) (Or.inl ⟨by rfl, ?_⟩) ?_ ?_
  rotate_left
  · intro w'
    go_simp
    with_reducible rfl
  rotate_left
  · simp only [Act.put, List.setIfInBounds_toArray, List.set_cons_zero, List.set_cons_succ, i64_w, i32_w]
    rfl
  refine pure_ (i := 5) (N := some 10) (v := ?_) (a' := ?_) #[true, false, true, false, false, true, false, false, false, false, false, false, false] rfl rfl (any_of HT_.out (by kernel_rfl)) (fun _ _ _ h => h) (Or.inl ⟨by rfl, ?_⟩) ?_ ?_
  rotate_left
  · intro w'
    go_simp
    with_reducible rfl
  rotate_left
  · simp only [Act.put, List.setIfInBounds_toArray, List.set_cons_zero, List.set_cons_succ, i64_w, i32_w]
    rfl
  refine pure_ (i := 7) (N := some 12) (v := ?_) (a' := ?_) #[true, false, true, false, false, true, false, true, false, false, false, false, false] rfl rfl (any_of HT_.out (by kernel_rfl)) (fun _ _ _ h => h) (Or.inl ⟨by rfl, ?_⟩) ?_ ?_
  rotate_left
  · intro w'
    go_simp
    with_reducible rfl
  rotate_left
  · simp only [Act.put, List.setIfInBounds_toArray, List.set_cons_zero, List.set_cons_succ, i64_w, i32_w]
    rfl
  refine take_ (i := 1) (N := some 6) (v := ?_) (a' := ?_) #[true, true, true, false, false, true, false, true, false, false, false, false, false] rfl rfl (take_ofW HT_.out HW_.out (by kernel_rfl)) (fun _ _ _ h => h) (Or.inl ⟨by rfl, ?_⟩) hHeld ?_ ?_
  rotate_left
  · rintro w' ⟨s0, s1, s2, s3⟩
    go_simp
    with_reducible rfl
  rotate_left
  · simp only [Act.put, List.setIfInBounds_toArray, List.set_cons_zero, List.set_cons_succ, i64_w, i32_w]
    rfl
  refine take_ (i := 3) (N := some 8) (v := ?_) (a' := ?_) #[true, true, true, true, false, true, false, true, false, false, false, false, false] rfl rfl (take_ofW HT_.out HW_.out (by kernel_rfl)) (fun _ _ _ h => h) (Or.inl ⟨by rfl, ?_⟩) hHeld ?_ ?_
  rotate_left
  · rintro w' ⟨s0, s1, s2, s3⟩
    go_simp
    with_reducible rfl
  rotate_left
  · simp only [Act.put, List.setIfInBounds_toArray, List.set_cons_zero, List.set_cons_succ, i64_w, i32_w]
    rfl
  refine take_ (i := 6) (N := some 11) (v := ?_) (a' := ?_) #[true, true, true, true, false, true, true, true, false, false, false, false, false] rfl rfl (take_ofW HT_.out HW_.out (by kernel_rfl)) (fun _ _ _ h => h) (Or.inl ⟨by rfl, ?_⟩) hHeld ?_ ?_
  rotate_left
  · rintro w' ⟨s0, s1, s2, s3⟩
    go_simp
    with_reducible rfl
  rotate_left
  · simp only [Act.put, List.setIfInBounds_toArray, List.set_cons_zero, List.set_cons_succ, i64_w, i32_w]
    rfl
  refine take_ (i := 8) (N := some 13) (v := ?_) (a' := ?_) #[true, true, true, true, false, true, true, true, true, false, false, false, false] rfl rfl (take_ofW HT_.out HW_.out (by kernel_rfl)) (fun _ _ _ h => h) (Or.inl ⟨by rfl, ?_⟩) hHeld ?_ ?_
  rotate_left
  · rintro w' ⟨s0, s1, s2, s3⟩
    go_simp
    with_reducible rfl
  rotate_left
  · simp only [Act.put, List.setIfInBounds_toArray, List.set_cons_zero, List.set_cons_succ, i64_w, i32_w]
    rfl
  refine one_ (i := 4) (N := some 9) #[true, true, true, true, true, true, true, true, true, false, false, false, false] rfl rfl (one_of HT_.out (by kernel_rfl)) (by decide) (fun K hK => ?_)
  refine goes_ Tryz.func129 (by kernel_rfl) rfl #[.string a0_0, .string a1_0] (by rfl) rfl rfl (by (try simp only [List.map_toArray, List.map_cons, List.map_nil]); first | done | rfl | (simp only [List.length_drop, List.length_take]; rfl)) ?_
  with_reducible refine (gCmpS.calls a0_0 a1_0 t104 _ A3.out).mono ?_
  rintro e w' ⟨rfl, ⟨nd, rfl⟩⟩
  refine ⟨_, rfl, ?_⟩
  refine hK.out _ _ ⟨(blk_cell BK102.out 0).trans rfl, (blk_cell BK102.out 1).trans rfl, (blk_cell BK103.out 0).trans rfl, (blk_cell BK103.out 1).trans rfl⟩ (fun hHeld => ?_)
  clear hK K
  refine norm_ (a' := ?_) ?_ ?_
  rotate_left
  · show Act.put _ (some 9) _ = _
    simp only [Act.put, List.setIfInBounds_toArray, List.set_cons_zero, List.set_cons_succ, i64_w, i32_w]
    rfl
  refine one_ (i := 9) (N := some 14) #[true, true, true, true, true, true, true, true, true, true, false, false, false] rfl rfl (one_of HT_.out (by kernel_rfl)) (by decide) (fun K hK => ?_)
  refine goes_ Tryz.func129 (by kernel_rfl) rfl #[.string a0_1, .string a1_1] (by rfl) rfl rfl (by (try simp only [List.map_toArray, List.map_cons, List.map_nil]); first | done | rfl | (simp only [List.length_drop, List.length_take]; rfl)) ?_
  with_reducible refine (gCmpS.calls a0_1 a1_1 t105 _ A4.out).mono ?_
  rintro e w' ⟨rfl, ⟨nd, rfl⟩⟩
  refine ⟨_, rfl, ?_⟩
  refine hK.out _ _ ⟨(blk_cell BK102.out 0).trans rfl, (blk_cell BK102.out 1).trans rfl, (blk_cell BK103.out 0).trans rfl, (blk_cell BK103.out 1).trans rfl⟩ (fun hHeld => ?_)
  clear hK K
  refine norm_ (a' := ?_) ?_ ?_
  rotate_left
  · show Act.put _ (some 14) _ = _
    simp only [Act.put, List.setIfInBounds_toArray, List.set_cons_zero, List.set_cons_succ, i64_w, i32_w]
    rfl
  refine one_ (i := 10) (N := some 15) #[true, true, true, true, true, true, true, true, true, true, true, false, false] rfl rfl (one_of HT_.out (by kernel_rfl)) (by decide) (fun K hK => ?_)
  refine Kd.R_lit_step (Kd.int .i64) _ 3 ?hg (N := 15) ?hd (xs := ([t104, t105] : List Int)) (inner := [.int .i64 t104, .int .i64 t105]) (ok := fun _ => True) (okp := fun _ => True) ?hr ?hp (fun _ hk => hk) trivial (Below.refl _ _) (Nat.le_refl _) (by simp) ?_; (case hd => rfl); (case hg => rfl); (case hr => first | (go_simp; done) | (go_simp; rfl)); (case hp => exact (Reps.one (show Kd.M (Kd.int .i64) _ _ _ t104 [.int .i64 t104] from rfl) (Reps.one (show Kd.M (Kd.int .i64) _ _ _ t105 [.int .i64 t105] from rfl) (Reps.none _ _))))
  intro v107 w9 ho10 hb hg_ hnew_
  clear hg_ hnew_
  (first | rw [← Ny106.out] at ho10 | (simp only [Int.reduceToNat] at ho10; rw [← Ny106.out] at ho10))
  have n0_ := Aside0.mk (Kd.R_lower ho10 (below_size (by repeat (first | (with_reducible first | exact HB.out | apply below_alloc | apply pw_below_drewN | apply below_drew1 | refine below_set ?_ GE102.out | refine below_set ?_ GE103.out) | exact HB.out))))
  have n1_ := Aside0.mk (blk_below (g := gb102) (o := .cells #[.string a0_0, .string a0_1] 152 (0, 0)) (by (with_reducible repeat (first | refine blk_drewN ?_ _ | refine blk_drew ?_ | refine blk_alloc ?_ _)); exact BK102.out) hb)
  have n2_ := Aside0.mk (blk_below (g := gb103) (o := .cells #[.string a1_0, .string a1_1] 152 (0, 0)) (by (with_reducible repeat (first | refine blk_drewN ?_ _ | refine blk_drew ?_ | refine blk_alloc ?_ _)); exact BK103.out) hb)
  have n3_ := Aside0.mk (below_step (by repeat (first | (with_reducible first | exact HB.out | apply below_alloc | apply pw_below_drewN | apply below_drew1 | refine below_set ?_ GE102.out | refine below_set ?_ GE103.out) | exact HB.out)) hb)
  clear BK102
  clear BK103
  clear HB
  have HO108 := n0_
  have BK102 := n1_
  have BK103 := n2_
  have HB := n3_
  clear n0_ n1_ n2_ n3_
  clear hb ho10
  obtain ⟨Ao11, co11, eo11⟩ := Kd.R_slice HO108.out
  (first | subst eo11 | (injection eo11 with f1_ f2_ f3_; have f4_ := f1_.symm; have f5_ := f3_.symm; clear f1_ f2_ f3_; subst f4_; subst f5_))
  refine hK.out _ _ ⟨(blk_cell BK102.out 0).trans rfl, (blk_cell BK102.out 1).trans rfl, (blk_cell BK103.out 0).trans rfl, (blk_cell BK103.out 1).trans rfl⟩ (fun hHeld => ?_)
  clear hK K
  refine norm_ (a' := ?_) ?_ ?_
  rotate_left
  · show Act.put _ (some 15) _ = _
    simp only [Act.put, List.setIfInBounds_toArray, List.set_cons_zero, List.set_cons_succ, i64_w, i32_w]
    rfl
  refine one_ (i := 11) (N := some 16) #[true, true, true, true, true, true, true, true, true, true, true, true, false] rfl rfl (one_of HT_.out (by kernel_rfl)) (by decide) (fun K hK => ?_)
  refine goes_ Tryz.func128 (by kernel_rfl) rfl #[.slice Ao11 y106.length co11] (by rfl) rfl rfl (by (try simp only [List.map_toArray, List.map_cons, List.map_nil]); first | done | rfl | (simp only [List.length_drop, List.length_take]; rfl)) ?_
  with_reducible refine (cmp_Or_int.calls k _ _ y106 t109 _ ?side1 ?side2 A5.out).mono ?_
  (case side1 => repeat (first | exact (Kd.R_reads' HO108.out).2.2 | (with_reducible refine Kd.C_alloc ?_ _) | (with_reducible refine Kd.C_drewN ?_ _) | (with_reducible refine Kd.C_drew ?_)))
  (case side2 => exact (Kd.R_reads' HO108.out).2.1)
  rintro e w' ⟨rfl, ⟨nd, rfl⟩⟩
  refine ⟨_, rfl, ?_⟩
  refine hK.out _ _ ⟨(blk_cell BK102.out 0).trans rfl, (blk_cell BK102.out 1).trans rfl, (blk_cell BK103.out 0).trans rfl, (blk_cell BK103.out 1).trans rfl⟩ (fun hHeld => ?_)
  clear hK K
  refine norm_ (a' := ?_) ?_ ?_
  rotate_left
  · show Act.put _ (some 16) _ = _
    simp only [Act.put, List.setIfInBounds_toArray, List.set_cons_zero, List.set_cons_succ, i64_w, i32_w]
    rfl
  refine pure_ (i := 12) (N := some 4) (v := ?_) (a' := ?_) #[true, true, true, true, true, true, true, true, true, true, true, true, true] rfl rfl (any_of HT_.out (by kernel_rfl)) (fun _ _ _ h => h) (Or.inl ⟨by rfl, ?_⟩) ?_ ?_
  rotate_left
  · intro w'
    go_simp
    with_reducible rfl
  rotate_left
  · simp only [Act.put, List.setIfInBounds_toArray, List.set_cons_zero, List.set_cons_succ, i64_w, i32_w]
    rfl
  refine done_ (done_of HT_.out (by kernel_rfl)) ?_
  try go_wp2
  go_ret
  exact ⟨by first | rfl | (simp [errW_none, errW_some] <;> rfl) | (simp [*, errW_none, errW_some] <;> rfl), by repeat (first | (with_reducible first | exact HB.out | apply below_alloc | apply pw_below_drewN | apply below_drew1 | refine below_set ?_ GE102.out | refine below_set ?_ GE103.out) | exact HB.out)⟩
end Go.Proofs.YtfnibmcenjiodaaGreatDoor.U
namespace Go.Proofs.YtfnibmcenjiodaaGreatDoor.M
open Go.Sort Go.Shelf Go.RowKit Go.Maps Go.Proofs.YtfnibmcenjiodaaGreatDoorW.PrintWords Go.Proofs.YtfnibmcenjiodaaGreatDoorW.PrintLast Go.Proofs.YtfnibmcenjiodaaGreatDoorW.PrintMore
attribute [local go_sem] Oper.semAt_some
def befI (a b c d : ByteArray) : Int := orI (cmpS a c) (cmpS b d)
theorem orU_f (x y : Int) (k : Nat) (hk : 3 ≤ k) : U.cmp_Or_int.f k [x, y] = some (orI x y) := by
  obtain ⟨k, rfl⟩ : ∃ k', k = k' + 3 := ⟨k - 3, by omega⟩
  simp [U.cmp_Or_int.f, U.cmp_Or_int.l0, Go.Proofs.YtfnibmcenjiodaaGreatDoorW.PrintWords.rd, wrap64, orI]
  split
  · split <;> simp_all
  · simp_all
theorem before_calls (a b c d : ByteArray) (w : World) :
    Calls Tryz.prog 85 #[.agg #[.string a, .string b], .agg #[.string c, .string d]] w fun e w' => e = .returned (.int .i64 (befI a b c d)) ∧ Below w.heap.size w w' :=
  U.wire_before.calls 3 a b c d (befI a b c d) w (by
    unfold U.wire_before.f gCmpS.f
    rw [Option.bind_some, Option.bind_some, orU_f _ _ 3 (Nat.le_refl _), Option.bind_some]
    rfl)
def onL (xs : List ByteArray) (a : Int) : List ByteArray := (xs.filter (fun x => decide (((x.data[0]?.getD 0).toNat : Int) = a))).map (fun x => x.extract 1 x.size)
theorem onL_succ (xs : List ByteArray) (a : Int) (k : Nat) (h : k < xs.length) : onL (xs.take (k + 1)) a = onL (xs.take k) a ++ (if decide (((((rdOf ByteArray.empty xs k).data[0]?).getD 0).toNat : Int) = a) = true then [(rdOf ByteArray.empty xs k).extract 1 (rdOf ByteArray.empty xs k).size] else []) := by
  have hx : rdOf ByteArray.empty xs k = xs[k] := by simp [rdOf, h]
  rw [hx, List.take_succ_eq_append_getElem h]
  unfold onL
  rw [List.filter_append, List.map_append]
  congr 1
  rw [List.filter_cons]
  split <;> simp_all
theorem onL_length (xs : List ByteArray) (a : Int) : (onL xs a).length ≤ xs.length := by
  unfold onL; rw [List.length_map]; exact List.length_filter_le _ _
def onW (ws : List ByteArray) (left : ByteArray) : List ByteArray := if left = ⟨#[]⟩ then ws else [left]
theorem add_none' (b o j : Nat) : (⟨b, o, none⟩ : Addr).add j = ⟨b, o + j, none⟩ := by
  unfold Addr.add
  split <;> simp_all
theorem below_grownBy' {w W W' : World} {row : Option Nat} (h : Below w.heap.size w W) (hg : W.grownBy W' row) (hr : ∀ r, row = some r → w.heap.size ≤ r) : Below w.heap.size w W' :=
  ⟨hg.os.trans h.os, hg.tape.trans h.tape, hg.output.trans h.output, Nat.le_trans h.size hg.size, fun k hk => (hg.block k (Nat.lt_of_lt_of_le hk h.size) (fun e => by have := hr k e.symm; omega)).trans (h.block k hk)⟩
theorem own_strings' {W : World} {base g cap : Nat} {xs : List ByteArray} {n : Nat} (hn : n = xs.length) (h : W.ownsRow base 9 1 (.slice (some ⟨g, 0, none⟩) n cap) n (xs.map Value.string)) : Kd.C Kd.string W (some ⟨g, 0, none⟩) xs.length xs := by
  subst hn
  have hR : Kd.string.R 9 W base (fun _ => True) (.slice (some ⟨g, 0, none⟩) xs.length cap) xs := Kd.R_of_own h (fun _ _ => trivial)
  exact (Kd.R_reads' hR).2.2
set_option maxRecDepth 100000 in
set_option maxHeartbeats 1000000 in
theorem on_calls (A : Option Addr) (c : Nat) (ws : List ByteArray) (left : ByteArray) (a : Int) (w : World) (hC : Kd.C Kd.string w A ws.length ws) (hw : ∀ x ∈ ws, 0 < x.size) (hws : ws.length ≤ 1000) :
    Calls Tryz.prog 84 #[.agg #[.slice A ws.length c], .string left, .int .u8 a] w fun e w' => ∃ A' c', e = .returned (.slice A' (onL (onW ws left) a).length c') ∧ Kd.C Kd.string w' A' (onL (onW ws left) a).length (onL (onW ws left) a) ∧ Below w.heap.size w w' := by
  obtain ⟨i0, hi, hz0, hz1, hz2⟩ := info_parts info9
  have hmax := Kd.C_max hC
  have HC := Lib.hid hC
  clear hC
  obtain ⟨xs, hxs⟩ : ∃ xs, xs = onW ws left := ⟨_, rfl⟩
  rw [← hxs]
  by_cases hl : left = ⟨#[]⟩
  · have hxe : xs = ws := by rw [hxs]; unfold onW; rw [if_pos hl]
    clear hxs
    subst hxe hl
    have HW := Lib.hid hw
    clear hw
    obtain ⟨W1, hW1⟩ : ∃ W1, W1 = (w.alloc (.cells #[.slice A xs.length c] 126)).alloc (.cells #[.string ⟨#[]⟩] 9) := ⟨_, rfl⟩
    have HB1 : Hid (Below w.heap.size w W1) := Lib.hid (by rw [hW1]; exact below2 _ _ _)
    have h3 : W1.heap[w.heap.size]? = some (.cells #[.slice A xs.length c] 126 (0, 0)) := by rw [hW1]; exact blk_alloc (blk_new w _) _
    have c3 := box_cell h3
    have HC1 := Lib.hid (Kd.C_below HC.out HB1.out)
    rw [hW1] at c3
    go_enter Tryz.func84, Tryz.ntmps84
    go_wp2_with fail
    rw [← hW1]
    clear c3 h3 hW1
    go_loopw [8, 20] (fun v i wr => ∃ k, k ≤ xs.length ∧ i = .int .i64 k ∧ wr.ownsRow W1.heap.size 9 1 v (onL (xs.take k) a).length ((onL (xs.take k) a).map Value.string) ∧ Below W1.heap.size W1 wr) (fun _ i _ => xs.length - (intOf i).toNat)
    case atStart => exact ⟨0, by omega, rfl, by simpa [onL] using World.ownsRow_nil _ _ _ _, Below.refl _ _⟩
    case round =>
      obtain ⟨k, hk, rfl, hown, hb⟩ := hrel
      have Hown := Lib.hid hown
      have Hb := Lib.hid hb
      clear hown hb
      by_cases hlt : k < xs.length
      · obtain ⟨ad, e, hcell⟩ := Kd.at_string (Kd.C_below HC1.out Hb.out) k (by omega) (by omega)
        cases e
        rw [show ((k : Int).toNat) = k from by omega] at hcell
        try rw [add_none', Nat.zero_add] at hcell
        have hsu := Lib.hid (onL_succ xs a k hlt)
        have hlen := onL_length (xs.take k) a
        rw [List.length_take] at hlen
        have hx0 := HW.out (rdOf ByteArray.empty xs k) (by rw [show rdOf ByteArray.empty xs k = xs[k] by simp [rdOf, hlt]]; exact List.getElem_mem _)
        obtain ⟨x, hx⟩ : ∃ x, x = rdOf ByteArray.empty xs k := ⟨_, rfl⟩
        rw [← hx] at hcell hsu hx0
        have Hx := Lib.hid hx
        clear hx
        have hq : (((x[0]'hx0).toNat : Int) == a) = decide (((x.data[0]?.getD 0).toNat : Int) = a) := by
          have e : x.data[0]?.getD 0 = x[0]'hx0 := by
            have h' : 0 < x.data.size := hx0
            rw [Array.getElem?_eq_getElem h']; rfl
          rw [e]; rfl
        cases hd : decide (((x.data[0]?.getD 0).toNat : Int) = a)
        · rw [hd] at hq hsu
          go_wp2
          go_roundw
          case rel => exact ⟨k + 1, by omega, by go_num, by rw [hsu.out]; simpa using Hown.out, Hb.out⟩
          case measure => simp [intOf]; omega
        · rw [hd] at hq hsu
          go_wp2_with (at_builtin; refine wpList_append_own_at _ rfl _ _ 22 rfl W1.heap.size 9 i0 (.string ⟨#[]⟩) 1 16 Tryz.underlying22 hi hz0 hz1 hz2 rfl (by decide) _ _ _ rfl (Hown.out.alloc _) ⟨wr.heap.size, 0, none⟩ 1 1 [.string (x.extract 1 x.size)] rfl rfl (cell_one_new _ _ _) (by simp [Value.oneCell']) (by unfold maxLen; omega) (by omega) (by have := Hb.out.size; simp; omega) ?_; intro v' w5 hown' hgrow _ _; have hgrow' : (wr.alloc (.cells #[.string (x.extract 1 x.size)] 9)).grownBy w5 u8.ownBlock := hgrow; clear hgrow; obtain ⟨g', cap', rfl⟩ := ownsRow_succ hown'; have Hg := Lib.hid hgrow'; have Ho := Lib.hid hown'; clear hgrow' hown')
          go_roundw
          case rel =>
            refine ⟨k + 1, by omega, by go_num, ?_, below_grownBy' (Hb.out.trans ((below1 wr _).mono Hb.out.size)) Hg.out (fun r e => (own_base Hown.out r e))⟩
            have := Ho.out
            rw [hsu.out]
            simpa using this
          case measure => simp [intOf]; omega
      · obtain rfl : k = xs.length := by omega
        rw [List.take_length] at Hown
        have HB := Lib.hid (HB1.out.trans (Hb.out.mono HB1.out.size))
        obtain ⟨ys, hys⟩ : ∃ ys, ys = onL xs a := ⟨_, rfl⟩
        rw [← hys] at Hown
        have Hys := Lib.hid hys
        clear hys
        rcases Hown.out.2 with ⟨rfl, hz⟩ | ⟨gb, cap, cur, rfl, _⟩
        · go_wp2
          go_ret
          have hy0 : ys = [] := List.length_eq_zero_iff.1 (by first | exact hz | exact hz.symm)
          rw [← Hys.out, hy0]
          exact ⟨none, _, rfl, Kd.C_nil _ _, HB.out⟩
        · have hC2 := own_strings' rfl Hown.out
          have HCC := Lib.hid hC2
          clear hC2
          go_wp2
          go_ret
          rw [← Hys.out]
          exact ⟨_, _, rfl, HCC.out, HB.out⟩
  · have hxe : xs = [left] := by rw [hxs]; unfold onW; rw [if_neg hl]
    clear hxs
    have hle : left.toList.isEmpty = false := by
      rw [Lib.toList_data]
      cases h : left.data.toList with
      | nil => exact absurd (ByteArray.ext (Array.toList_inj.1 h)) hl
      | cons _ _ => rfl
    have HW : Hid (∀ x ∈ xs, 0 < x.size) := Lib.hid (by
      rw [hxe]
      intro x hx
      rw [List.mem_singleton] at hx
      subst hx
      rcases Nat.eq_zero_or_pos x.size with h | h
      · exact absurd (ByteArray.ext (Array.eq_empty_of_size_eq_zero h)) hl
      · exact h)
    have hws : xs.length ≤ 1000 := by rw [hxe]; simp
    have hmax : xs.length ≤ 9223372036854775807 := by omega
    clear hw
    obtain ⟨W1, hW1⟩ : ∃ W1, W1 = (w.alloc (.cells #[.slice A ws.length c] 126)).alloc (.cells #[.string left] 9) := ⟨_, rfl⟩
    have HB1 : Hid (Below w.heap.size w W1) := Lib.hid (by rw [hW1]; exact below2 _ _ _)
    have HC1 : Hid (Kd.C Kd.string W1 (some ⟨w.heap.size + 1, 0, none⟩) xs.length xs) := Lib.hid (by
      rw [hxe]
      have h := blk_new1 w (.cells #[.slice A ws.length c] 126) (.cells #[.string left] 9)
      refine Kd.C_of_reads (d := ByteArray.empty) (h1 := fun _ => rfl) ⟨rfl, by simp, fun _ => ⟨_, rfl, fun j hj => ?_⟩⟩
      obtain rfl : j = 0 := by simp at hj; omega
      rw [hW1]
      exact blk_cell h 0)
    have hx1 : xs.length = 1 := by rw [hxe]; rfl
    clear hxe
    go_enter Tryz.func84, Tryz.ntmps84
    go_wp2_with fail
    rw [← hW1]
    clear hW1
    go_loopw [8, 20] (fun v i wr => ∃ k, k ≤ xs.length ∧ i = .int .i64 k ∧ wr.ownsRow W1.heap.size 9 1 v (onL (xs.take k) a).length ((onL (xs.take k) a).map Value.string) ∧ Below W1.heap.size W1 wr) (fun _ i _ => xs.length - (intOf i).toNat)
    case atStart => exact ⟨0, by omega, rfl, by simpa [onL] using World.ownsRow_nil _ _ _ _, Below.refl _ _⟩
    case round =>
      obtain ⟨k, hk, rfl, hown, hb⟩ := hrel
      have Hown := Lib.hid hown
      have Hb := Lib.hid hb
      clear hown hb
      by_cases hlt : k < xs.length
      · obtain ⟨ad, e, hcell⟩ := Kd.at_string (Kd.C_below HC1.out Hb.out) k (by omega) (by omega)
        cases e
        rw [show ((k : Int).toNat) = k from by omega] at hcell
        try rw [add_none', Nat.zero_add] at hcell
        have hsu := Lib.hid (onL_succ xs a k hlt)
        have hlen := onL_length (xs.take k) a
        rw [List.length_take] at hlen
        have hx0 := HW.out (rdOf ByteArray.empty xs k) (by rw [show rdOf ByteArray.empty xs k = xs[k] by simp [rdOf, hlt]]; exact List.getElem_mem _)
        obtain ⟨x, hx⟩ : ∃ x, x = rdOf ByteArray.empty xs k := ⟨_, rfl⟩
        rw [← hx] at hcell hsu hx0
        have Hx := Lib.hid hx
        clear hx
        have hq : (((x[0]'hx0).toNat : Int) == a) = decide (((x.data[0]?.getD 0).toNat : Int) = a) := by
          have e : x.data[0]?.getD 0 = x[0]'hx0 := by
            have h' : 0 < x.data.size := hx0
            rw [Array.getElem?_eq_getElem h']; rfl
          rw [e]; rfl
        cases hd : decide (((x.data[0]?.getD 0).toNat : Int) = a)
        · rw [hd] at hq hsu
          go_wp2
          go_roundw
          case rel => exact ⟨k + 1, by omega, by go_num, by rw [hsu.out]; simpa using Hown.out, Hb.out⟩
          case measure => simp [intOf]; omega
        · rw [hd] at hq hsu
          go_wp2_with (at_builtin; refine wpList_append_own_at _ rfl _ _ 22 rfl W1.heap.size 9 i0 (.string ⟨#[]⟩) 1 16 Tryz.underlying22 hi hz0 hz1 hz2 rfl (by decide) _ _ _ rfl (Hown.out.alloc _) ⟨wr.heap.size, 0, none⟩ 1 1 [.string (x.extract 1 x.size)] rfl rfl (cell_one_new _ _ _) (by simp [Value.oneCell']) (by unfold maxLen; omega) (by omega) (by have := Hb.out.size; simp; omega) ?_; intro v' w5 hown' hgrow _ _; have hgrow' : (wr.alloc (.cells #[.string (x.extract 1 x.size)] 9)).grownBy w5 u8.ownBlock := hgrow; clear hgrow; obtain ⟨g', cap', rfl⟩ := ownsRow_succ hown'; have Hg := Lib.hid hgrow'; have Ho := Lib.hid hown'; clear hgrow' hown')
          go_roundw
          case rel =>
            refine ⟨k + 1, by omega, by go_num, ?_, below_grownBy' (Hb.out.trans ((below1 wr _).mono Hb.out.size)) Hg.out (fun r e => (own_base Hown.out r e))⟩
            have := Ho.out
            rw [hsu.out]
            simpa using this
          case measure => simp [intOf]; omega
      · obtain rfl : k = xs.length := by omega
        rw [List.take_length] at Hown
        have HB := Lib.hid (HB1.out.trans (Hb.out.mono HB1.out.size))
        obtain ⟨ys, hys⟩ : ∃ ys, ys = onL xs a := ⟨_, rfl⟩
        rw [← hys] at Hown
        have Hys := Lib.hid hys
        clear hys
        rcases Hown.out.2 with ⟨rfl, hz⟩ | ⟨gb, cap, cur, rfl, _⟩
        · go_wp2
          go_ret
          have hy0 : ys = [] := List.length_eq_zero_iff.1 (by first | exact hz | exact hz.symm)
          rw [← Hys.out, hy0]
          exact ⟨none, _, rfl, Kd.C_nil _ _, HB.out⟩
        · have hC2 := own_strings' rfl Hown.out
          have HCC := Lib.hid hC2
          clear hC2
          go_wp2
          go_ret
          rw [← Hys.out]
          exact ⟨_, _, rfl, HCC.out, HB.out⟩
end Go.Proofs.YtfnibmcenjiodaaGreatDoor.M
namespace Go.Proofs.YtfnibmcenjiodaaGreatDoor.M
open Go.Sort Go.Shelf Go.RowKit Go.Maps Go.Proofs.YtfnibmcenjiodaaGreatDoorW.PrintWords Go.Proofs.YtfnibmcenjiodaaGreatDoorW.PrintLast Go.Proofs.YtfnibmcenjiodaaGreatDoorW.PrintMore
attribute [local go_sem] Oper.semAt_some
abbrev St := ByteArray × ByteArray × Bool
abbrev Tx := ByteArray × ByteArray
abbrev stV (s : St) : Value := .agg #[.string s.1, .string s.2.1, .bool s.2.2]
abbrev txV (t : Tx) : Value := .agg #[.string t.1, .string t.2]
noncomputable def kL (s : St) : Lit := (keyOf Tryz.prog 150 (stV s)).getD (.bool false)
def okS (s : St) : Prop := s.1.size ≤ maxLen ∧ s.2.1.size ≤ maxLen
theorem laidOutS : laidOutB Tryz.prog = true := by kernel_rfl
theorem rowS : (150 : TypeId) < Tryz.prog.types.size := of_decide_eq_true (by kernel_rfl)
theorem sizeS : ∃ m, Tryz.prog.types.size = m + 1 := by
  obtain ⟨n, hn⟩ : ∃ n, n = Tryz.prog.types.size := ⟨_, rfl⟩
  have h : (150 : Nat) < n := by rw [hn]; exact rowS
  rw [← hn]
  exact ⟨n - 1, by omega⟩
set_option maxRecDepth 100000 in
theorem wideS : (match Tryz.prog.underlying 150 with | some (.array _ _) | some (.struct _) => true | _ => false) = true := by rw [Tryz.underlying150]
set_option maxRecDepth 100000 in
theorem lawS : Keyed Tryz.prog 150 := Keyed.of_law (deep_law_laid laidOutS (m := 2) (by omega) rowS (by kernel_rfl) wideS)
theorem keyTypeS : Tryz.prog.keyType 150 = true := by kernel_rfl
theorem cellsS : Tryz.prog.cellsOf 150 = 3 := by kernel_rfl
theorem cells9 : Tryz.prog.cellsOf 9 = 1 := by kernel_rfl
theorem cells4 : Tryz.prog.cellsOf 4 = 1 := by kernel_rfl
set_option maxRecDepth 100000 in
theorem lits9 {m : Nat} {v : Value} {ls : List Lit} (h : Tryz.prog.keyLits (m + 1) 9 [v] = some ls) : ∃ s, v = .string s ∧ s.size ≤ maxLen := by
  unfold Program.keyLits at h
  rw [Tryz.underlying9] at h
  cases v <;> simp at h
  exact ⟨_, rfl, h.1⟩
set_option maxRecDepth 100000 in
theorem lits4 {m : Nat} {v : Value} {ls : List Lit} (h : Tryz.prog.keyLits (m + 1) 4 [v] = some ls) : ∃ b, v = .bool b := by
  unfold Program.keyLits at h
  rw [Tryz.underlying4] at h
  cases v <;> simp at h
  exact ⟨_, rfl⟩
set_option maxRecDepth 100000 in
theorem keyOf_any (cs : Array Value) (l : Lit) (h : keyOf Tryz.prog 150 (.agg cs) = some l) : ∃ s : St, okS s ∧ (.agg cs : Value) = stV s := by
  obtain ⟨m, hm⟩ : ∃ m, Tryz.prog.types.size = m + 1 := sizeS
  unfold keyOf at h
  rw [Tryz.underlying150] at h
  dsimp only at h
  split at h
  · rename_i hf
    rw [hm] at h
    unfold Program.keyLits at h
    rw [Tryz.underlying150] at h
    dsimp only at h
    split at h
    · rename_i hl
      obtain ⟨cs⟩ := cs
      have hl3 : cs.length = 3 := by have := hl.1; rw [cellsS] at this; simpa [Value.cells] using this
      match cs, hl3 with
      | [a, b, c], _ =>
        simp only [Value.cells, List.mapM_cons, List.mapM_nil, cells9, cells4, List.drop_zero, List.take_succ_cons, List.take_zero, List.drop_succ_cons, Option.map_eq_some_iff, Option.bind_eq_bind, Option.bind_eq_some_iff, Option.pure_def] at h
        obtain ⟨_, ⟨_, ⟨_, h1, _, ⟨_, h2, _, ⟨_, h3, _⟩, _⟩, _⟩, _⟩, _⟩ := h
        obtain ⟨x, rfl, hx⟩ := lits9 h1
        obtain ⟨y, rfl, hy⟩ := lits9 h2
        obtain ⟨b, rfl⟩ := lits4 h3
        exact ⟨(x, y, b), ⟨hx, hy⟩, rfl⟩
    · cases h
  · cases h
set_option maxRecDepth 100000 in
theorem keyOf_st (s : St) (h : okS s) : keyOf Tryz.prog 150 (stV s) = some (kL s) := by
  have : ∃ l, keyOf Tryz.prog 150 (stV s) = some l := by
    obtain ⟨m, hm⟩ : ∃ m, Tryz.prog.types.size = m + 1 := sizeS
    unfold keyOf
    rw [Tryz.underlying150]
    dsimp only
    have hf : (stV s).formed Tryz.prog 150 = true := by simp [Value.formed, Tryz.underlying150, cellsS]
    rw [keyTypeS, hf, hm]
    simp [Program.keyLits, Tryz.underlying150, Value.cells, cellsS, cells9, cells4, Tryz.underlying9, Tryz.underlying4, h.1, h.2]
  obtain ⟨l, hl⟩ := this
  unfold kL
  rw [hl]; rfl
set_option maxRecDepth 100000 in
theorem keyOf_inv {v : Value} {l : Lit} (h : keyOf Tryz.prog 150 v = some l) : ∃ s : St, okS s ∧ v = stV s ∧ l = kL s := by
  cases v <;> try (unfold keyOf at h; rw [Tryz.underlying150] at h; simp [Value.formed, Tryz.underlying150] at h; done)
  rename_i cs
  obtain ⟨s, hs, e⟩ := keyOf_any cs l h
  rw [e] at h
  rw [keyOf_st s hs] at h
  exact ⟨s, hs, e, (Option.some.inj h).symm⟩
set_option maxRecDepth 100000 in
theorem kL_inj {s t : St} (hs : okS s) (ht : okS t) (h : kL s = kL t) : s = t := by
  have h1 := keyOf_st s hs
  have h2 := keyOf_st t ht
  rw [h] at h1
  have e := lawS.inj h1 h2
  obtain ⟨a, b, c⟩ := s
  obtain ⟨a', b', c'⟩ := t
  simp only [stV, Value.agg.injEq, Array.mk.injEq, List.cons.injEq, Value.string.injEq, Value.bool.injEq] at e
  obtain ⟨rfl, rfl, rfl, _⟩ := e
  rfl
set_option maxRecDepth 100000 in
theorem kL_key {s : St} (hs : okS s) : WideAt.IsKeyLit (kL s) := lawS.key (keyOf_st s hs)
end Go.Proofs.YtfnibmcenjiodaaGreatDoor.M
