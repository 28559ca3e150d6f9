/- Walks of turned and of wire.Mend. No statement of the seat is proved here. -/
import Derived.Test.YtfnibmcenjiodaaGreatDoorM10
import Derived.Lib.OthersKept
import Derived.LoopN
import Derived.Deep.RegionHeld3
import Derived.Maps.AppendAt
namespace Go.Proofs.YtfnibmcenjiodaaGreatDoor.M
open Go.Sort Go.Shelf Go.RowKit Go.Proofs.YtfnibmcenjiodaaGreatDoorW.PrintWords Go.Proofs.YtfnibmcenjiodaaGreatDoorW.PrintLast Go.Proofs.YtfnibmcenjiodaaGreatDoorW.PrintMore
attribute [local go_sem] Oper.semAt_some

/-! ### cutLeft, cutRight at the two signs -/
abbrev dotS : ByteArray := ⟨#[46]⟩
abbrev dashS : ByteArray := ⟨#[45]⟩
abbrev bothS : ByteArray := ⟨#[45, 46]⟩
theorem iter_lower (w : World) (s : ByteArray) (p j : Nat) (h : j < w.heap.size) : (w.iter s p).heap[j]? = w.heap[j]? := Below.heap_alloc _ _ _ h
theorem below_iter {B : Nat} {a w : World} (h : Below B a w) (hB : B ≤ w.heap.size) (s : ByteArray) (p : Nat) : Below B a (w.iter s p) := h.trans ((Below.refl B w).alloc hB _)
theorem next_one (w : World) (k : Nat) (s : ByteArray) (pos : Nat) (v : Int) (hk : w.heap[k]? = some (.stringIter s pos)) (h : pos < s.size) (ha : (s[pos]'h).toNat < 128) (hv : (((s[pos]'h).toNat : Nat) : Int) = v) (p' : Nat) (hp : pos + 1 = p') :
    ∀ ty, (Instr.next (.pointer (some ⟨k, 0, none⟩)) true ty).run Tryz.prog w = .ok (.tuple #[.bool true, .int .i64 pos, .int .i32 v]) (w.iterAt k s p') := by
  intro ty; subst hv hp; exact Lib.run_next_ascii_at w k s pos ty hk h ha

set_option maxRecDepth 100000 in
set_option maxHeartbeats 4000000 in
theorem cutLeft_dot (w : World) : Calls Tryz.prog 120 #[.string bothS, .string dotS] w fun e w' => e = .returned (.string bothS) ∧ Below w.heap.size w w' := by
  obtain ⟨W1, hW1⟩ : ∃ W1, W1 = (w.iter bothS 0).iterAt w.heap.size bothS 1 := ⟨_, rfl⟩
  have n1 := next_one (w.iter bothS 0) w.heap.size bothS 0 45 (World.iter_heap _ _ _) (by decide) (by decide) (by decide) 1 rfl
  rw [← hW1] at n1
  have n2 := next_one (W1.iter dotS 0) W1.heap.size dotS 0 46 (World.iter_heap _ _ _) (by decide) (by decide) (by decide) 1 rfl
  have n3 := fun ty => Lib.run_next_end_at (P := Tryz.prog) ((W1.iter dotS 0).iterAt W1.heap.size dotS 1) W1.heap.size dotS 1 ty (Lib.iterAt_heap _ _ _ _ _ (World.iter_heap _ _ _)) (by decide)
  have hB : Below w.heap.size w ((W1.iter dotS 0).iterAt W1.heap.size dotS 1) := by
    have h1 : w.heap.size ≤ W1.heap.size := by rw [hW1, Lib.iterAt_size]; exact (below_iter (Below.refl _ _) (Nat.le_refl _) _ _ : Below w.heap.size w _).size
    refine Lib.below_iterAt (below_iter ?_ h1 _ _) h1 _ _
    rw [hW1]
    exact Lib.below_iterAt (below_iter (Below.refl _ _) (Nat.le_refl _) _ _) (Nat.le_refl _) _ _
  clear hW1
  go_enter Tryz.func120, Tryz.ntmps120
  go_wp2
  refine wp_loop_rounds 3 ?_
  rw [rounds_succ]
  go_wp2
  refine wp_loop_rounds 3 ?_
  rw [rounds_succ]
  go_wp2
  rw [rounds_succ]
  go_wp2
  go_ret
  exact ⟨rfl, hB⟩

set_option maxRecDepth 100000 in
set_option maxHeartbeats 4000000 in
theorem cutLeft_dash (w : World) : Calls Tryz.prog 120 #[.string bothS, .string dashS] w fun e w' => e = .returned (.string dotS) ∧ Below w.heap.size w w' := by
  obtain ⟨W1, hW1⟩ : ∃ W1, W1 = (w.iter bothS 0).iterAt w.heap.size bothS 1 := ⟨_, rfl⟩
  have n1 := next_one (w.iter bothS 0) w.heap.size bothS 0 45 (World.iter_heap _ _ _) (by decide) (by decide) (by decide) 1 rfl
  rw [← hW1] at n1
  have hk1 : W1.heap[w.heap.size]? = some (.stringIter bothS 1) := by rw [hW1]; exact Lib.iterAt_heap _ _ _ _ _ (World.iter_heap _ _ _)
  have hb1 : Below w.heap.size w W1 := by rw [hW1]; exact Lib.below_iterAt (below_iter (Below.refl _ _) (Nat.le_refl _) _ _) (Nat.le_refl _) _ _
  have hl1 := blk_lt hk1
  have n2 := next_one (W1.iter dashS 0) W1.heap.size dashS 0 45 (World.iter_heap _ _ _) (by decide) (by decide) (by decide) 1 rfl
  obtain ⟨W2, hW2⟩ : ∃ W2, W2 = (W1.iter dashS 0).iterAt W1.heap.size dashS 1 := ⟨_, rfl⟩
  rw [← hW2] at n2
  have n3 := fun ty => Lib.run_next_end_at (P := Tryz.prog) W2 W1.heap.size dashS 1 ty (by rw [hW2]; exact Lib.iterAt_heap _ _ _ _ _ (World.iter_heap _ _ _)) (by decide)
  have hk2 : W2.heap[w.heap.size]? = some (.stringIter bothS 1) := by rw [hW2, Lib.iterAt_other _ _ _ _ _ (by omega), iter_lower _ _ _ _ hl1]; exact hk1
  have hb2 : Below w.heap.size w W2 := by rw [hW2]; exact Lib.below_iterAt (below_iter hb1 hb1.size _ _) hb1.size _ _
  obtain ⟨W3, hW3⟩ : ∃ W3, W3 = W2.iterAt w.heap.size bothS 2 := ⟨_, rfl⟩
  have n4 := next_one W2 w.heap.size bothS 1 46 hk2 (by decide) (by decide) (by decide) 2 rfl
  rw [← hW3] at n4
  have hb3 : Below w.heap.size w W3 := by rw [hW3]; exact Lib.below_iterAt hb2 (Nat.le_refl _) _ _
  have n5 := next_one (W3.iter dashS 0) W3.heap.size dashS 0 45 (World.iter_heap _ _ _) (by decide) (by decide) (by decide) 1 rfl
  obtain ⟨W4, hW4⟩ : ∃ W4, W4 = (W3.iter dashS 0).iterAt W3.heap.size dashS 1 := ⟨_, rfl⟩
  rw [← hW4] at n5
  have n6 := fun ty => Lib.run_next_end_at (P := Tryz.prog) W4 W3.heap.size dashS 1 ty (by rw [hW4]; exact Lib.iterAt_heap _ _ _ _ _ (World.iter_heap _ _ _)) (by decide)
  have hb4 : Below w.heap.size w W4 := by rw [hW4]; exact Lib.below_iterAt (below_iter hb3 hb3.size _ _) hb3.size _ _
  clear hW1 hW2 hW3 hW4 hk1 hk2 hl1 hb1 hb2 hb3
  go_enter Tryz.func120, Tryz.ntmps120
  go_wp2
  refine wp_loop_rounds 3 ?_
  rw [rounds_succ]
  go_wp2
  refine wp_loop_rounds 3 ?_
  rw [rounds_succ]
  go_wp2
  rw [rounds_succ]
  go_wp2
  rw [rounds_succ]
  go_wp2
  refine wp_loop_rounds 3 ?_
  rw [rounds_succ]
  go_wp2
  rw [rounds_succ]
  go_wp2
  go_ret
  exact ⟨rfl, hb4⟩

set_option maxRecDepth 100000 in
theorem last_both (w : World) : Calls Tryz.prog 170 #[.string bothS] w fun e w' => e = .returned (.tuple #[.int .i32 46, .int .i64 1]) ∧ w' = w := by
  have e1 : wrap32 (bothS[1].toNat : Int) = 46 := by kernel_rfl
  go_enter Tryz.func170, Tryz.ntmps170
  go_wp2
  go_ret2
  refine ⟨?_, rfl⟩
  show Ending.returned (.tuple #[.int .i32 (wrap32 (bothS[1].toNat : Int)), .int .i64 1]) = _
  rw [e1]
set_option maxRecDepth 100000 in
theorem last_dash (w : World) : Calls Tryz.prog 170 #[.string dashS] w fun e w' => e = .returned (.tuple #[.int .i32 45, .int .i64 1]) ∧ w' = w := by
  have e1 : wrap32 (dashS[0].toNat : Int) = 45 := by kernel_rfl
  go_enter Tryz.func170, Tryz.ntmps170
  go_wp2
  go_ret2
  refine ⟨?_, rfl⟩
  show Ending.returned (.tuple #[.int .i32 (wrap32 (dashS[0].toNat : Int)), .int .i64 1]) = _
  rw [e1]
set_option maxRecDepth 100000 in
theorem last_dot (w : World) : Calls Tryz.prog 170 #[.string dotS] w fun e w' => e = .returned (.tuple #[.int .i32 46, .int .i64 1]) ∧ w' = w := by
  have e1 : wrap32 (dotS[0].toNat : Int) = 46 := by kernel_rfl
  go_enter Tryz.func170, Tryz.ntmps170
  go_wp2
  go_ret2
  refine ⟨?_, rfl⟩
  show Ending.returned (.tuple #[.int .i32 (wrap32 (dotS[0].toNat : Int)), .int .i64 1]) = _
  rw [e1]

set_option maxRecDepth 100000 in
set_option maxHeartbeats 4000000 in
theorem cutRight_dash (w : World) : Calls Tryz.prog 119 #[.string dotS, .string dashS] w fun e w' => e = .returned (.string dotS) ∧ Below w.heap.size w w' := by
  obtain ⟨W1, hW1⟩ : ∃ W1, W1 = (w.iter dashS 0).iterAt w.heap.size dashS 1 := ⟨_, rfl⟩
  have n1 := next_one (w.iter dashS 0) w.heap.size dashS 0 45 (World.iter_heap _ _ _) (by decide) (by decide) (by decide) 1 rfl
  rw [← hW1] at n1
  have n3 := fun ty => Lib.run_next_end_at (P := Tryz.prog) W1 w.heap.size dashS 1 ty (by rw [hW1]; exact Lib.iterAt_heap _ _ _ _ _ (World.iter_heap _ _ _)) (by decide)
  have hb1 : Below w.heap.size w W1 := by rw [hW1]; exact Lib.below_iterAt (below_iter (Below.refl _ _) (Nat.le_refl _) _ _) (Nat.le_refl _) _ _
  clear hW1
  go_enter Tryz.func119, Tryz.ntmps119
  go_wp2
  refine wp_loop_rounds 3 ?_
  rw [rounds_succ]
  go_wp2_with fail
  refine (last_dot w).mono ?_
  rintro e w' ⟨rfl, rfl⟩
  go_wp2
  refine wp_loop_rounds 3 ?_
  rw [rounds_succ]
  go_wp2
  rw [rounds_succ]
  go_wp2
  go_ret
  exact ⟨rfl, hb1⟩

set_option maxRecDepth 100000 in
set_option maxHeartbeats 4000000 in
theorem cutRight_dot (w : World) : Calls Tryz.prog 119 #[.string bothS, .string dotS] w fun e w' => e = .returned (.string dashS) ∧ Below w.heap.size w w' := by
  obtain ⟨W1, hW1⟩ : ∃ W1, W1 = (w.iter dotS 0).iterAt w.heap.size dotS 1 := ⟨_, rfl⟩
  have n1 := next_one (w.iter dotS 0) w.heap.size dotS 0 46 (World.iter_heap _ _ _) (by decide) (by decide) (by decide) 1 rfl
  rw [← hW1] at n1
  have n3 := fun ty => Lib.run_next_end_at (P := Tryz.prog) W1 w.heap.size dotS 1 ty (by rw [hW1]; exact Lib.iterAt_heap _ _ _ _ _ (World.iter_heap _ _ _)) (by decide)
  have hb1 : Below w.heap.size w W1 := by rw [hW1]; exact Lib.below_iterAt (below_iter (Below.refl _ _) (Nat.le_refl _) _ _) (Nat.le_refl _) _ _
  obtain ⟨W2, hW2⟩ : ∃ W2, W2 = (W1.iter dotS 0).iterAt W1.heap.size dotS 1 := ⟨_, rfl⟩
  have n4 := next_one (W1.iter dotS 0) W1.heap.size dotS 0 46 (World.iter_heap _ _ _) (by decide) (by decide) (by decide) 1 rfl
  rw [← hW2] at n4
  have n5 := fun ty => Lib.run_next_end_at (P := Tryz.prog) W2 W1.heap.size dotS 1 ty (by rw [hW2]; exact Lib.iterAt_heap _ _ _ _ _ (World.iter_heap _ _ _)) (by decide)
  have hb2 : Below w.heap.size w W2 := by rw [hW2]; exact Lib.below_iterAt (below_iter hb1 hb1.size _ _) hb1.size _ _
  clear hW1 hW2 hb1
  have he : bothS.extract 0 1 = dashS := by decide
  go_enter Tryz.func119, Tryz.ntmps119
  go_wp2
  refine wp_loop_rounds 3 ?_
  rw [rounds_succ]
  go_wp2_with fail
  refine (last_both w).mono ?_
  rintro e w' ⟨rfl, rfl⟩
  go_wp2
  refine wp_loop_rounds 3 ?_
  rw [rounds_succ]
  go_wp2
  rw [rounds_succ]
  go_wp2
  rw [rounds_succ]
  go_wp2_with fail
  refine (last_dash W1).mono ?_
  rintro e w' ⟨rfl, rfl⟩
  go_wp2
  refine wp_loop_rounds 3 ?_
  rw [rounds_succ]
  go_wp2
  rw [rounds_succ]
  go_wp2
  go_ret
  exact ⟨rfl, hb2⟩

/-! ### turned -/
def flipB (b : UInt8) : UInt8 := if b = 45 then 46 else 45
theorem signs_at {s : ByteArray} (h : isSigns s = true) (i : Nat) (hi : i < s.size) : s.data[i]'hi = 45 ∨ s.data[i]'hi = 46 := by
  have := List.all_eq_true.1 h (s.data[i]'hi) (by simp)
  simpa using this
def turnAt (s : ByteArray) (i : Nat) : ByteArray := s.extract 0 i ++ ⟨#[flipB (s.data.getD i 0)]⟩ ++ s.extract (i + 1) s.size
theorem extract_one (s : ByteArray) (i : Nat) (hi : i < s.size) : s.extract i (i + 1) = ⟨#[s.data[i]'hi]⟩ := by
  have hi' : i < s.data.size := hi
  apply ByteArray.ext
  rw [ByteArray.data_extract]
  apply Array.ext
  · simp; omega
  · intro j h1 h2
    simp at h2
    subst h2
    simp
set_option maxRecDepth 100000 in
set_option maxHeartbeats 4000000 in
theorem turned_calls (s : ByteArray) (i : Nat) (hi : i < s.size) (hs : s.size ≤ 1000) (hsg : isSigns s = true) (w : World) : Calls Tryz.prog 73 #[.string s, .int .i64 i] w fun e w' => e = .returned (.string (turnAt s i)) ∧ Below w.heap.size w w' := by
  have hx := extract_one s i hi
  have k0 : (0 : Int) ≤ (i : Int) := by omega
  have k1 : (i : Int) ≤ (s.size : Int) := by omega
  have k2 : (i : Int) ≤ (i : Int) + 1 := by omega
  have k3 : (i : Int) + 1 ≤ (s.size : Int) := by omega
  have k4 : (0 : Int) ≤ (i : Int) + 1 := by omega
  have k5 : IntKind.i64.wrap ((i : Int) + 1) = (i : Int) + 1 := IntWalk.i64_in _ (by omega)
  have k6 : ((i : Int) + 1).toNat = i + 1 := by omega
  have f1 : ¬ 9223372036854775807 < min i s.size + 1 := by omega
  have f2 : ¬ 9223372036854775807 < min i s.size + 1 + (s.size - (i + 1)) := by omega
  have hg : s.data.getD i 0 = s.data[i]'hi := by simp only [Array.getD]; exact dif_pos hi
  rcases signs_at hsg i hi with hd | hd
  · rw [hd] at hx
    have ht : turnAt s i = s.extract 0 i ++ dotS ++ s.extract (i + 1) s.size := by unfold turnAt; rw [hg, hd]; rfl
    go_enter Tryz.func73, Tryz.ntmps73
    go_wp2
    go_region_held3 (fun w' => True) (trivial) (first | (go_at_call 120; refine (cutLeft_dash _).mono ?_; rintro e w' ⟨rfl, hb⟩; have hB := below_step (Below.refl w.heap.size w).drew hb; clear hb) | (go_at_call 119; refine (cutRight_dash _).mono ?_; rintro e w'' ⟨rfl, hb'⟩; have hB' := below_step hB hb'; clear hb'))
    go_wp2
    go_ret
    exact ⟨by rw [ht]; rfl, hB'⟩
  · rw [hd] at hx
    have ht : turnAt s i = s.extract 0 i ++ dashS ++ s.extract (i + 1) s.size := by unfold turnAt; rw [hg, hd]; rfl
    go_enter Tryz.func73, Tryz.ntmps73
    go_wp2
    go_region_held3 (fun w' => True) (trivial) (first | (go_at_call 120; refine (cutLeft_dot _).mono ?_; rintro e w' ⟨rfl, hb⟩; have hB := below_step (Below.refl w.heap.size w).drew hb; clear hb) | (go_at_call 119; refine (cutRight_dot _).mono ?_; rintro e w'' ⟨rfl, hb'⟩; have hB' := below_step hB hb'; clear hb'))
    go_wp2
    go_ret
    exact ⟨by rw [ht]; rfl, hB'⟩
theorem turnAt_size (s : ByteArray) (i : Nat) (hi : i < s.size) : (turnAt s i).size = s.size := by
  unfold turnAt
  simp only [ByteArray.size_append, ByteArray.size_extract]
  show _ + 1 + _ = _
  omega

/-! ### Mend -/
theorem own_below' {w w' : World} {base n : Nat} {e : TypeId} {size : Nat} {v : Value} {xs : List Value} (h : w.ownsRow base e size v n xs) (hb : Below w.heap.size w w') : w'.ownsRow base e size v n xs := by
  refine ⟨h.1, ?_⟩
  rcases h.2 with h | ⟨g, cap, cur, rfl, h1, h2, h3⟩
  · exact .inl h
  · exact .inr ⟨g, cap, cur, rfl, h1, blk_below h2 hb, h3⟩
def mendAt (l : List ByteArray) (s : ByteArray) (k : Nat) : List ByteArray := if 0 < waysV l (turnAt s k) then [turnAt s k] else []
def mendTo (l : List ByteArray) (s : ByteArray) (n : Nat) : List ByteArray := (List.range n).flatMap (mendAt l s)
theorem mendTo_succ (l : List ByteArray) (s : ByteArray) (k : Nat) : mendTo l s (k + 1) = mendTo l s k ++ mendAt l s k := by simp [mendTo, List.range_succ]
theorem mendTo_length (l : List ByteArray) (s : ByteArray) : ∀ k, (mendTo l s k).length ≤ k
  | 0 => by simp [mendTo]
  | k + 1 => by
    have := mendTo_length l s k
    rw [mendTo_succ, List.length_append]
    have h2 : (mendAt l s k).length ≤ 1 := by unfold mendAt; split <;> simp
    omega
def mendSorted (l : List ByteArray) (s : ByteArray) : List ByteArray := (sortB (mendTo l s s.size)).map fun x => ⟨x.toArray⟩
def mendR (l : List ByteArray) (s : ByteArray) : List ByteArray × Int :=
  if givenE l s = 0 then (if mendTo l s s.size = [] then ([], 6) else (mendSorted l s, 0)) else ([], givenE l s)
theorem givenE_signs {l : List ByteArray} {s : ByteArray} (h : givenE l s = 0) : isSigns s = true := by
  unfold givenE at h
  split at h
  · split at h
    · simp at h
    · split at h
      · assumption
      · simp at h
  · simp at h
set_option maxRecDepth 100000 in
set_option maxHeartbeats 8000000 in
theorem wire_Mend (A : Option Addr) (c : Nat) (l : List ByteArray) (s : ByteArray) (w : World) (hr : Kd.C Kd.string w A l.length l) (hsz : ∀ x ∈ l, x.size ≤ 9223372036854775807) (hs : s.size ≤ 9223372036854775807) :
    Calls Tryz.prog 22 #[.agg #[.slice A l.length c], .string s] w fun e w' => ∃ v, e = .returned (.tuple #[v, .int .i64 (mendR l s).2]) ∧ w'.ownsRow w.heap.size 9 1 v (mendR l s).1.length ((mendR l s).1.map Value.string) ∧ Below w.heap.size w w' := by
  go_enter Tryz.func22, Tryz.ntmps22
  go_wp2_with fail
  refine (given_calls A c l s _ (Kd.C_alloc hr _) hsz hs).mono ?_
  rintro e w1 ⟨v, rfl, hv, ⟨A', n', c', rfl⟩, hb⟩
  have HB := Lib.hid (below_step (below1 w _) hb)
  have HR := Lib.hid (Kd.C_below hr HB.out)
  clear hb hr
  rcases givenE_cases l s with hg | hg | hg
  · have hv' := hv hg
    simp only [Value.slice.injEq] at hv'
    obtain ⟨h1, h2, h3⟩ := hv'
    subst A' n' c'
    have hw := Lib.hid (fun x hx => (codeOk_words (givenE_ok hg) x hx).1)
    have hsz2 := givenE_size hg
    have hsg := Lib.hid (givenE_signs hg)
    have HG := Lib.hid hg
    rw [hg]
    clear hv hg
    go_wp2_with fail
    refine (counter_calls A c l _ (Kd.C_alloc HR.out _) hw.out).mono ?_
    rintro e w2 ⟨rfl, hM, hMap, hb2⟩
    have HB2 := Lib.hid (below_step (below_alloc HB.out _) hb2)
    simp only [World.size_alloc] at hM hMap ⊢
    have hms : w.heap.size ≤ w1.heap.size + 1 + 1 := by have := HB.out.size; omega
    have hltM := hMap.lt
    have hB1 := HB.out.size
    have hBM := hb2.size
    rw [World.size_alloc] at hBM
    obtain ⟨m, hm⟩ : ∃ m, m = w1.heap.size + 1 + 1 := ⟨_, rfl⟩
    obtain ⟨bm, hbm⟩ : ∃ m, m = w1.heap.size + 1 + 1 + 1 := ⟨_, rfl⟩
    obtain ⟨bk, hbk⟩ : ∃ m, m = w1.heap.size + 1 := ⟨_, rfl⟩
    obtain ⟨bf, hbf⟩ : ∃ m, m = w1.heap.size + 1 + 1 + 1 + 1 := ⟨_, rfl⟩
    rw [← hbf, ← hbm, ← hm, ← hbk] at hM
    rw [← hm] at hMap hms hltM
    rw [show w1.heap.size + 1 + 1 + 1 + 1 = bf from hbf.symm, show w1.heap.size + 1 + 1 + 1 = bm from hbm.symm, show w1.heap.size + 1 = bk from hbk.symm]
    have HM := Lib.hid hM
    have HMap := Lib.hid hMap
    clear hM hMap hb2 hm hbm hbk hbf
    obtain ⟨i0, hi, hz0, hz1, hz2⟩ := info_parts info9
    go_wp2
    go_loopw [9, 25] (fun v i wr => ∃ k : Nat, k ≤ s.size ∧ i = .int .i64 k ∧ wr.ownsRow w2.heap.size 9 1 v (mendTo l s k).length ((mendTo l s k).map Value.string) ∧ (v = .slice none 0 0 ↔ mendTo l s k = []) ∧ Keep w2.heap.size (some m) w2 wr ∧ MapOk l m wr)
      (fun _ i _ => s.size - (intOf i).toNat)
    case atStart => exact ⟨0, by omega, rfl, by simpa [mendTo] using World.ownsRow_nil _ _ _ _, by simp [mendTo], Keep.refl _ _ _, HMap.out⟩
    case round =>
      obtain ⟨k, hk1, rfl, hown, hnil, hK, hmap⟩ := hrel
      by_cases hlt : k < s.size
      · have hts := turnAt_size s k hlt
        have hsc := Lib.hid (mendTo_succ l s k)
        have hlen := mendTo_length l s k
        have Hnil := Lib.hid hnil
        have HK := Lib.hid hK
        have Hmap := Lib.hid hmap
        have Hown := Lib.hid hown
        clear hnil hK hmap hown
        go_wp2_with fail
        refine (turned_calls s k hlt (by omega) hsg.out wr).mono ?_
        rintro e w3 ⟨rfl, hb3⟩
        have HK3 := Lib.hid (HK.out.trans (.of_below (hb3.mono HK.out.size) _))
        have Hmap3 := Lib.hid (Hmap.out.of_heap (hb3.block _ Hmap.out.lt))
        have Hown3 := Lib.hid (own_below' Hown.out hb3)
        clear hb3
        obtain ⟨x, hx⟩ : ∃ x, x = turnAt s k := ⟨_, rfl⟩
        rw [← hx] at hts ⊢
        have hcnt := count_calls HM.out (s.size + 1) x w3 (by omega) HK3.out Hmap3.out
        obtain ⟨nx, hnx⟩ : ∃ nx, nx = waysV l x := ⟨_, rfl⟩
        rw [← hnx] at hcnt
        have Hcnt := Lib.hid hcnt
        have hge : 0 ≤ nx := by rw [hnx]; exact (waysF_bound l _ x).1
        have Hx := Lib.hid hx
        have Hnx := Lib.hid hnx
        clear hcnt hx hnx
        go_wp2_with fail
        refine Hcnt.out.mono ?_
        rintro e w4 ⟨rfl, hk4, hm4⟩
        have HK4 := Lib.hid (HK3.out.trans (hk4.mono HK3.out.size))
        have Hm4 := Lib.hid hm4
        have Hown4 : Hid (w4.ownsRow w2.heap.size 9 1 u9 (mendTo l s k).length ((mendTo l s k).map Value.string)) := Lib.hid (by
          obtain ⟨es, ck, hmm, _⟩ := Hmap3.out
          refine own_kept_obj Hown3.out ⟨hk4.os, hk4.tape, hk4.output, hk4.size, hk4.block⟩ ?_
          rintro r e; cases e
          exact ⟨_, hmm, rfl⟩)
        have hsz4 := HK4.out.size
        clear hk4 hm4
        by_cases hpx : 0 < nx
        · go_wp2_with (at_builtin; refine wpList_append_own_at _ rfl _ _ 22 rfl w2.heap.size 9 i0 (.string ⟨#[]⟩) 1 16 Tryz.underlying22 hi hz0 hz1 hz2 rfl (by decide) _ _ _ rfl (Hown4.out.alloc _) ⟨w4.heap.size, 0, none⟩ 1 1 [.string x] rfl rfl (cell_one_new _ _ _) (by simp [Value.oneCell']) (by unfold maxLen; omega) (by omega) (by simp; omega) ?_; intro v' w5 hown' hgrow _ _; have hgrow' : (w4.alloc (.cells #[.string x] 9)).grownBy w5 u9.ownBlock := hgrow; clear hgrow; obtain ⟨g', cap', rfl⟩ := ownsRow_succ hown'; have Hg := Lib.hid hgrow'; have Ho := Lib.hid hown'; clear hgrow' hown')
          have hxe : mendTo l s k ++ [x] = mendTo l s (k + 1) := by rw [hsc.out]; unfold mendAt; rw [← Hx.out, ← Hnx.out, if_pos hpx]
          go_roundw
          case rel =>
            refine ⟨k + 1, by omega, by simp, ?_, ?_, ?_, ?_⟩
            · have := Ho.out
              rw [← hxe]; simpa using this
            · rw [← hxe]; simp
            · refine HK4.out.trans ?_
              have hk5 : Keep w2.heap.size (some m) w4 (w4.alloc (.cells #[.string x] 9)) := .of_below ((below1 _ _).mono hsz4) _
              refine hk5.trans ⟨Hg.out.os, Hg.out.tape, Hg.out.output, Hg.out.size, fun j hj hne => Hg.out.block j (by simp only [World.size_alloc]; omega) (fun e => ?_)⟩
              have := own_base Hown4.out j e.symm; omega
            · obtain ⟨es, ck, hmm, hrest⟩ := Hm4.out
              refine ⟨es, ck, ?_, hrest⟩
              refine (Hg.out.block m (by have := blk_lt hmm; simp only [World.size_alloc]; omega) (fun e => ?_)).trans (blk_alloc hmm _)
              obtain ⟨cc, hc⟩ := own_typed Hown4.out m e.symm
              rw [hmm] at hc; cases hc
          case measure => simp [intOf]; omega
        · have h0x : nx = 0 := by omega
          subst h0x
          have hxe : mendTo l s (k + 1) = mendTo l s k := by rw [hsc.out]; unfold mendAt; rw [← Hx.out, ← Hnx.out]; simp
          go_wp2
          go_roundw
          case rel => exact ⟨k + 1, by omega, by simp, by rw [hxe]; exact Hown4.out, by rw [hxe]; exact Hnil.out, HK4.out, Hm4.out⟩
          case measure => simp [intOf]; omega
      · obtain rfl : k = s.size := by omega
        have hB2 := HB2.out.size
        have hBw : Below w.heap.size w wr := HB2.out.trans (hK.lose hB2 (fun j e => by cases e; omega))
        rcases hown.2 with ⟨rfl, hz⟩ | ⟨gb, cap, cur, rfl, hbase, hgb, r1, r2, r3, r4⟩
        · have hR : mendR l s = ([], 6) := by unfold mendR; rw [HG.out, if_pos rfl, if_pos (hnil.1 rfl)]
          go_wp2
          go_ret2
          exact ⟨_, rfl, World.ownsRow_nil _ _ _ _, hBw⟩
        · have hne : mendTo l s s.size ≠ [] := fun e => by have := hnil.2 e; cases this
          have hR : mendR l s = (mendSorted l s, 0) := by unfold mendR; rw [HG.out, if_pos rfl, if_neg hne]
          have hpos : 0 < (mendTo l s s.size).length := List.length_pos_iff.2 hne
          have hlen2 := mendTo_length l s s.size
          rw [map_string_enc] at r4
          obtain ⟨ms, hms'⟩ : ∃ ms, ms = mendTo l s s.size := ⟨_, rfl⟩
          rw [← hms'] at r4 r1 hpos hlen2 ⊢
          have hH : Holds encStr wr gb 0 (ms.map (·.data.toList)).toArray := holds_of_block hgb (by simpa using r4)
          have hgl := blk_lt hgb
          have hlen : (ms.map (·.data.toList)).length = ms.length := by simp
          have cS := Tryz.slices_Sort_string gb 0 cap (ms.map (·.data.toList)) wr hH hgl (by rw [hlen]; omega)
          rw [hlen] at cS
          have HL := Lib.hid hlen
          have Hms' := Lib.hid hms'
          have CS := Lib.hid cS
          have HBw := Lib.hid hBw
          have HRR := Lib.hid hR
          clear hlen hms' cS hH hown hnil hK hmap hBw hR hne
          go_wp2_with fail
          refine CS.out.mono ?_
          rintro e w3 ⟨rfl, nn, os, rfl⟩
          go_wp2
          go_ret2
          have hrow := ownsRow_sorted (n := nn) (os := os) (ss := ms.map (·.data.toList)) (ts := sortB ms) (by simp [sortB]) hbase hgb (by simpa using r1) r2 r3
          rw [HL.out] at hrow
          have hfin : (mendSorted l s).map Value.string = (sortB ms).map encStr := by unfold mendSorted; rw [← Hms'.out, List.map_map]; rfl
          have hlenS : (mendSorted l s).length = ms.length := by unfold mendSorted; rw [← Hms'.out]; simp [sortB]
          rw [HRR.out]
          refine ⟨_, rfl, ?_, HBw.out.grown (grownBy_sorted _) HBw.out.size (fun j hj => by cases hj; omega)⟩
          dsimp only
          rw [hfin, hlenS]
          exact own_lower hrow hB2
  · have hR : mendR l s = ([], 110) := by unfold mendR; rw [hg]; rfl
    rw [hg]
    clear hv hg
    go_wp2
    go_ret2
    rw [hR]
    exact ⟨_, rfl, World.ownsRow_nil _ _ _ _, below_alloc HB.out _⟩
  · have hR : mendR l s = ([], 112) := by unfold mendR; rw [hg]; rfl
    rw [hg]
    clear hv hg
    go_wp2
    go_ret2
    rw [hR]
    exact ⟨_, rfl, World.ownsRow_nil _ _ _ _, below_alloc HB.out _⟩
end Go.Proofs.YtfnibmcenjiodaaGreatDoor.M
