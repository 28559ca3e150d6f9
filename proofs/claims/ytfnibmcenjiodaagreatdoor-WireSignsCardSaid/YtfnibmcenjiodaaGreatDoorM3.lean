/- Walks of wire.in, wire.signs, slices.Values, AppendSeq, Collect, Sorted at strings. No statement of the seat is proved here. -/
import Derived.Test.YtfnibmcenjiodaaGreatDoorM2
namespace Go.Proofs.YtfnibmcenjiodaaGreatDoor.M
open Go.Shelf Go.RowKit Go.Proofs.YtfnibmcenjiodaaGreatDoorW.PrintWords Go.Proofs.YtfnibmcenjiodaaGreatDoorW.PrintLast Go.Proofs.YtfnibmcenjiodaaGreatDoorW.PrintMore
attribute [local go_sem] Oper.semAt_some

theorem in1 (n lo hi : Int) (p q : Addr) (w : World) (h1 : w.cell? p = some (.int .i64 lo)) (h2 : w.cell? q = some (.int .i64 hi)) :
   Calls Tryz.prog 113 #[.int .i64 n, .pointer (some p), .pointer (some q)] w fun e w' => e = .returned (.bool (decide (n < lo) || decide (hi < n))) ∧ w = w' := by
  by_cases hlt : n < lo
  · have hd : decide (n < lo) = true := by simpa using hlt
    go_enter Tryz.func113, Tryz.ntmps113
    go_wp2
    go_ret
    exact ⟨by simp [hlt], rfl⟩
  · have hd : decide (n < lo) = false := by simpa using hlt
    go_enter Tryz.func113, Tryz.ntmps113
    go_wp2
    go_ret
    exact ⟨by simp, rfl⟩

set_option maxHeartbeats 400000 in
theorem indexFunc_int (g : Nat) (cap : Array Value) (args : Int → Array Value) (P : Int → Bool) (A : Option Addr) (c : Nat) (l : List Int) (w : World) (hr : Kd.C (Kd.int .i64) w A l.length l)
   (eg : ∀ args w, (callFunc g args).run Tryz.prog w = .ok (.enter g args) w)
   (ha : Hid (∀ x, #[Value.int .i64 x] ++ cap = args x))
   (hf : Hid (∀ x, Calls Tryz.prog g (args x) w fun e w' => e = .returned (.bool (P x)) ∧ w = w')) :
   Calls Tryz.prog 166 #[.slice A l.length c, .func (.func g) #[] cap] w fun e w' => e = .returned (.int .i64 (pIdx P l)) ∧ w = w' := by
  have hmax := Kd.C_max hr
  go_enter Tryz.func166, Tryz.ntmps166
  go_wp2
  go_loop [8] (fun i => ∃ k : Nat, k ≤ l.length ∧ i = .int .i64 k ∧ Hid (∀ i (hi : i < k) (h : i < l.length), P l[i] = false)) (fun i => l.length - (intOf i).toNat)
  case atStart => exact ⟨0, by omega, rfl, Lib.hid (fun i hi => by omega)⟩
  case round =>
    obtain ⟨k, hk, rfl, H⟩ := hrel
    by_cases hlt : k < l.length
    · obtain ⟨ad, rfl, hcell⟩ := Kd.at_int hr k (by omega) (by omega)
      rw [show ((k : Int).toNat) = k from by omega] at hcell
      have hrd : Hid (rd l k = l[k]) := Lib.hid (by simp [rd, hlt])
      go_wp2_with fail
      rw [ha.out]
      refine (hf.out _).mono ?_
      rintro e w' ⟨rfl, rfl⟩
      cases hb : P (rd l k)
      · go_wp2
        go_round
        case rel => exact ⟨k + 1, by omega, by go_num, Lib.hid (fun i hi h => by
          by_cases e : i < k
          · exact H.out i e h
          · obtain rfl : i = k := by omega
            rw [← hrd.out]; exact hb)⟩
        case measure => simp [intOf]; omega
      · go_wp2
        go_ret
        exact ⟨ret_int (pIdx_some P l k hlt (fun i hi => H.out i hi (by omega)) (by rw [← hrd.out]; exact hb)).symm, rfl⟩
    · go_wp2
      go_ret
      exact ⟨ret_int (pIdx_none P l (fun i hi => H.out i (by omega) hi)).symm, rfl⟩
theorem containsFunc_int (g : Nat) (cap : Array Value) (args : Int → Array Value) (P : Int → Bool) (A : Option Addr) (c : Nat) (l : List Int) (w : World) (hr : Kd.C (Kd.int .i64) w A l.length l)
   (eg : ∀ args w, (callFunc g args).run Tryz.prog w = .ok (.enter g args) w)
   (ha : Hid (∀ x, #[Value.int .i64 x] ++ cap = args x))
   (hf : Hid (∀ x, Calls Tryz.prog g (args x) w fun e w' => e = .returned (.bool (P x)) ∧ w = w')) :
   Calls Tryz.prog 112 #[.slice A l.length c, .func (.func g) #[] cap] w fun e w' => e = .returned (.bool (l.any P)) ∧ w = w' := by
  go_enter Tryz.func112, Tryz.ntmps112
  go_wp2_with fail
  refine (indexFunc_int g cap args P A c l w hr eg ha hf).mono ?_
  rintro e w' ⟨rfl, rfl⟩
  go_wp2
  go_ret
  exact ⟨ret_bool (pIdx_any P l), rfl⟩

/-- All numbers are from lo to hi. -/
def inB (lo hi : Int) (l : List Int) : Bool := l.all fun n => decide (lo ≤ n) && decide (n ≤ hi)
theorem inB_any (lo hi : Int) (l : List Int) : (!l.any fun n => decide (n < lo) || decide (hi < n)) = inB lo hi l := by
  unfold inB
  rw [Bool.eq_iff_iff]
  simp [List.any_eq_false]
theorem wire_in (lo hi : Int) (A : Option Addr) (c : Nat) (l : List Int) (w : World) (hr : Kd.C (Kd.int .i64) w A l.length l) :
   Calls Tryz.prog 64 #[.int .i64 lo, .int .i64 hi, .slice A l.length c] w fun e w' => e = .returned (.bool (inB lo hi l)) ∧ Below w.heap.size w w' := by
  go_enter Tryz.func64, Tryz.ntmps64
  go_wp2_with fail
  refine (containsFunc_int 113 _ (fun x => #[.int .i64 x, .pointer (some ⟨w.heap.size, 0, none⟩), .pointer (some ⟨w.heap.size + 1, 0, none⟩)]) (fun n => decide (n < lo) || decide (hi < n)) A c l _ (Kd.C_alloc (Kd.C_alloc hr _) _) (enters_of Tryz.func113 (by kernel_rfl) rfl) (Lib.hid (fun _ => rfl)) (Lib.hid (fun x => in1 x lo hi _ _ _ (cell_old _ (cell_new _ _ _)) (cell_new1 _ _ _ _)))).mono ?_
  rintro e w' ⟨rfl, rfl⟩
  go_wp2
  go_ret
  exact ⟨ret_bool (inB_any lo hi l), below2 _ _ _⟩

/-- A string has signs alone. -/
def isSigns (s : ByteArray) : Bool := s.data.toList.all fun b => b == 45 || b == 46
theorem dropWhile_nil {α : Type} (p : α → Bool) (l : List α) : l.dropWhile p = [] ↔ ∀ x ∈ l, p x = true := by
  induction l with
  | nil => simp
  | cons a l ih =>
    by_cases h : p a = true
    · simp [h, ih]
    · simp [h]
theorem trimS_nil (l : List UInt8) : Lib.trimS l [45, 46] = [] ↔ ∀ b ∈ l, b = 45 ∨ b = 46 := by
  unfold Lib.trimS Lib.trimLeftS Lib.trimRightS
  rw [dropWhile_nil]
  constructor
  · intro h
    have h2 : l.reverse.dropWhile (fun x => [45, 46].contains x) = [] := by
      cases hd : l.reverse.dropWhile (fun x => [45, 46].contains x) with
      | nil => rfl
      | cons a m =>
        have := List.head_dropWhile_not (fun x => ([45, 46] : List UInt8).contains x) (l := l.reverse) (by rw [hd]; simp)
        simp only [hd, List.head_cons] at this
        have h3 := h a (by rw [hd]; simp)
        rw [h3] at this
        cases this
    rw [dropWhile_nil] at h2
    intro b hb
    have := h2 b (by simpa using hb)
    simpa using this
  · intro h x hx
    have : x ∈ l := by
      have := (List.dropWhile_sublist (fun x => ([45, 46] : List UInt8).contains x)).subset (List.mem_reverse.1 hx)
      simpa using this
    simpa using h x this
theorem isSigns_iff (s : ByteArray) : isSigns s = true ↔ ∀ b ∈ s.data.toList, b = 45 ∨ b = 46 := by
  unfold isSigns
  rw [List.all_eq_true]
  simp only [Bool.or_eq_true, beq_iff_eq]
theorem wire_signs (s : ByteArray) (w : World) (hs : s.size ≤ 9223372036854775807) :
   Calls Tryz.prog 115 #[.string s] w fun e w' => e = .returned (.bool (isSigns s)) ∧ Below w.heap.size w w' := by
  by_cases hb : isSigns s = true
  · have ht : (Lib.trimS s.data.toList [45, 46]) = [] := (trimS_nil _).2 ((isSigns_iff s).1 hb)
    have Ht := Lib.hid ht
    clear ht
    go_enter Tryz.func115, Tryz.ntmps115
    go_wp2_with fail
    refine (Tryz.strings_Trim_signs s w hs).mono ?_
    rw [Ht.out]
    rintro e w' ⟨rfl, hw⟩
    go_wp2
    go_ret
    exact ⟨by rw [hb]; rfl, hw⟩
  · have ht : (Lib.trimS s.data.toList [45, 46]) ≠ [] := fun h => hb ((isSigns_iff s).2 ((trimS_nil _).1 h))
    obtain ⟨x, y, he⟩ := List.exists_cons_of_ne_nil ht
    have Ht := Lib.hid he
    clear ht he
    go_enter Tryz.func115, Tryz.ntmps115
    go_wp2_with fail
    refine (Tryz.strings_Trim_signs s w hs).mono ?_
    rw [Ht.out]
    rintro e w' ⟨rfl, hw⟩
    go_wp2
    go_ret
    exact ⟨by rw [show isSigns s = false by simpa using hb]; rfl, hw⟩
end Go.Proofs.YtfnibmcenjiodaaGreatDoor.M
