/- The reference's Message, Send, Ways, in plain Lean. No statement of the seat is proved here. -/
import Derived.Test.YtfnibmcenjiodaaGreatDoorN1
import Derived.Test.YtfnibmcenjiodaaGreatDoorM8
namespace Go.Proofs.YtfnibmcenjiodaaGreatDoor.N
open Go.Sort Go.Shelf Go.RowKit Go.Proofs.YtfnibmcenjiodaaGreatDoorW.PrintWords Go.Proofs.YtfnibmcenjiodaaGreatDoorW.PrintLast Go.Proofs.YtfnibmcenjiodaaGreatDoorW.PrintMore
open Go.Proofs.YtfnibmcenjiodaaGreatDoor.M Go.Proofs.YtfnibmcenjiodaaGreatDoor.R

theorem Rd_nat (l : List Int) (i : Nat) (h : i < l.length) : Go.Proofs.YtfnibmcenjiodaaGreatDoorW.PrintWords.rd l (i : Int) = l[i] := rd_nat l i h
def msgOf (l : List ByteArray) (o : List Int) : ByteArray × Bool := match sendLoop l [] o with | some s => (⟨s.toArray⟩, true) | none => (⟨#[]⟩, false)
def msgFrom (l : List ByteArray) (acc : ByteArray) (o : List Int) : ByteArray × Bool := match sendLoop l acc.data.toList o with | some s => (⟨s.toArray⟩, true) | none => (⟨#[]⟩, false)
theorem sendLoop_big (l : List ByteArray) : ∀ (acc : List UInt8) (o : List Int), 250 < acc.length → sendLoop l acc o = none
  | acc, [], h => by simp [sendLoop, h]
  | acc, n :: r, h => by simp [sendLoop, h]
theorem inB_one (n : Nat) (z : Int) : inB 1 n [z] = decide (1 ≤ z ∧ z ≤ (n : Int)) := by rw [Bool.eq_iff_iff]; simp [inB]
theorem data_append (a b : ByteArray) : (a ++ b).data.toList = a.data.toList ++ b.data.toList := by
  rw [ByteArray.data_append, Array.toList_append]
theorem message_l0 (l : List ByteArray) (hl : l.length ≤ 12) (hw : ∀ x ∈ l, x.size ≤ 12) (o : List Int) (ho : o.length < 4611686018427387904) (hov : ∀ z ∈ o, -9223372036854775808 ≤ z ∧ z ≤ 9223372036854775807) : ∀ (k i : Nat) (acc : ByteArray), acc.size ≤ 250 → o.length - i < k → i ≤ o.length →
    oilcakeref11_Message.l0 k acc o (o.length : Int) (i : Int) l = some (msgFrom l acc (o.drop i))
  | 0, _, _, _, h, _ => by omega
  | k + 1, i, acc, ha, h, hi => by
    unfold oilcakeref11_Message.l0
    by_cases hlt : i < o.length
    · rw [if_pos (by omega), if_pos (by omega), if_pos (by omega), Rd_nat _ _ hlt, within_f, List.drop_eq_getElem_cons hlt]
      simp only [Option.bind_some]
      unfold msgFrom
      rw [sendLoop, inB_one]
      by_cases hb : 1 ≤ o[i] ∧ o[i] ≤ (l.length : Int)
      · rw [if_pos (by simpa using hb), w64 (o[i] - 1) (by omega), if_pos (by omega), if_pos (by omega)]
        have hz : rdOf ByteArray.empty l (o[i] - 1) ∈ l := by
          obtain ⟨j, hj⟩ := Int.eq_ofNat_of_zero_le (show 0 ≤ o[i] - 1 by omega)
          rw [hj, rdOf_nat _ _ _ (by omega)]
          exact List.getElem_mem _
        have hsz := hw _ hz
        rw [if_pos (by omega)]
        have hal : acc.data.toList.length = acc.size := by rw [data_length]
        by_cases hbig : 250 < (acc ++ rdOf ByteArray.empty l (o[i] - 1)).size
        · rw [if_pos (by omega)]
          rw [if_pos (by simp [hb, hal]; omega), sendLoop_big]
          · rw [← data_append]
            show 250 < (acc ++ rdOf ByteArray.empty l (o[i] - 1)).data.toList.length
            rw [data_length]; exact hbig
        · rw [if_neg (by omega), w64s _ (by omega), message_l0 l hl hw o ho hov k (i + 1) _ (by omega) (by omega) (by omega)]
          rw [if_pos (by simp [hb, hal]; omega)]
          unfold msgFrom wordAt
          rw [data_append]
      · rw [if_neg (by simpa using hb)]
        rw [if_neg (by simp; intro h1 h2; omega)]
    · rw [if_neg (by omega), List.drop_eq_nil_of_le (by omega)]
      unfold msgFrom
      have hal : acc.data.toList.length = acc.size := by rw [data_length]
      rw [sendLoop, if_neg (by omega)]
theorem message_f (l : List ByteArray) (hl : l.length ≤ 12) (hw : ∀ x ∈ l, x.size ≤ 12) (o : List Int) (ho : o.length < 4611686018427387904) (hov : ∀ z ∈ o, -9223372036854775808 ≤ z ∧ z ≤ 9223372036854775807) (k : Nat) (hk : o.length < k) : oilcakeref11_Message.f k l o = some (msgOf l o) := by
  unfold oilcakeref11_Message.f
  have := message_l0 l hl hw o ho hov k 0 ⟨#[]⟩ (by decide) (by omega) (by omega)
  rw [show ((0 : Nat) : Int) = 0 from rfl] at this
  rw [this]; rfl
theorem send_f (l : List ByteArray) (hl : l.length ≤ 12) (hw : ∀ x ∈ l, x.size ≤ 12) (o : List Int) (ho : o.length < 4611686018427387904) (hov : ∀ z ∈ o, -9223372036854775808 ≤ z ∧ z ≤ 9223372036854775807) (k : Nat) (hk : o.length + 700 < k) : oilcakeref11_Send.f k l o = some (sendR l o) := by
  unfold oilcakeref11_Send.f
  rw [codeOk_f l hl hw k (by omega)]
  simp only [Option.bind_some]
  unfold sendR
  cases h : codeOk l
  · rfl
  · simp only [if_true]
    rw [message_f l hl hw o ho hov k (by omega)]
    simp only [Option.bind_some]
    unfold msgOf
    cases sendLoop l [] o <;> rfl

/-! ### begins, Ways -/
theorem startsB_size {s x : ByteArray} (h : startsB s x = true) : x.size ≤ s.size := by have := restOf_size s x h; omega
theorem begins_f (s x : ByteArray) : oilcakeref11_begins.f s x = some (startsB s x) := by
  unfold oilcakeref11_begins.f
  by_cases h : x.size ≤ s.size
  · rw [if_pos (by omega), if_pos (by omega), if_pos (by omega)]
    congr 1
    rw [Bool.eq_iff_iff, beq_iff_eq, Lib.toList_data, Lib.toList_data, Int.toNat_natCast]
    unfold startsB Lib.hasPrefix
    rw [List.isPrefixOf_iff_prefix, List.prefix_iff_eq_take]
    rw [ByteArray.data_extract, Array.toList_extract, List.extract_eq_take_drop, data_length]
    simp only [List.drop_zero, Nat.sub_zero]
    exact eq_comm
  · rw [if_neg (by omega)]
    congr 1
    symm
    rw [← Bool.not_eq_true]
    intro e
    exact h (startsB_size e)

/-- What is behind a place. -/
def sfx (s : ByteArray) (j : Nat) : ByteArray := s.extract j s.size
theorem sfx_data (s : ByteArray) (j : Nat) : (sfx s j).data.toList = s.data.toList.drop j := by
  unfold sfx
  rw [ByteArray.data_extract, Array.toList_extract, List.extract_eq_take_drop]
  apply List.take_of_length_le
  rw [List.length_drop, data_length]
  exact Nat.le_refl _
theorem sfx_size (s : ByteArray) (j : Nat) : (sfx s j).size = s.size - j := by
  have := congrArg List.length (sfx_data s j)
  rw [data_length, List.length_drop, data_length] at this
  exact this
theorem sfx_zero (s : ByteArray) : sfx s 0 = s := data_inj (by rw [sfx_data]; rfl)
theorem sfx_end (s : ByteArray) : sfx s s.size = ⟨#[]⟩ := data_inj (by rw [sfx_data]; exact List.drop_eq_nil_of_le (by rw [data_length]; exact Nat.le_refl _))
theorem restOf_sfx (s : ByteArray) (i : Nat) (x : ByteArray) (h : startsB (sfx s i) x = true) : restOf (sfx s i) x = sfx s (i + x.size) := by
  apply data_inj
  rw [sfx_data]
  unfold restOf
  show Lib.trimPrefix _ _ = _
  unfold Lib.trimPrefix
  rw [if_pos (show Lib.hasPrefix _ _ = true from h), sfx_data, List.drop_drop, data_length]
def wfold (ws : List ByteArray) (s : ByteArray) (m : Nat) : Int := (headsTo ws s m).foldl (fun n x => min 1000001 (n + waysV ws x.2)) 0
theorem waysV_bd (ws : List ByteArray) (s : ByteArray) : 0 ≤ waysV ws s ∧ waysV ws s ≤ 1000001 := waysF_bound ws _ s
theorem wfold_bd (ws : List ByteArray) (s : ByteArray) (m : Nat) : 0 ≤ wfold ws s m ∧ wfold ws s m ≤ 1000001 := fold_bound (fun x => waysV ws x.2) (fun x => (waysV_bd ws x.2).1) (headsTo ws s m) 0 ⟨by decide, by decide⟩
theorem wfold_succ (ws : List ByteArray) (s : ByteArray) (m : Nat) : wfold ws s (m + 1) = if startsB s (rdOf ByteArray.empty ws m) = true then min 1000001 (wfold ws s m + waysV ws (restOf s (rdOf ByteArray.empty ws m))) else wfold ws s m := by
  unfold wfold
  rw [headsTo_succ, List.foldl_append]
  unfold headAt
  split <;> rfl
def arrW (ws : List ByteArray) (s : ByteArray) (i : Nat) (v : Int) : List Int := (List.range (s.size + 1)).map fun j => if j = i then v else if i < j then waysV ws (sfx s j) else 0
def waysL (ws : List ByteArray) (s : ByteArray) : List Int := (List.range (s.size + 1)).map fun j => waysV ws (sfx s j)
theorem arrW_len (ws : List ByteArray) (s : ByteArray) (i : Nat) (v : Int) : (arrW ws s i v).length = s.size + 1 := by simp [arrW]
theorem arrW_at (ws : List ByteArray) (s : ByteArray) (i : Nat) (v : Int) (j : Nat) (h : j ≤ s.size) : Go.Proofs.YtfnibmcenjiodaaGreatDoorW.PrintWords.rd (arrW ws s i v) (j : Int) = if j = i then v else if i < j then waysV ws (sfx s j) else 0 := by
  rw [Rd_nat _ _ (by rw [arrW_len]; omega)]; simp [arrW]
theorem arrW_set (ws : List ByteArray) (s : ByteArray) (i : Nat) (v v' : Int) : (arrW ws s i v).set i v' = arrW ws s i v' := by
  apply List.ext_getElem
  · simp [arrW]
  · intro j h1 h2
    rw [List.getElem_set]
    simp only [arrW, List.getElem_map, List.getElem_range]
    by_cases h : j = i
    · subst h; simp
    · rw [if_neg (fun e => h e.symm), if_neg h, if_neg h]
theorem arrW_down (ws : List ByteArray) (s : ByteArray) (i : Nat) : arrW ws s (i + 1) (waysV ws (sfx s (i + 1))) = arrW ws s i 0 := by
  unfold arrW
  apply List.map_congr_left
  intro j _
  by_cases h1 : j = i + 1
  · rw [if_pos h1, if_neg (by omega), if_pos (by omega), h1]
  · by_cases h2 : j = i
    · rw [if_neg h1, if_pos h2, if_neg (by omega)]
    · rw [if_neg h1, if_neg h2]
      by_cases h3 : i + 1 < j
      · rw [if_pos h3, if_pos (by omega)]
      · rw [if_neg h3, if_neg (by omega)]
theorem arrW_zero (ws : List ByteArray) (s : ByteArray) : arrW ws s 0 (waysV ws (sfx s 0)) = waysL ws s := by
  unfold arrW waysL
  apply List.map_congr_left
  intro j _
  by_cases h : j = 0
  · rw [if_pos h, h]
  · rw [if_neg h, if_pos (by omega)]
theorem ways_l (ws : List ByteArray) (hl : ws.length ≤ 12) (hw : ∀ x ∈ ws, 1 ≤ x.size ∧ x.size ≤ 12) (s : ByteArray) (hs : s.size < 4611686018427) : ∀ k : Nat,
    (∀ i : Nat, i ≤ s.size → 20 * i + 2 < k → oilcakeref11_Ways.l0 k s (arrW ws s i (waysV ws (sfx s i))) ((i : Int) - 1) ws = some (waysL ws s)) ∧
    (∀ i m : Nat, i < s.size → m ≤ ws.length → 20 * i + 4 + (ws.length - m) < k → oilcakeref11_Ways.l1 k s (arrW ws s i (wfold ws (sfx s i) m)) (i : Int) ws (ws.length : Int) (m : Int) ws = some (waysL ws s))
  | 0 => ⟨fun _ _ h => by omega, fun _ _ _ _ h => by omega⟩
  | k + 1 => by
    obtain ⟨ih0, ih1⟩ := ways_l ws hl hw s hs k
    refine ⟨fun i hi hk => ?_, fun i m hi hm hk => ?_⟩
    · unfold oilcakeref11_Ways.l0
      cases i with
      | zero => rw [if_neg (by omega), arrW_zero]
      | succ i =>
        rw [if_pos (by omega), arrW_down, show ((i + 1 : Nat) : Int) - 1 = (i : Int) by omega]
        have := ih1 i 0 (by omega) (by omega) (by omega)
        rw [show ((0 : Nat) : Int) = 0 from rfl] at this
        exact this
    · unfold oilcakeref11_Ways.l1
      by_cases hlt : m < ws.length
      · have hmem : rdOf ByteArray.empty ws (m : Int) ∈ ws := by rw [rdOf_nat _ _ _ hlt]; exact List.getElem_mem hlt
        have hsz := hw _ hmem
        have hsc := wfold_succ ws (sfx s i) m
        have hnext := ih1 i (m + 1) hi (by omega) (by omega)
        have c1 : (m : Int) < (ws.length : Int) := by omega
        have c2 : (0 : Int) ≤ (m : Int) := by omega
        have c3 : (0 : Int) ≤ (i : Int) := by omega
        have c4 : (i : Int) ≤ (s.size : Int) := by omega
        rw [if_pos c1, if_pos c2, if_pos c1, if_pos c3, if_pos c4, Int.toNat_natCast, show s.extract i s.size = sfx s i from rfl, begins_f]
        simp only [Option.bind_some]
        rw [w64s m (by omega)]
        obtain ⟨x, hx⟩ : ∃ x, x = rdOf ByteArray.empty ws (m : Int) := ⟨_, rfl⟩
        rw [← hx] at hsz hsc ⊢
        clear hx hmem
        cases hst : startsB (sfx s i) x
        · rw [hst] at hsc
          simp only [Bool.false_eq_true, if_false] at hsc ⊢
          rw [← hsc]
          exact hnext
        · rw [hst] at hsc
          simp only [if_true] at hsc ⊢
          have hle := startsB_size hst
          rw [sfx_size] at hle
          rw [restOf_sfx _ _ _ hst] at hsc
          have hb1 := wfold_bd ws (sfx s i) m
          have hb2 := waysV_bd ws (sfx s (i + x.size))
          have hat1 := arrW_at ws s i (wfold ws (sfx s i) m) i (by omega)
          have hat2 := arrW_at ws s i (wfold ws (sfx s i) m) (i + x.size) (by omega)
          have hlen := arrW_len ws s i (wfold ws (sfx s i) m)
          have hset := arrW_set ws s i (wfold ws (sfx s i) m) (wfold ws (sfx s i) (m + 1))
          rw [if_pos rfl] at hat1
          rw [if_neg (by omega), if_pos (by omega)] at hat2
          rw [← hset] at hnext
          clear hset
          obtain ⟨L, hL⟩ : ∃ L, L = arrW ws s i (wfold ws (sfx s i) m) := ⟨_, rfl⟩
          rw [← hL] at hat1 hat2 hlen hnext ⊢
          clear hL
          obtain ⟨a, ha⟩ : ∃ a, a = wfold ws (sfx s i) m := ⟨_, rfl⟩
          obtain ⟨b, hb⟩ : ∃ b, b = waysV ws (sfx s (i + x.size)) := ⟨_, rfl⟩
          obtain ⟨d, hd⟩ : ∃ d, d = wfold ws (sfx s i) (m + 1) := ⟨_, rfl⟩
          rw [← ha] at hat1 hb1 hsc
          rw [← hb] at hat2 hb2 hsc
          rw [← hd] at hsc hnext
          clear ha hb hd ih0 ih1 hst
          have c5 : (i : Int) < (L.length : Int) := by rw [hlen]; omega
          have c6 : (0 : Int) ≤ ((i + x.size : Nat) : Int) := by omega
          have c7 : ((i + x.size : Nat) : Int) < (L.length : Int) := by rw [hlen]; omega
          have hix : wrap64 ((i : Int) + (x.size : Int)) = ((i + x.size : Nat) : Int) := by rw [w64 _ (by omega)]; omega
          have hmn : mn 1000001 (wrap64 (a + b)) = d := by
            rw [hsc, w64 _ (by omega)]
            unfold mn
            split <;> omega
          rw [hix, if_pos c5, if_pos c6, if_pos c7, hat1, hat2, hmn]
          exact hnext
      · obtain rfl : m = ws.length := by omega
        rw [if_neg (by omega)]
        have hfin : wfold ws (sfx s i) ws.length = waysV ws (sfx s i) := by
          rw [waysV_step ws (fun x hx => (hw x hx).1) _ (by rw [sfx_size]; omega)]; rfl
        rw [hfin, w64 _ (by omega)]
        exact ih0 i (by omega) (by omega)
theorem ways_f (ws : List ByteArray) (hl : ws.length ≤ 12) (hw : ∀ x ∈ ws, 1 ≤ x.size ∧ x.size ≤ 12) (s : ByteArray) (hs : s.size < 4611686018427) (k : Nat) (hk : 20 * s.size + 2 < k) : oilcakeref11_Ways.f k ws s = some (waysL ws s) := by
  unfold oilcakeref11_Ways.f
  rw [w64s _ (by omega), if_pos (by omega), Int.toNat_natCast, if_pos (by omega)]
  simp only [Option.bind_some]
  rw [if_pos (by omega), if_pos (by rw [List.length_replicate]; omega), Int.toNat_natCast, w64 _ (by omega)]
  have h0 : (List.replicate (s.size + 1) (0 : Int)).set s.size 1 = arrW ws s s.size (waysV ws (sfx s s.size)) := by
    apply List.ext_getElem
    · simp [arrW]
    · intro j h1 h2
      simp at h1
      rw [List.getElem_set]
      simp only [arrW, List.getElem_map, List.getElem_range, List.getElem_replicate]
      by_cases h : s.size = j
      · rw [if_pos h, if_pos h.symm, sfx_end, waysV_empty]
      · rw [if_neg h, if_neg (fun e => h e.symm), if_neg (by omega)]
  rw [h0]
  exact (ways_l ws hl hw s hs k).1 s.size (Nat.le_refl _) hk
theorem waysL_zero (ws : List ByteArray) (s : ByteArray) : Go.Proofs.YtfnibmcenjiodaaGreatDoorW.PrintWords.rd (waysL ws s) 0 = waysV ws s := by
  have := Rd_nat (waysL ws s) 0 (by simp [waysL])
  rw [show ((0 : Nat) : Int) = 0 from rfl] at this
  rw [this]; simp [waysL, sfx_zero]
theorem waysL_at (ws : List ByteArray) (s : ByteArray) (j : Nat) (h : j ≤ s.size) : Go.Proofs.YtfnibmcenjiodaaGreatDoorW.PrintWords.rd (waysL ws s) (j : Int) = waysV ws (sfx s j) := by
  rw [Rd_nat (waysL ws s) j (by simp [waysL]; omega)]; simp [waysL]
theorem waysL_len (ws : List ByteArray) (s : ByteArray) : (waysL ws s).length = s.size + 1 := by simp [waysL]
end Go.Proofs.YtfnibmcenjiodaaGreatDoor.N
