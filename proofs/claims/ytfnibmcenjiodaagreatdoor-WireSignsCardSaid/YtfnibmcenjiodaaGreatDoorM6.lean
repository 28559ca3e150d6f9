/- Walks of the strings.Builder's copyCheck and WriteString, and of wire.Send. No statement of the seat is proved here. -/
import Derived.Test.YtfnibmcenjiodaaGreatDoorM5
namespace Go.Proofs.YtfnibmcenjiodaaGreatDoor.M
open Go.Sort Go.Shelf Go.RowKit Go.Proofs.YtfnibmcenjiodaaGreatDoorW.PrintWords Go.Proofs.YtfnibmcenjiodaaGreatDoorW.PrintLast Go.Proofs.YtfnibmcenjiodaaGreatDoorW.PrintMore
attribute [local go_sem] Oper.semAt_some

theorem sizeBuilder : (Tryz.prog.info? 117).map (·.size) = some 2 := by kernel_rfl
theorem info5 : (Tryz.prog.info? 5).map (fun i => (i.zero, i.size, i.bytes)) = some (some (.int .u8 0), 1, 1) := by kernel_rfl

set_option maxHeartbeats 1000000 in
set_option maxRecDepth 100000 in
theorem copyCheck_fresh (b : Nat) (w : World) (h0 : w.cell? ⟨b, 0, none⟩ = some (.pointer none)) (hsh : w.shape? b = some (117, 2)) (hfz : w.frozen? ⟨b, 0, none⟩ = false) :
    Calls Tryz.prog 114 #[.pointer (some ⟨b, 0, none⟩)] w fun e w' => e = .returned (.tuple #[]) ∧ w' = w.setCell ⟨b, 0, none⟩ (.pointer (some ⟨b, 0, none⟩)) := by
  obtain ⟨j, hj, hjs⟩ := Option.map_eq_some_iff.1 sizeBuilder
  go_enter Tryz.func114, Tryz.ntmps114
  go_wp2
  rw [Lib.run_to_unsafe w ⟨b, 0, none⟩ Tryz.underlying115 Tryz.underlying262 hj (by rw [hjs]; decide) hsh (Nat.zero_lt_succ 1)]
  simp only [Result.andThen]
  rw [Oper.upon_value]
  go_wp2
  rw [run_callFunc_extern Tryz.func167 (by kernel_rfl) (by kernel_rfl) (by kernel_rfl) (e := Extern.AbiNoEscape.same) (by kernel_rfl)]
  rw [Lib.run_noEscape]
  simp only [Result.andThen]
  rw [Oper.upon_value]
  go_wp2
  rw [Lib.run_from_unsafe w ⟨b, 0, none⟩ Tryz.underlying262 Tryz.underlying115 hj hsh (by kernel_rfl)]
  simp only [Result.andThen]
  rw [Oper.upon_value]
  go_wp2
  go_end0
  exact ⟨rfl, rfl⟩
set_option maxHeartbeats 1000000 in
set_option maxRecDepth 100000 in
theorem copyCheck_used (b : Nat) (w : World) (h0 : w.cell? ⟨b, 0, none⟩ = some (.pointer (some ⟨b, 0, none⟩))) :
    Calls Tryz.prog 114 #[.pointer (some ⟨b, 0, none⟩)] w fun e w' => e = .returned (.tuple #[]) ∧ w' = w := by
  obtain ⟨j, hj, hjs⟩ := Option.map_eq_some_iff.1 sizeBuilder
  have hne := fun w => Lib.run_neq_ptr_same (w := w) (P := Tryz.prog) (tp := 115) ⟨b, 0, none⟩ Tryz.underlying115 hj
  go_enter Tryz.func114, Tryz.ntmps114
  go_wp2
  go_end0
  exact ⟨rfl, rfl⟩
theorem copyCheck_calls (B b : Nat) (bs : List Value) (w : World) (h : Lib.IsBuilderF 117 5 B b bs w) :
    Calls Tryz.prog 114 #[.pointer (some ⟨b, 0, none⟩)] w fun e w' => e = .returned (.tuple #[]) ∧ (Lib.BuilderAtF 117 5 B b (.pointer (some ⟨b, 0, none⟩)) bs w' ∧ Below B w w') := by
  rcases h with h | h
  · refine (copyCheck_fresh b w h.cell0 h.shape h.frozen0).mono ?_
    rintro e w' ⟨rfl, rfl⟩
    exact ⟨rfl, h.used _, (Below.refl B w).setCell (p := ⟨b, 0, none⟩) h.1 _⟩
  · refine (copyCheck_used b w h.cell0).mono ?_
    rintro e w' ⟨rfl, rfl⟩
    exact ⟨rfl, h, Below.refl B _⟩

set_option maxHeartbeats 2000000 in
set_option maxRecDepth 100000 in
theorem writeString_calls (B b : Nat) (bs : List Value) (s : ByteArray) (w : World) (h : Lib.IsBuilderF 117 5 B b bs w) (hlen : bs.length + s.size ≤ 140737488355328) (hBw : B ≤ w.heap.size) :
    Calls Tryz.prog 66 #[.pointer (some ⟨b, 0, none⟩), .string s] w fun e w' => e = .returned (.tuple #[.int .i64 s.size, .nilIface]) ∧ (Lib.IsBuilderF 117 5 B b (bs ++ Lib.strCells s) w' ∧ Below B w w') := by
  obtain ⟨i0, hi, hz0, hz1, hz2⟩ := info_parts info5
  go_enter Tryz.func66, Tryz.ntmps66
  go_wp2_with (go_at_call 114; refine (copyCheck_calls B b bs _ h).mono ?_)
  rintro e w1 ⟨rfl, h1, hb1⟩
  obtain ⟨hB, v, hbk, hown, hne⟩ := h1
  have c0 : w1.cell? ⟨b, 0, none⟩ = some (.pointer (some ⟨b, 0, none⟩)) := by rw [Lib.cell_of_heap hbk]; rfl
  have c1 : w1.cell? ⟨b, 1, none⟩ = some v := by rw [Lib.cell_of_heap hbk]; rfl
  go_wp2_with (at_builtin; refine Lib.wpList_append_own_stringF _ rfl _ _ 48 9 rfl B 5 i0 Tryz.underlying48 Tryz.underlying9 hi hz0 hz1 hz2 _ _ _ rfl hown s rfl ?c3 ?c4 ?c5 ?_)
  case c3 => unfold maxLen; omega
  case c4 => omega
  case c5 => have := hb1.size; omega
  intro v' w2 hown' hgrow _
  have hlt : b < w1.heap.size := blk_lt hbk
  have hb2 : w2.heap[b]? = some (.cells #[.pointer (some ⟨b, 0, none⟩), v] 117 (0, 0)) := by
    rw [hgrow.block b hlt (fun e => hne e.symm)]
    exact hbk
  have d0 : w2.cell? ⟨b, 0, none⟩ = some (.pointer (some ⟨b, 0, none⟩)) := by rw [Lib.cell_of_heap hb2]; rfl
  have d1 : w2.cell? ⟨b, 1, none⟩ = some v := by rw [Lib.cell_of_heap hb2]; rfl
  have f1 : w2.frozen? ⟨b, 1, none⟩ = false := Lib.frozen_of_heap hb2 1
  obtain ⟨ao, n', cap, rfl⟩ : ∃ ao n' cap, v' = .slice ao n' cap := by
    rcases hown'.2 with ⟨hv, _⟩ | ⟨g, cap, cur, fz, hv, _⟩
    · exact ⟨_, _, _, hv⟩
    · exact ⟨_, _, _, hv⟩
  go_wp2
  go_ret2
  refine ⟨rfl, .inr ?_, ?_⟩
  · exact Lib.BuilderAtF.put (T := 117) (e := 5) hB hb2 (bs' := bs ++ Lib.strCells s) (by simpa [Lib.strCells_length] using hown') (by decide)
  · exact (hb1.grown hgrow (by have := hb1.size; omega) (fun k hk => (hown.lt k hk).1)).setCell (p := ⟨b, 1, none⟩) hB _

theorem rd_nat (l : List Int) (k : Nat) (h : k < l.length) : YtfnibmcenjiodaaGreatDoorW.PrintWords.rd l k = l[k] := by simp [YtfnibmcenjiodaaGreatDoorW.PrintWords.rd, h]
theorem builder_below {T e B b : Nat} {bs : List Value} {w w' : World} (h : Lib.IsBuilderF T e B b bs w) (hb : Below w.heap.size w w') : Lib.IsBuilderF T e B b bs w' := by
  have key : ∀ p, Lib.BuilderAtF T e B b p bs w → Lib.BuilderAtF T e B b p bs w' := by
    rintro p ⟨hB, v, hbk, hown, hne⟩
    exact ⟨hB, v, blk_below hbk hb, hown.kept (grown_of_below hb none) (by cases v.ownBlock <;> simp), hne⟩
  exact h.elim (fun x => .inl (key _ x)) (fun x => .inr (key _ x))
theorem inB_one {lo hi n : Int} (h : inB lo hi [n] = true) : lo ≤ n ∧ n ≤ hi := by simpa [inB] using h
/-- The bytes of the word for an order. -/
def wordAt (l : List ByteArray) (n : Int) : ByteArray := rdOf ByteArray.empty l (n - 1)
def sendLoop (l : List ByteArray) : List UInt8 → List Int → Option (List UInt8)
  | acc, [] => if 250 < acc.length then none else some acc
  | acc, n :: r => if inB 1 l.length [n] && !decide (250 < acc.length) then sendLoop l (acc ++ (wordAt l n).data.toList) r else none
def sendR (l : List ByteArray) (orders : List Int) : ByteArray × Int :=
  if codeOk l then (match sendLoop l [] orders with | some s => (⟨s.toArray⟩, 0) | none => (⟨#[]⟩, 111)) else (⟨#[]⟩, 110)
theorem codeOk_words {l : List ByteArray} (h : codeOk l = true) : ∀ x ∈ l, 1 ≤ x.size ∧ x.size ≤ 6 := by
  simp only [codeOk, Bool.and_eq_true, List.all_eq_true] at h
  intro x hx
  have := h.1.2 x hx
  simp [wordOk, inB] at this
  omega
theorem codeOk_len {l : List ByteArray} (h : codeOk l = true) : 1 ≤ l.length ∧ l.length ≤ 7 := by
  simp [codeOk, inB] at h
  omega
theorem byteCells_snoc (acc : List UInt8) (s : ByteArray) : Lib.byteCells acc ++ Lib.strCells s = Lib.byteCells (acc ++ s.data.toList) := by
  simp [Lib.byteCells, Lib.strCells]

set_option maxHeartbeats 2000000 in
set_option maxRecDepth 100000 in
theorem wire_Send (A : Option Addr) (c : Nat) (l : List ByteArray) (A1 : Option Addr) (c1 : Nat) (orders : List Int) (w : World) (hr : Kd.C Kd.string w A l.length l) (hsz : ∀ x ∈ l, x.size ≤ 9223372036854775807) (hr1 : Kd.C (Kd.int .i64) w A1 orders.length orders) :
    Calls Tryz.prog 16 #[.agg #[.slice A l.length c], .slice A1 orders.length c1] w fun e w' => e = .returned (.tuple #[.string (sendR l orders).1, .int .i64 (sendR l orders).2]) ∧ Below w.heap.size w w' := by
  have hmax := Kd.C_max hr1
  go_enter Tryz.func16, Tryz.ntmps16
  go_wp2_with fail
  refine (wire_Check A c l _ (Kd.C_alloc hr _) hsz).mono ?_
  rintro e w1 ⟨rfl, hb⟩
  have HX := Lib.hid (blk_below (blk_new w (.cells #[.slice A l.length c] 24)) hb)
  have HB := Lib.hid (below_step (below1 w (.cells #[.slice A l.length c] 24)) hb)
  have HR := Lib.hid (Kd.C_below hr HB.out)
  have HR1 := Lib.hid (Kd.C_below hr1 HB.out)
  clear hb hr hr1
  cases hok : codeOk l
  · have hE : checkE l = 110 := by simp [checkE, hok]
    rw [hE]
    clear hE
    go_wp2
    go_ret2
    exact ⟨by simp [sendR, hok], HB.out⟩
  have hE : checkE l = 0 := by simp [checkE, hok]
  rw [hE]
  clear hE
  have hz := blk_lt HX.out
  have hw := Lib.hid (codeOk_words hok)
  have hlen := codeOk_len hok
  have Hok := Lib.hid hok
  clear hok
  go_wp2
  go_loopw [17] (fun i wr => ∃ (k : Nat) (acc : List UInt8), k ≤ orders.length ∧ i = .int .i64 k ∧ Hid (sendLoop l [] orders = sendLoop l acc (orders.drop k)) ∧ acc.length ≤ 256 ∧ Hid (Lib.IsBuilderF 117 5 w1.heap.size w1.heap.size (Lib.byteCells acc) wr) ∧ Hid (Below w1.heap.size w1 wr)) (fun i _ => orders.length - (intOf i).toNat)
  case atStart => exact ⟨0, [], by omega, rfl, Lib.hid rfl, by simp, Lib.hid (.of (Lib.fresh_isBuilder 117 5 w1)), Lib.hid (below1 _ _)⟩
  case round =>
    obtain ⟨k, acc, hk, rfl, HL, hacc, HI, HW⟩ := hrel
    have hzr : w1.heap.size ≤ wr.heap.size := HW.out.size
    have hcx : wr.cell? ⟨w.heap.size, 0, none⟩ = some (.slice A l.length c) := box_cell (blk_below HX.out HW.out)
    have HRr := Lib.hid (Kd.C_below HR.out HW.out)
    by_cases hlt : k < orders.length
    · obtain ⟨ad, rfl, hcell⟩ := Kd.at_int (Kd.C_below HR1.out HW.out) k (by omega) (by omega)
      rw [show ((k : Int).toNat) = k from by omega] at hcell
      obtain ⟨n, hn⟩ : ∃ n, n = YtfnibmcenjiodaaGreatDoorW.PrintWords.rd orders k := ⟨_, rfl⟩
      rw [← hn] at hcell
      have hdr : orders.drop k = n :: orders.drop (k + 1) := by
        rw [List.drop_eq_getElem_cons hlt, hn, rd_nat _ _ hlt]
      have HS := HL.out
      rw [hdr, sendLoop] at HS
      have HS' := Lib.hid HS
      clear HS hn hdr HL
      cases hin : inB 1 l.length [n]
      · have HS2 := HS'.out
        rw [hin] at HS2
        simp only [Bool.false_and, Bool.false_eq_true, if_false] at HS2
        have HF := Lib.hid HS2
        clear HS2 HS'
        go_wp2_with fail
        refine (wire_in1 1 _ n _ _ _ (C_one_int (blk_new _ _))).mono ?_
        rintro e w2 ⟨rfl, hb2⟩
        rw [hin]
        clear hin
        go_wp2
        go_ret2
        exact ⟨by simp [sendR, Hok.out, HF.out], below_step HB.out ((HW.out.trans ((below1 _ _).mono HW.out.size)).trans (hb2.mono (by have := HW.out.size; simp; omega)))⟩
      · have hn := inB_one hin
        have HS2 := HS'.out
        rw [hin, Bool.true_and] at HS2
        have HS := Lib.hid HS2
        clear HS2 HS'
        go_wp2_with fail
        refine (wire_in1 1 _ n _ _ _ (C_one_int (blk_new _ _))).mono ?_
        rintro e w2 ⟨rfl, hb2⟩
        rw [hin]
        clear hin
        have HB2 := Lib.hid (below_step (below1 wr _) hb2)
        have HI2 := Lib.hid (builder_below HI.out HB2.out)
        have hzr2 : wr.heap.size ≤ w2.heap.size := HB2.out.size
        have hcx2 : w2.cell? ⟨w.heap.size, 0, none⟩ = some (.slice A l.length c) := pw_cell_below HB2.out hcx
        have HRr2 := Lib.hid (Kd.C_below HRr.out HB2.out)
        have HW2 := Lib.hid (HW.out.trans (HB2.out.mono HW.out.size))
        clear hb2 hcx HI HRr hcell
        go_wp2_with fail
        refine (Tryz.Builder_Len_f _ _ _ _ HI2.out).mono ?_
        rintro e w3 ⟨rfl, rfl⟩
        rw [Lib.byteCells_length]
        by_cases hbig : 250 < acc.length
        · have HS2 := HS.out
          rw [if_neg (by simpa using hbig)] at HS2
          have HF := Lib.hid HS2
          clear HS2 HS
          go_wp2
          go_ret2
          exact ⟨by simp [sendR, Hok.out, HF.out], below_step HB.out HW2.out⟩
        · have HS2 := HS.out
          rw [if_pos (by simpa using hbig)] at HS2
          have HF := Lib.hid HS2
          clear HS2 HS
          obtain ⟨ad2, rfl, hword⟩ := Kd.at_string HRr2.out (n - 1) (by omega) (by omega)
          rw [show (n - 1).toNat = n.toNat - 1 from by omega] at hword
          have hws : Hid ((rdOf ByteArray.empty l (n - 1)).size ≤ 6) := Lib.hid (by
            have : rdOf ByteArray.empty l (n - 1) ∈ l := by
              unfold rdOf
              rw [List.getD_eq_getElem?_getD, List.getElem?_eq_getElem (by omega)]
              exact List.getElem_mem _
            exact (hw.out _ this).2)
          obtain ⟨wd, hwd⟩ : ∃ wd, wd = rdOf ByteArray.empty l (n - 1) := ⟨_, rfl⟩
          have HWD := Lib.hid hwd
          rw [← hwd] at hword hws
          clear hwd
          go_wp2_with fail
          refine (writeString_calls _ _ _ wd _ HI2.out (by rw [Lib.byteCells_length]; have := hws.out; omega) HW2.out.size).mono ?_
          rintro e w4 ⟨rfl, hI4, hb4⟩
          rw [byteCells_snoc] at hI4
          have HI4 := Lib.hid hI4
          have HW4 := Lib.hid (HW2.out.trans hb4)
          clear hI4 hb4
          go_wp2
          go_roundw
          case rel => exact ⟨k + 1, acc ++ wd.data.toList, by omega, by go_num, Lib.hid (by rw [HF.out, wordAt, ← HWD.out]), by have := hws.out; simp; omega, HI4, HW4⟩
          case measure => simp [intOf]; omega
    · obtain rfl : k = orders.length := by omega
      have HS := HL.out
      rw [List.drop_length, sendLoop] at HS
      by_cases hbig : 250 < acc.length
      · rw [if_pos hbig] at HS
        have HF := Lib.hid HS
        clear HS HL
        go_wp2_with (go_at_call 65; refine (Tryz.Builder_Len_f _ _ _ _ HI.out).mono ?_; rintro e w3 ⟨rfl, rfl⟩; rw [Lib.byteCells_length])
        go_ret2
        exact ⟨by simp [sendR, Hok.out, HF.out], below_step HB.out HW.out⟩
      · rw [if_neg hbig] at HS
        have HF := Lib.hid HS
        clear HS HL
        go_wp2_with (go_at_call 65; refine (Tryz.Builder_Len_f _ _ _ _ HI.out).mono ?_; rintro e w3 ⟨rfl, rfl⟩; rw [Lib.byteCells_length])
        refine (Tryz.Builder_String_any_f _ _ acc _ HI.out HW.out.size).mono ?_
        rintro e w4 ⟨rfl, _, hb4⟩
        go_wp2
        go_ret2
        exact ⟨by simp [sendR, Hok.out, HF.out], below_step HB.out (HW.out.trans hb4)⟩
end Go.Proofs.YtfnibmcenjiodaaGreatDoor.M
