/- Contracts and plain laws that the claim's card stands on (texts L4 of the work, put together). No statement of the seat is proved here. -/
import Derived.Test.YtfnibmcenjiodaaGreatDoorQ20
import Derived.Test.YtfnibmcenjiodaaGreatDoorQ22
set_option linter.unusedVariables false
set_option linter.unusedSimpArgs false
namespace Go.Proofs.YtfnibmcenjiodaaGreatDoor.L
open Go.Sort Go.Shelf Go.RowKit Go.Proofs.YtfnibmcenjiodaaGreatDoorW.PrintWords Go.Proofs.YtfnibmcenjiodaaGreatDoorW.PrintLast Go.Proofs.YtfnibmcenjiodaaGreatDoorW.PrintMore
open Go.Proofs.YtfnibmcenjiodaaGreatDoor.M Go.Proofs.YtfnibmcenjiodaaGreatDoor.R Go.Proofs.YtfnibmcenjiodaaGreatDoor.N
attribute [local go_sem] Oper.semAt_some
theorem pair_signs {l : List ByteArray} (hk : codeOk l = true) {t : Tx} (h : Pair l t) : isSigns t.1 = true ∧ isSigns t.2 = true := by
  obtain ⟨o1, h1⟩ := (ways_pos (codeOk_pos hk)).1 h.2.1
  obtain ⟨o2, h2⟩ := (ways_pos (codeOk_pos hk)).1 h.2.2.1
  exact ⟨reads_signs hk h1, reads_signs hk h2⟩
set_option maxRecDepth 100000 in
set_option maxHeartbeats 8000000 in
theorem wireSlip_calls (A : Option Addr) (c : Nat) (l : List ByteArray) (A1 : Option Addr) (c1 : Nat) (bs : List Int) (place : Int) (w : World) (hr : Kd.C Kd.string w A l.length l) (hc : l.length ≤ c) (hro : Kd.C (Kd.int .u8) w A1 bs.length bs) (hco : bs.length ≤ c1) (hb : ∀ b ∈ bs, 0 ≤ b ∧ b ≤ 255) (hpl : 0 ≤ place ∧ place ≤ 65535) :
    Calls Tryz.prog 7 #[.agg #[.slice A l.length c], .slice A1 bs.length c1, .int .u16 place] w fun e w' => e = .returned (.bool true) ∧ Below w.heap.size w w' := by
  have hbl := Kd.C_max hro
  have CL := Lib.hid (Kd.C_alloc (o := .cells #[.slice A l.length c] 24) hr)
  have CO := Lib.hid (Kd.C_alloc (o := .cells #[.slice A l.length c] 24) hro)
  have HB := Lib.hid (below1 w (.cells #[.slice A l.length c] 24))
  have BX := Lib.hid (blk_new w (.cells #[.slice A l.length c] 24))
  have Hbs := Lib.hid hb
  clear hr hro hb
  have ck := box_cell BX.out
  go_enter Tryz.func7, Tryz.ntmps7
  go_wp2_with fail
  refine (alive_calls _).mono ?_
  rintro e w1 ⟨rfl, hb1⟩
  have HB1 := Lib.hid (below_step (HB.out) hb1)
  have CL1 := Lib.hid (Kd.C_below (CL.out) hb1)
  clear CL
  have CO1 := Lib.hid (Kd.C_below (CO.out) hb1)
  clear CO
  have BX1 := Lib.hid (blk_below (BX.out) hb1)
  clear BX
  clear ck
  have ck := box_cell BX1.out
  clear HB hb1
  go_wp2_with fail
  refine (oilcakelaw11_ready.calls 1000 A c l (isReady l) _ CL1.out hc (ready_f l)).mono ?_
  rintro e w2 ⟨rfl, hb2⟩
  have HB2 := Lib.hid (below_step (HB1.out) hb2)
  have CL2 := Lib.hid (Kd.C_below (CL1.out) hb2)
  clear CL1
  have CO2 := Lib.hid (Kd.C_below (CO1.out) hb2)
  clear CO1
  have BX2 := Lib.hid (blk_below (BX1.out) hb2)
  clear BX1
  clear ck
  have ck := box_cell BX2.out
  clear HB1 hb2
  cases hrd : isReady l
  · go_wp2
    go_ret
    exact ⟨rfl, HB2.out⟩
  have hcode : codeOk l = true := by simp only [isReady, Bool.and_eq_true] at hrd; exact hrd.2
  have Hcode := Lib.hid hcode
  have hsz := Lib.hid (fun x hx => (show x.size ≤ 9223372036854775807 by have := codeOk_words hcode x hx; omega) : ∀ x ∈ l, x.size ≤ 9223372036854775807)
  obtain ⟨o, ho1, ho2, ho3, ho4⟩ := orders_f l hcode bs Hbs.out hbl 250 (by omega)
  have Ho1 := Lib.hid ho1
  have Ho2 := Lib.hid ho2
  have ho5 : (spell l o).length ≤ 250 := by omega
  have Hm := Lib.hid (msgOf_ok ho2 (by omega))
  have hgr := great_no' (show greatB l = false by simp only [isReady, Bool.and_eq_true] at hrd; simpa using hrd.1)
  have Hmf := Lib.hid (message_f l hgr.1 hgr.2 o (by omega) (fun z hz => by have := ho2 z hz; omega) 1000 (by omega))
  have Hgr := Lib.hid hgr
  have Hmr := Lib.hid (msg_reads ho2)
  have hms : (msg l o).size ≤ 250 := by rw [msg_size]; exact ho5
  have Hsg := Lib.hid (reads_signs hcode (msg_reads ho2))
  have Hmp := Lib.hid ((ways_pos (codeOk_pos hcode)).2 ⟨o, msg_reads ho2⟩)
  obtain ⟨s, ht⟩ : ∃ s, s = msg l o := ⟨_, rfl⟩
  rw [← ht] at Hm Hmr hms Hsg Hmp
  have Hmf2 : Hid (oilcakeref11_Message.f 1000 l o = some (s, true)) := Lib.hid (by rw [Hmf.out, Hm.out])
  clear ho1 ho2 ho3 ho4 ho5 hgr Hmf Hm ht hcode hrd
  rcases slip_cases Hcode.out with ⟨t, ht, hd⟩ | ⟨hn, hd⟩
  · obtain ⟨sent, got⟩ := t
    have Ht := Lib.hid ht
    have Hd := Lib.hid hd
    clear ht hd
    have hseq : sent.size = got.size := Ht.out.1.1
    have Hss := Lib.hid (pair_signs Hcode.out Ht.out.1).1
    have Hgs := Lib.hid (pair_signs Hcode.out Ht.out.1).2
    have Hdf := Lib.hid Ht.out.1.2.2.2
    dsimp only at hseq Hss Hgs Hdf
    go_wp2_with fail
    refine (wire_Slip A c l _ CL2.out hsz.out).mono ?_
    rintro e w3 ⟨⟨ta, tb⟩, n3, rfl, hU3, hb3⟩
    have hu3 := slip_eq hU3
    rw [Hd.out] at hu3
    obtain ⟨hu0, hu1⟩ := Prod.mk.inj hu3
    obtain ⟨hv1, hv2⟩ := Prod.mk.inj hu1
    have hsb := slip_bound hU3
    clear hu3 hU3 hu1
    dsimp only at hu0 hv1 hsb
    subst hu0 hv1 hv2
    have HB3 := Lib.hid (below_step (HB2.out) hb3)
    have CL3 := Lib.hid (Kd.C_below (CL2.out) hb3)
    clear CL2
    have CO3 := Lib.hid (Kd.C_below (CO2.out) hb3)
    clear CO2
    have BX3 := Lib.hid (blk_below (BX2.out) hb3)
    clear BX2
    clear ck
    have ck := box_cell BX3.out
    clear HB2 hb3
    go_upto_region 9 with fail
    go_wp2_with fail
    obtain ⟨W0, hW0⟩ : ∃ W0, W0 = w3.iter sent 0 := ⟨_, rfl⟩
    have hi0 : W0.heap[w3.heap.size]? = some (.stringIter sent 0) := by rw [hW0]; exact World.iter_heap _ _ _
    have HB0 : Hid (Below w3.heap.size w3 W0) := Lib.hid (by rw [hW0]; exact below_iter (Below.refl _ _) (Nat.le_refl _) _ _)
    rw [← hW0]
    clear hW0
    go_loopg [11] (sent.size + 2) (fun g v wr => ∃ pos : Nat, pos ≤ sent.size ∧ sent.size + 1 - pos ≤ g ∧ v = .int .i64 ((diffs (sent.data.toList.take pos) (got.data.toList.take pos) : Nat) : Int) ∧ wr.heap[w3.heap.size]? = some (.stringIter sent pos) ∧ Hid (Below w3.heap.size w3 wr))
    case atStart => exact ⟨0, Nat.zero_le _, by omega, rfl, hi0, HB0⟩
    case round =>
      clear hi0 HB0
      obtain ⟨wz, rfl⟩ : ∃ wz, wz = wr := ⟨_, rfl⟩
      obtain ⟨pos, hp, hg, rfl, hi, HBr⟩ := hrel
      by_cases hpl : pos < sent.size
      · have hpg : pos < got.size := by omega
        have hst := diffs_step sent got pos hpl hpg
        have hle := diffs_le (sent.data.toList.take pos) (got.data.toList.take pos)
        rw [List.length_take] at hle
        have hin := Lib.iterAt_heap wz w3.heap.size sent pos (pos + 1) hi
        have HBn : Hid (Below w3.heap.size w3 (wz.iterAt w3.heap.size sent (pos + 1))) := Lib.hid (Lib.below_iterAt HBr.out (Nat.le_refl _) _ _)
        have hpi : (pos : Int) < (sent.size : Int) := by omega
        have hpj : (pos : Int) < (got.size : Int) := by omega
        obtain ⟨dn, hdn⟩ : ∃ dn, dn = diffs (sent.data.toList.take pos) (got.data.toList.take pos) := ⟨_, rfl⟩
        rw [← hdn] at hle hst ⊢
        have Hst := Lib.hid hst
        clear hst hdn
        rcases signs_byte Hss.out pos hpl with hx | hx <;> rcases signs_byte Hgs.out pos hpg with hy | hy
        · have n1 := next_one wz w3.heap.size sent pos 45 hi hpl (by rw [hx]; decide) (by rw [hx]; decide) (pos + 1) rfl
          have hd : diffs (sent.data.toList.take (pos + 1)) (got.data.toList.take (pos + 1)) = dn + 0 := by rw [Hst.out, hx, hy]; rfl
          have Hd := Lib.hid hd
          clear hd
          go_wp2_with fail
          go_quiet (fail)
          go_wp2_with fail
          go_roundg (sent.size + 1 - (pos + 1))
          case rel => exact ⟨pos + 1, by omega, Nat.le_refl _, by rw [Hd.out, Nat.add_zero], hin, Lib.hid (HBn.out.trans ⟨rfl, rfl, rfl, Nat.le_refl _, fun _ _ => rfl⟩)⟩
          case measure => omega
        · have n1 := next_one wz w3.heap.size sent pos 45 hi hpl (by rw [hx]; decide) (by rw [hx]; decide) (pos + 1) rfl
          have hd : diffs (sent.data.toList.take (pos + 1)) (got.data.toList.take (pos + 1)) = dn + 1 := by rw [Hst.out, hx, hy]; rfl
          have Hd := Lib.hid hd
          clear hd
          go_wp2_with fail
          go_quiet (fail)
          go_wp2_with fail
          go_roundg (sent.size + 1 - (pos + 1))
          case rel => exact ⟨pos + 1, by omega, Nat.le_refl _, by rw [Hd.out]; go_num, hin, Lib.hid (HBn.out.trans ⟨rfl, rfl, rfl, Nat.le_refl _, fun _ _ => rfl⟩)⟩
          case measure => omega
        · have n1 := next_one wz w3.heap.size sent pos 46 hi hpl (by rw [hx]; decide) (by rw [hx]; decide) (pos + 1) rfl
          have hd : diffs (sent.data.toList.take (pos + 1)) (got.data.toList.take (pos + 1)) = dn + 1 := by rw [Hst.out, hx, hy]; rfl
          have Hd := Lib.hid hd
          clear hd
          go_wp2_with fail
          go_quiet (fail)
          go_wp2_with fail
          go_roundg (sent.size + 1 - (pos + 1))
          case rel => exact ⟨pos + 1, by omega, Nat.le_refl _, by rw [Hd.out]; go_num, hin, Lib.hid (HBn.out.trans ⟨rfl, rfl, rfl, Nat.le_refl _, fun _ _ => rfl⟩)⟩
          case measure => omega
        · have n1 := next_one wz w3.heap.size sent pos 46 hi hpl (by rw [hx]; decide) (by rw [hx]; decide) (pos + 1) rfl
          have hd : diffs (sent.data.toList.take (pos + 1)) (got.data.toList.take (pos + 1)) = dn + 0 := by rw [Hst.out, hx, hy]; rfl
          have Hd := Lib.hid hd
          clear hd
          go_wp2_with fail
          go_quiet (fail)
          go_wp2_with fail
          go_roundg (sent.size + 1 - (pos + 1))
          case rel => exact ⟨pos + 1, by omega, Nat.le_refl _, by rw [Hd.out, Nat.add_zero], hin, Lib.hid (HBn.out.trans ⟨rfl, rfl, rfl, Nat.le_refl _, fun _ _ => rfl⟩)⟩
          case measure => omega
      · obtain rfl : pos = sent.size := by omega
        rw [diffs_full _ _ hseq, Hdf.out]
        have n3 := fun ty => Lib.run_next_end_at (P := Tryz.prog) wz w3.heap.size sent sent.size ty hi (by omega)
        clear hpl hg hp
        obtain ⟨w4, hwm⟩ : ∃ x, x = wz := ⟨_, rfl⟩
        rw [← hwm] at n3 HBr ⊢
        have hb4 := HBr.out
        clear hwm HBr hi
        have HB4 := Lib.hid (below_step (HB3.out) hb4)
        have CL4 := Lib.hid (Kd.C_below (CL3.out) hb4)
        clear CL3
        have CO4 := Lib.hid (Kd.C_below (CO3.out) hb4)
        clear CO3
        have BX4 := Lib.hid (blk_below (BX3.out) hb4)
        clear BX3
        clear ck
        have ck := box_cell BX4.out
        clear HB3 hb4
        have Hwsent := Lib.hid (ways_f l Hgr.out.1 (codeOk_words' Hcode.out) sent (by omega) 30000000 (by omega))
        have Hwgot := Lib.hid (ways_f l Hgr.out.1 (codeOk_words' Hcode.out) got (by omega) 30000000 (by omega))
        go_wp2_with fail
        refine (oilcakeref11_Ways.calls 30000000 A c l sent (waysL l sent) _ CL4.out hc Hwsent.out).mono ?_
        rintro e w5 ⟨v5, rfl, hR5, hb5⟩
        obtain ⟨Aw, cw, rfl, hcw, hCw⟩ := Kd.R_reads hR5
        have hwl := waysL_len l sent
        obtain ⟨ad, rfl, hcell⟩ := Kd.at_int hCw 0 (by omega) (by omega)
        have ha0 : ad.add (0 : Int).toNat = ad := rfl
        rw [ha0, waysL_zero] at hcell
        clear hR5 hCw ha0
        have HB5 := Lib.hid (below_step (HB4.out) hb5)
        have CL5 := Lib.hid (Kd.C_below (CL4.out) hb5)
        clear CL4
        have CO5 := Lib.hid (Kd.C_below (CO4.out) hb5)
        clear CO4
        have BX5 := Lib.hid (blk_below (BX4.out) hb5)
        clear BX4
        clear ck
        have ck := box_cell BX5.out
        clear HB4 hb5
        have hp1 : ¬ waysV l sent < 1 := by have := Ht.out.1.2.1; dsimp only at this; omega
        have hp1d := decide_eq_false hp1
        have hwl1 : (0 : Int) < ((waysL l sent).length : Int) := by omega
        go_wp2_with fail
        refine (oilcakeref11_Ways.calls 30000000 A c l got (waysL l got) _ CL5.out hc Hwgot.out).mono ?_
        rintro e w6 ⟨v6, rfl, hR6, hb6⟩
        obtain ⟨Aw, cw, rfl, hcw, hCw⟩ := Kd.R_reads hR6
        have hwl := waysL_len l got
        obtain ⟨ad, rfl, hcell⟩ := Kd.at_int hCw 0 (by omega) (by omega)
        have ha0 : ad.add (0 : Int).toNat = ad := rfl
        rw [ha0, waysL_zero] at hcell
        clear hR6 hCw ha0
        have HB6 := Lib.hid (below_step (HB5.out) hb6)
        have CL6 := Lib.hid (Kd.C_below (CL5.out) hb6)
        clear CL5
        have CO6 := Lib.hid (Kd.C_below (CO5.out) hb6)
        clear CO5
        have BX6 := Lib.hid (blk_below (BX5.out) hb6)
        clear BX5
        clear ck
        have ck := box_cell BX6.out
        clear HB5 hb6
        have hp2 : ¬ waysV l got < 1 := by have := Ht.out.1.2.2.1; dsimp only at this; omega
        have hp2d := decide_eq_false hp2
        have hwl2 : (0 : Int) < ((waysL l got).length : Int) := by omega
        go_upto_region 16 with fail
        go_region_held3 (fun W => W.cell? ⟨w.heap.size, 0, none⟩ = some (.slice A l.length c)) (first | exact ck | exact cq1 | exact cq2)
          (first
            | (go_at_call 28; refine (oilcakelaw11_orders.calls (bs.length + 1) A c l A1 c1 bs 250 o _ (Kd.C_below CL6.out ((Below.refl _ _).drew)) hc (Kd.C_below CO6.out ((Below.refl _ _).drew)) hco Ho1.out).mono ?_; rintro e wa ⟨va, rfl, hRa, hba⟩; obtain ⟨Aa, ca, rfl, hca, hCa⟩ := Kd.R_reads hRa; have hBa := below_step ((Below.refl w6.heap.size w6).drew) hba; have cq1 := box_cell (blk_below BX6.out hBa); have HCa := Lib.hid hCa; have HBa := Lib.hid hBa; clear hRa hCa hba hBa)
            | (go_at_call 35; refine (oilcakeref11_Message.calls 1000 A c l Aa ca o s true _ (Kd.C_below CL6.out HBa.out) hc HCa.out hca Hmf2.out).mono ?_; rintro e wm ⟨rfl, hbm⟩; have hBm := below_step HBa.out hbm; have cq2 := box_cell (blk_below BX6.out hBm); have HBm := Lib.hid hBm; clear hbm hBm))
        obtain ⟨w7, hwm⟩ : ∃ x, x = wm := ⟨_, rfl⟩
        rw [← hwm]
        have hb7 := HBm.out
        rw [← hwm] at hb7
        clear hwm HBm cq2 cq1 HCa HBa
        have HB7 := Lib.hid (below_step (HB6.out) hb7)
        have CL7 := Lib.hid (Kd.C_below (CL6.out) hb7)
        clear CL6
        have CO7 := Lib.hid (Kd.C_below (CO6.out) hb7)
        clear CO6
        have BX7 := Lib.hid (blk_below (BX6.out) hb7)
        clear BX6
        clear ck
        have ck := box_cell BX7.out
        clear HB6 hb7
        clear hp1 hp1d hp2 hp2d hwl1 hwl2
        by_cases hz : s.size = 0
        · have hz1 : s.toList.isEmpty = true := by rw [Lib.toList_data, data_nil hz]; rfl
          go_wp2
          go_ret
          exact ⟨rfl, HB7.out⟩
        · have hne : ¬ s.toList = [] := fun e => hz (by rw [Lib.toList_data] at e; rw [← data_length, e]; rfl)
          have hz1 : s.toList.isEmpty = false := by
            cases h : s.toList with
            | nil => exact absurd h hne
            | cons _ _ => rfl
          have hz2 : ¬ s = ByteArray.empty := fun e => hz (by rw [e]; rfl)
          have hz3 : ¬ (s.size : Int) = 0 := by omega
          have hm0 : 0 ≤ place % (s.size : Int) := Int.emod_nonneg _ hz3
          have hm1 : place % (s.size : Int) < (s.size : Int) := Int.emod_lt_of_pos _ (by omega)
          obtain ⟨j, hj⟩ : ∃ j : Nat, place % (s.size : Int) = (j : Int) := ⟨(place % (s.size : Int)).toNat, by omega⟩
          have hjs : j < s.size := by omega
          obtain ⟨tt, htt⟩ : ∃ tt, tt = turnAt s j := ⟨_, rfl⟩
          have hT : gTurned.f s (place % (s.size : Int)) = some tt := by
            rw [hj, htt]; unfold gTurned.f; rw [if_pos ⟨by omega, by omega, by omega⟩]; rfl
          have HT := Lib.hid hT
          have hts : tt.size = s.size := by rw [htt]; exact turnAt_size s j hjs
          have Hts := Lib.hid (signs_turn Hsg.out j)
          have Htd := Lib.hid (turn_diffs s j hjs)
          rw [← htt] at Hts Htd
          have hgv := given_ok Hcode.out (s := tt) (by omega) Hts.out
          have Hct : Hid (countR l tt = if 1000000 < waysV l tt then (0, 4) else (waysV l tt, 0)) := Lib.hid (by unfold countR; rw [if_pos hgv])
          have Htb := Lib.hid (waysV_bd l tt)
          clear hT htt hgv hj hm0 hm1 hne
          go_wp2_with fail
          refine (gTurned.calls s (place % (s.size : Int)) tt _ HT.out).mono ?_
          rintro e w8 ⟨rfl, hd8⟩
          have hb8 := hd8.below
          clear hd8
          have HB8 := Lib.hid (below_step (HB7.out) hb8)
          have CL8 := Lib.hid (Kd.C_below (CL7.out) hb8)
          clear CL7
          have CO8 := Lib.hid (Kd.C_below (CO7.out) hb8)
          clear CO7
          have BX8 := Lib.hid (blk_below (BX7.out) hb8)
          clear BX7
          clear ck
          have ck := box_cell BX8.out
          clear HB7 hb8
          by_cases hbig : 1000000 < waysV l tt
          · have hct := Hct.out
            rw [if_pos hbig] at hct
            go_wp2_with fail
            refine (wire_Count A c l tt _ CL8.out hsz.out (by omega)).mono ?_
            rw [hct]
            clear hct
            rintro e w9 ⟨rfl, hb9⟩
            have HB9 := Lib.hid (below_step (HB8.out) hb9)
            have CL9 := Lib.hid (Kd.C_below (CL8.out) hb9)
            clear CL8
            have CO9 := Lib.hid (Kd.C_below (CO8.out) hb9)
            clear CO8
            have BX9 := Lib.hid (blk_below (BX8.out) hb9)
            clear BX8
            clear ck
            have ck := box_cell BX9.out
            clear HB8 hb9
            have hpos : 0 < waysV l tt := by omega
            clear hz1 hz2 hz3
            have hL := Ht.out.2 (s, tt) ⟨hts.symm, Hmp.out, hpos, Htd.out⟩
            dsimp only at hL
            have hle : ¬ (s.size : Int) < (sent.size : Int) := by have := hL.1; omega
            by_cases hgt : sent.size < s.size
            · have hgi : (sent.size : Int) < (s.size : Int) := by omega
              go_wp2
              go_ret
              exact ⟨rfl, HB9.out⟩
            · have hgi : ¬ (sent.size : Int) < (s.size : Int) := by omega
              have hnb := hL.2 (by omega)
              have hcase : (s = sent ∧ tt = got) ∨ sent.toList < s.toList ∨ (sent = s ∧ got.toList < tt.toList) := by
                rcases bef_total hnb with e | e
                · exact .inl ⟨congrArg (·.1) e, congrArg (·.2) e⟩
                · unfold bef at e; exact .inr ((befI_neg (sent, got) (s, tt)).1 e)
              clear hnb hL
              rcases hcase with ⟨e1, e2⟩ | e1 | ⟨e1, e2⟩
              · have b4 : Op.bytesLess s.toList sent.toList = false := by rw [bytesLess_eq, decide_eq_false]; rw [e1]; exact List.lt_irrefl _
                have b5 : s.toList = sent.toList := by rw [e1]
                have b1 : Op.bytesLess sent.toList s.toList = false := by rw [e1, bytesLess_eq, decide_eq_false (List.lt_irrefl _)]
                have b2 : (s.toList == sent.toList) = true := by rw [e1]; simp
                have b3 : Op.bytesLess tt.toList got.toList = false := by rw [e2, bytesLess_eq, decide_eq_false (List.lt_irrefl _)]
                clear e1 e2
                go_wp2
                go_ret
                first
                  | exact ⟨rfl, HB9.out⟩
                  | (try rw [b3]); exact ⟨by simp, HB9.out⟩
              · have b4 : Op.bytesLess s.toList sent.toList = false := by rw [bytesLess_eq, decide_eq_false]; exact List.lt_asymm e1
                have b5 : ¬ s.toList = sent.toList := fun e => by rw [e] at e1; exact List.lt_irrefl _ e1
                have b1 : Op.bytesLess sent.toList s.toList = true := by rw [bytesLess_eq, decide_eq_true e1]
                clear e1
                go_wp2
                go_ret
                first
                  | exact ⟨rfl, HB9.out⟩
                  | (try rw [b3]); exact ⟨by simp, HB9.out⟩
              · have b4 : Op.bytesLess s.toList sent.toList = false := by rw [bytesLess_eq, decide_eq_false]; rw [e1]; exact List.lt_irrefl _
                have b5 : s.toList = sent.toList := by rw [e1]
                have b1 : Op.bytesLess sent.toList s.toList = false := by rw [e1, bytesLess_eq, decide_eq_false (List.lt_irrefl _)]
                have b2 : (s.toList == sent.toList) = true := by rw [e1]; simp
                have b3 : Op.bytesLess tt.toList got.toList = false := by rw [bytesLess_eq, decide_eq_false (List.lt_asymm e2)]
                clear e1 e2
                go_wp2
                go_ret
                first
                  | exact ⟨rfl, HB9.out⟩
                  | (try rw [b3]); exact ⟨by simp, HB9.out⟩
          · have hct := Hct.out
            rw [if_neg hbig] at hct
            go_wp2_with fail
            refine (wire_Count A c l tt _ CL8.out hsz.out (by omega)).mono ?_
            rw [hct]
            clear hct
            rintro e w9 ⟨rfl, hb9⟩
            have HB9 := Lib.hid (below_step (HB8.out) hb9)
            have CL9 := Lib.hid (Kd.C_below (CL8.out) hb9)
            clear CL8
            have CO9 := Lib.hid (Kd.C_below (CO8.out) hb9)
            clear CO8
            have BX9 := Lib.hid (blk_below (BX8.out) hb9)
            clear BX8
            clear ck
            have ck := box_cell BX9.out
            clear HB8 hb9
            by_cases h0 : waysV l tt = 0
            · have h0d : decide (waysV l tt = 0) = true := decide_eq_true h0
              go_wp2
              go_ret
              exact ⟨rfl, HB9.out⟩
            · have h0d : decide (waysV l tt = 0) = false := decide_eq_false h0
              have hpos : 0 < waysV l tt := by have := Htb.out; omega
              clear hz1 hz2 hz3
              have hL := Ht.out.2 (s, tt) ⟨hts.symm, Hmp.out, hpos, Htd.out⟩
              dsimp only at hL
              have hle : ¬ (s.size : Int) < (sent.size : Int) := by have := hL.1; omega
              by_cases hgt : sent.size < s.size
              · have hgi : (sent.size : Int) < (s.size : Int) := by omega
                go_wp2
                go_ret
                exact ⟨rfl, HB9.out⟩
              · have hgi : ¬ (sent.size : Int) < (s.size : Int) := by omega
                have hnb := hL.2 (by omega)
                have hcase : (s = sent ∧ tt = got) ∨ sent.toList < s.toList ∨ (sent = s ∧ got.toList < tt.toList) := by
                  rcases bef_total hnb with e | e
                  · exact .inl ⟨congrArg (·.1) e, congrArg (·.2) e⟩
                  · unfold bef at e; exact .inr ((befI_neg (sent, got) (s, tt)).1 e)
                clear hnb hL
                rcases hcase with ⟨e1, e2⟩ | e1 | ⟨e1, e2⟩
                · have b4 : Op.bytesLess s.toList sent.toList = false := by rw [bytesLess_eq, decide_eq_false]; rw [e1]; exact List.lt_irrefl _
                  have b5 : s.toList = sent.toList := by rw [e1]
                  have b1 : Op.bytesLess sent.toList s.toList = false := by rw [e1, bytesLess_eq, decide_eq_false (List.lt_irrefl _)]
                  have b2 : (s.toList == sent.toList) = true := by rw [e1]; simp
                  have b3 : Op.bytesLess tt.toList got.toList = false := by rw [e2, bytesLess_eq, decide_eq_false (List.lt_irrefl _)]
                  clear e1 e2
                  go_wp2
                  go_ret
                  first
                    | exact ⟨rfl, HB9.out⟩
                    | (try rw [b3]); exact ⟨by simp, HB9.out⟩
                · have b4 : Op.bytesLess s.toList sent.toList = false := by rw [bytesLess_eq, decide_eq_false]; exact List.lt_asymm e1
                  have b5 : ¬ s.toList = sent.toList := fun e => by rw [e] at e1; exact List.lt_irrefl _ e1
                  have b1 : Op.bytesLess sent.toList s.toList = true := by rw [bytesLess_eq, decide_eq_true e1]
                  clear e1
                  go_wp2
                  go_ret
                  first
                    | exact ⟨rfl, HB9.out⟩
                    | (try rw [b3]); exact ⟨by simp, HB9.out⟩
                · have b4 : Op.bytesLess s.toList sent.toList = false := by rw [bytesLess_eq, decide_eq_false]; rw [e1]; exact List.lt_irrefl _
                  have b5 : s.toList = sent.toList := by rw [e1]
                  have b1 : Op.bytesLess sent.toList s.toList = false := by rw [e1, bytesLess_eq, decide_eq_false (List.lt_irrefl _)]
                  have b2 : (s.toList == sent.toList) = true := by rw [e1]; simp
                  have b3 : Op.bytesLess tt.toList got.toList = false := by rw [bytesLess_eq, decide_eq_false (List.lt_asymm e2)]
                  clear e1 e2
                  go_wp2
                  go_ret
                  first
                    | exact ⟨rfl, HB9.out⟩
                    | (try rw [b3]); exact ⟨by simp, HB9.out⟩
  · have Hn := Lib.hid hn
    have Hd := Lib.hid hd
    clear hn hd
    go_wp2_with fail
    refine (wire_Slip A c l _ CL2.out hsz.out).mono ?_
    rintro e w3 ⟨⟨ta, tb⟩, n3, rfl, hU3, hb3⟩
    have hu3 := slip_eq hU3
    rw [Hd.out] at hu3
    obtain ⟨hu0, hu1⟩ := Prod.mk.inj hu3
    obtain ⟨hv1, hv2⟩ := Prod.mk.inj hu1
    clear hu3 hU3 hu1
    dsimp only at hu0 hv1
    subst hu0 hv1 hv2
    have HB3 := Lib.hid (below_step (HB2.out) hb3)
    have CL3 := Lib.hid (Kd.C_below (CL2.out) hb3)
    clear CL2
    have CO3 := Lib.hid (Kd.C_below (CO2.out) hb3)
    clear CO2
    have BX3 := Lib.hid (blk_below (BX2.out) hb3)
    clear BX2
    clear ck
    have ck := box_cell BX3.out
    clear HB2 hb3
    go_upto_region 16 with fail
    go_region_held3 (fun W => W.cell? ⟨w.heap.size, 0, none⟩ = some (.slice A l.length c)) (first | exact ck | exact cq1 | exact cq2)
      (first
        | (go_at_call 28; refine (oilcakelaw11_orders.calls (bs.length + 1) A c l A1 c1 bs 250 o _ (Kd.C_below CL3.out ((Below.refl _ _).drew)) hc (Kd.C_below CO3.out ((Below.refl _ _).drew)) hco Ho1.out).mono ?_; rintro e wa ⟨va, rfl, hRa, hba⟩; obtain ⟨Aa, ca, rfl, hca, hCa⟩ := Kd.R_reads hRa; have hBa := below_step ((Below.refl w3.heap.size w3).drew) hba; have cq1 := box_cell (blk_below BX3.out hBa); have HCa := Lib.hid hCa; have HBa := Lib.hid hBa; clear hRa hCa hba hBa)
        | (go_at_call 35; refine (oilcakeref11_Message.calls 1000 A c l Aa ca o s true _ (Kd.C_below CL3.out HBa.out) hc HCa.out hca Hmf2.out).mono ?_; rintro e wm ⟨rfl, hbm⟩; have hBm := below_step HBa.out hbm; have cq2 := box_cell (blk_below BX3.out hBm); have HBm := Lib.hid hBm; clear hbm hBm))
    obtain ⟨w4, hwm⟩ : ∃ x, x = wm := ⟨_, rfl⟩
    rw [← hwm]
    have hb4 := HBm.out
    rw [← hwm] at hb4
    clear hwm HBm cq2 cq1 HCa HBa
    have HB4 := Lib.hid (below_step (HB3.out) hb4)
    have CL4 := Lib.hid (Kd.C_below (CL3.out) hb4)
    clear CL3
    have CO4 := Lib.hid (Kd.C_below (CO3.out) hb4)
    clear CO3
    have BX4 := Lib.hid (blk_below (BX3.out) hb4)
    clear BX3
    clear ck
    have ck := box_cell BX4.out
    clear HB3 hb4
    by_cases hz : s.size = 0
    · have hz1 : s.toList.isEmpty = true := by rw [Lib.toList_data, data_nil hz]; rfl
      go_wp2
      go_ret
      exact ⟨rfl, HB4.out⟩
    · have hne : ¬ s.toList = [] := fun e => hz (by rw [Lib.toList_data] at e; rw [← data_length, e]; rfl)
      have hz1 : s.toList.isEmpty = false := by
        cases h : s.toList with
        | nil => exact absurd h hne
        | cons _ _ => rfl
      have hz2 : ¬ s = ByteArray.empty := fun e => hz (by rw [e]; rfl)
      have hz3 : ¬ (s.size : Int) = 0 := by omega
      have hm0 : 0 ≤ place % (s.size : Int) := Int.emod_nonneg _ hz3
      have hm1 : place % (s.size : Int) < (s.size : Int) := Int.emod_lt_of_pos _ (by omega)
      obtain ⟨j, hj⟩ : ∃ j : Nat, place % (s.size : Int) = (j : Int) := ⟨(place % (s.size : Int)).toNat, by omega⟩
      have hjs : j < s.size := by omega
      obtain ⟨tt, htt⟩ : ∃ tt, tt = turnAt s j := ⟨_, rfl⟩
      have hT : gTurned.f s (place % (s.size : Int)) = some tt := by
        rw [hj, htt]; unfold gTurned.f; rw [if_pos ⟨by omega, by omega, by omega⟩]; rfl
      have HT := Lib.hid hT
      have hts : tt.size = s.size := by rw [htt]; exact turnAt_size s j hjs
      have Hts := Lib.hid (signs_turn Hsg.out j)
      have Htd := Lib.hid (turn_diffs s j hjs)
      rw [← htt] at Hts Htd
      have hgv := given_ok Hcode.out (s := tt) (by omega) Hts.out
      have Hct : Hid (countR l tt = if 1000000 < waysV l tt then (0, 4) else (waysV l tt, 0)) := Lib.hid (by unfold countR; rw [if_pos hgv])
      have Htb := Lib.hid (waysV_bd l tt)
      clear hT htt hgv hj hm0 hm1 hne
      go_wp2_with fail
      refine (gTurned.calls s (place % (s.size : Int)) tt _ HT.out).mono ?_
      rintro e w5 ⟨rfl, hd5⟩
      have hb5 := hd5.below
      clear hd5
      have HB5 := Lib.hid (below_step (HB4.out) hb5)
      have CL5 := Lib.hid (Kd.C_below (CL4.out) hb5)
      clear CL4
      have CO5 := Lib.hid (Kd.C_below (CO4.out) hb5)
      clear CO4
      have BX5 := Lib.hid (blk_below (BX4.out) hb5)
      clear BX4
      clear ck
      have ck := box_cell BX5.out
      clear HB4 hb5
      by_cases hbig : 1000000 < waysV l tt
      · have hct := Hct.out
        rw [if_pos hbig] at hct
        go_wp2_with fail
        refine (wire_Count A c l tt _ CL5.out hsz.out (by omega)).mono ?_
        rw [hct]
        clear hct
        rintro e w6 ⟨rfl, hb6⟩
        have HB6 := Lib.hid (below_step (HB5.out) hb6)
        have CL6 := Lib.hid (Kd.C_below (CL5.out) hb6)
        clear CL5
        have CO6 := Lib.hid (Kd.C_below (CO5.out) hb6)
        clear CO5
        have BX6 := Lib.hid (blk_below (BX5.out) hb6)
        clear BX5
        clear ck
        have ck := box_cell BX6.out
        clear HB5 hb6
        have hpos : 0 < waysV l tt := by omega
        clear hz1 hz2 hz3
        exact absurd (show Pair l (s, tt) from ⟨hts.symm, Hmp.out, hpos, Htd.out⟩) (Hn.out (s, tt))
      · have hct := Hct.out
        rw [if_neg hbig] at hct
        go_wp2_with fail
        refine (wire_Count A c l tt _ CL5.out hsz.out (by omega)).mono ?_
        rw [hct]
        clear hct
        rintro e w6 ⟨rfl, hb6⟩
        have HB6 := Lib.hid (below_step (HB5.out) hb6)
        have CL6 := Lib.hid (Kd.C_below (CL5.out) hb6)
        clear CL5
        have CO6 := Lib.hid (Kd.C_below (CO5.out) hb6)
        clear CO5
        have BX6 := Lib.hid (blk_below (BX5.out) hb6)
        clear BX5
        clear ck
        have ck := box_cell BX6.out
        clear HB5 hb6
        by_cases h0 : waysV l tt = 0
        · have h0d : decide (waysV l tt = 0) = true := decide_eq_true h0
          go_wp2
          go_ret
          exact ⟨rfl, HB6.out⟩
        · have h0d : decide (waysV l tt = 0) = false := decide_eq_false h0
          have hpos : 0 < waysV l tt := by have := Htb.out; omega
          clear hz1 hz2 hz3
          exact absurd (show Pair l (s, tt) from ⟨hts.symm, Hmp.out, hpos, Htd.out⟩) (Hn.out (s, tt))
end Go.Proofs.YtfnibmcenjiodaaGreatDoor.L
