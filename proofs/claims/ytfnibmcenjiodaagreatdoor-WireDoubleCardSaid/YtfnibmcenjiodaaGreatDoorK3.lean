/- Contracts and plain laws that the claim's card stands on (texts L3 of the work, put together). No statement of the seat is proved here. -/
import Derived.Test.YtfnibmcenjiodaaGreatDoorQ22
set_option linter.unusedVariables false
set_option linter.unusedSimpArgs false
namespace Go.Proofs.YtfnibmcenjiodaaGreatDoor.L
open Go.Sort Go.Shelf Go.RowKit Go.Proofs.YtfnibmcenjiodaaGreatDoorW.PrintWords Go.Proofs.YtfnibmcenjiodaaGreatDoorW.PrintLast Go.Proofs.YtfnibmcenjiodaaGreatDoorW.PrintMore
open Go.Proofs.YtfnibmcenjiodaaGreatDoor.M Go.Proofs.YtfnibmcenjiodaaGreatDoor.R Go.Proofs.YtfnibmcenjiodaaGreatDoor.N
attribute [local go_sem] Oper.semAt_some
theorem before_not {s t : ByteArray} (h : leT s t) : oilcakeref11_Before.f t s = some false := by
  unfold oilcakeref11_Before.f
  rw [if_neg (by have := h.1; omega)]
  by_cases e : (t.size : Int) = (s.size : Int)
  · rw [if_pos e]
    have h2 := h.2 (by omega)
    rw [bytesLess_eq, Lib.toList_data, Lib.toList_data, decide_eq_false (List.not_lt.2 h2)]
  · rw [if_neg e]
theorem two_signs {l : List ByteArray} (hk : codeOk l = true) {s : ByteArray} (h : 2 ≤ waysV l s) : isSigns s = true := by
  obtain ⟨o, ho⟩ := (ways_pos (codeOk_pos hk)).1 (show 0 < waysV l s by omega)
  exact reads_signs hk ho
set_option maxRecDepth 100000 in
set_option maxHeartbeats 8000000 in
theorem wireDouble_calls (A : Option Addr) (c : Nat) (l : List ByteArray) (A1 : Option Addr) (c1 : Nat) (bs : List Int) (w : World) (hr : Kd.C Kd.string w A l.length l) (hc : l.length ≤ c) (hro : Kd.C (Kd.int .u8) w A1 bs.length bs) (hco : bs.length ≤ c1) (hb : ∀ b ∈ bs, 0 ≤ b ∧ b ≤ 255) :
    Calls Tryz.prog 10 #[.agg #[.slice A l.length c], .slice A1 bs.length c1] w fun e w' => e = .returned (.bool true) ∧ Below w.heap.size w w' := by
  have hbl := Kd.C_max hro
  have CL := Lib.hid (Kd.C_alloc (o := .cells #[.slice A l.length c] 24) hr)
  have CO := Lib.hid (Kd.C_alloc (o := .cells #[.slice A l.length c] 24) hro)
  have HB := Lib.hid (below1 w (.cells #[.slice A l.length c] 24))
  have BX := Lib.hid (blk_new w (.cells #[.slice A l.length c] 24))
  have Hbs := Lib.hid hb
  clear hr hro hb
  have ck := box_cell BX.out
  go_enter Tryz.func10, Tryz.ntmps10
  go_wp2_with fail
  refine (alive_calls _).mono ?_
  rintro e w1 ⟨rfl, hb1⟩
  have HB1 := Lib.hid (below_step (HB.out) hb1)
  have CL1 := Lib.hid (Kd.C_below (CL.out) hb1)
  clear CL
  have CO1 := Lib.hid (Kd.C_below (CO.out) hb1)
  clear CO
  have BX1 := Lib.hid (blk_below (BX.out) hb1)
  clear BX
  clear ck
  have ck := box_cell BX1.out
  clear HB hb1
  go_wp2_with fail
  refine (oilcakelaw11_ready.calls 1000 A c l (isReady l) _ CL1.out hc (ready_f l)).mono ?_
  rintro e w2 ⟨rfl, hb2⟩
  have HB2 := Lib.hid (below_step (HB1.out) hb2)
  have CL2 := Lib.hid (Kd.C_below (CL1.out) hb2)
  clear CL1
  have CO2 := Lib.hid (Kd.C_below (CO1.out) hb2)
  clear CO1
  have BX2 := Lib.hid (blk_below (BX1.out) hb2)
  clear BX1
  clear ck
  have ck := box_cell BX2.out
  clear HB1 hb2
  cases hrd : isReady l
  · go_wp2
    go_ret
    exact ⟨rfl, HB2.out⟩
  have hcode : codeOk l = true := by simp only [isReady, Bool.and_eq_true] at hrd; exact hrd.2
  have Hcode := Lib.hid hcode
  have hsz := Lib.hid (fun x hx => (show x.size ≤ 9223372036854775807 by have := codeOk_words hcode x hx; omega) : ∀ x ∈ l, x.size ≤ 9223372036854775807)
  obtain ⟨o, ho1, ho2, ho3, ho4⟩ := orders_f l hcode bs Hbs.out hbl 250 (by omega)
  have Ho1 := Lib.hid ho1
  have Ho2 := Lib.hid ho2
  have ho5 : (spell l o).length ≤ 250 := by omega
  have Hm := Lib.hid (msgOf_ok ho2 ho5)
  have hgr := great_no' (show greatB l = false by simp only [isReady, Bool.and_eq_true] at hrd; simpa using hrd.1)
  have Hmf := Lib.hid (message_f l hgr.1 hgr.2 o (by omega) (fun z hz => by have := ho2 z hz; omega) 1000 (by omega))
  have Hgr := Lib.hid hgr
  have Hmr := Lib.hid (msg_reads ho2)
  have hms : (msg l o).size ≤ 250 := by rw [msg_size]; exact ho5
  have Hgv := Lib.hid (given_ok hcode hms (reads_signs hcode (msg_reads ho2)))
  have Hmp := Lib.hid ((ways_pos (codeOk_pos hcode)).2 ⟨o, msg_reads ho2⟩)
  have Hmb := Lib.hid (waysV_bd l (msg l o))
  obtain ⟨t, ht⟩ : ∃ t, t = msg l o := ⟨_, rfl⟩
  rw [← ht] at Hm Hmr hms Hgv Hmp Hmb
  have Hmf2 : Hid (oilcakeref11_Message.f 1000 l o = some (t, true)) := Lib.hid (by rw [Hmf.out, Hm.out])
  clear ho1 ho2 ho3 ho4 hgr Hmf Hm ht hcode hrd
  have hcnt : Hid (countR l t = if waysV l t > 1000000 then (0, 4) else (waysV l t, 0)) := Lib.hid (by unfold countR; rw [if_pos Hgv.out])
  rcases double_cases Hcode.out with ⟨s, hs, hd, hu⟩ | ⟨hn, hd, hu⟩
  · have Hs := Lib.hid hs
    have Hd := Lib.hid hd
    have Hu := Lib.hid hu
    clear hs hd hu
    have hfr : freeB l = false := by
      cases h : freeB l
      · rfl
      · exfalso
        have := free_unique Hcode.out (free_of_B h) s
        have := Hs.out.1
        omega
    have hpx : prefixR l = (false, 0) := by unfold prefixR; rw [if_pos Hcode.out, hfr]
    have Hpx := Lib.hid hpx
    clear hpx
    go_wp2_with fail
    refine (wire_Unique A c l _ CL2.out hsz.out).mono ?_
    rintro e w3 ⟨b3, n3, rfl, hU3, hb3⟩
    have hu3 := unique_eq hU3
    rw [Hu.out] at hu3
    obtain ⟨hu0, hu1⟩ := Prod.mk.inj hu3
    clear hu3 hU3
    subst hu0 hu1
    have HB3 := Lib.hid (below_step (HB2.out) hb3)
    have CL3 := Lib.hid (Kd.C_below (CL2.out) hb3)
    clear CL2
    have CO3 := Lib.hid (Kd.C_below (CO2.out) hb3)
    clear CO2
    have BX3 := Lib.hid (blk_below (BX2.out) hb3)
    clear BX2
    clear ck
    have ck := box_cell BX3.out
    clear HB2 hb3
    go_wp2_with fail
    refine (wire_Double A c l _ CL3.out hsz.out).mono ?_
    rintro e w4 ⟨b4, n4, rfl, hU4, hb4⟩
    have hu4 := double_eq hU4
    rw [Hd.out] at hu4
    obtain ⟨hu0, hu1⟩ := Prod.mk.inj hu4
    have hsb := double_bound hU4
    clear hu4 hU4
    subst hu0 hu1
    have HB4 := Lib.hid (below_step (HB3.out) hb4)
    have CL4 := Lib.hid (Kd.C_below (CL3.out) hb4)
    clear CL3
    have CO4 := Lib.hid (Kd.C_below (CO3.out) hb4)
    clear CO3
    have BX4 := Lib.hid (blk_below (BX3.out) hb4)
    clear BX3
    clear ck
    have ck := box_cell BX4.out
    clear HB3 hb4
    go_wp2_with fail
    refine (wire_Prefix A c l _ CL4.out hsz.out).mono ?_
    rw [Hpx.out]
    rintro e w5 ⟨rfl, hb5⟩
    have HB5 := Lib.hid (below_step (HB4.out) hb5)
    have CL5 := Lib.hid (Kd.C_below (CL4.out) hb5)
    clear CL4
    have CO5 := Lib.hid (Kd.C_below (CO4.out) hb5)
    clear CO4
    have BX5 := Lib.hid (blk_below (BX4.out) hb5)
    clear BX4
    clear ck
    have ck := box_cell BX5.out
    clear HB4 hb5
    go_upto_region 9 with fail
    go_region_held3 (fun W => W.cell? ⟨w.heap.size, 0, none⟩ = some (.slice A l.length c)) (first | exact ck | exact cq1 | exact cq2)
      (first
        | (go_at_call 28; refine (oilcakelaw11_orders.calls (bs.length + 1) A c l A1 c1 bs 250 o _ (Kd.C_below CL5.out ((Below.refl _ _).drew)) hc (Kd.C_below CO5.out ((Below.refl _ _).drew)) hco Ho1.out).mono ?_; rintro e wa ⟨va, rfl, hRa, hba⟩; obtain ⟨Aa, ca, rfl, hca, hCa⟩ := Kd.R_reads hRa; have hBa := below_step ((Below.refl w5.heap.size w5).drew) hba; have cq1 := box_cell (blk_below BX5.out hBa); have HCa := Lib.hid hCa; have HBa := Lib.hid hBa; clear hRa hCa hba hBa)
        | (go_at_call 35; refine (oilcakeref11_Message.calls 1000 A c l Aa ca o t true _ (Kd.C_below CL5.out HBa.out) hc HCa.out hca Hmf2.out).mono ?_; rintro e wm ⟨rfl, hbm⟩; have hBm := below_step HBa.out hbm; have cq2 := box_cell (blk_below BX5.out hBm); have HBm := Lib.hid hBm; clear hbm hBm))
    obtain ⟨w6, hwm⟩ : ∃ x, x = wm := ⟨_, rfl⟩
    rw [← hwm]
    have hb6 := HBm.out
    rw [← hwm] at hb6
    clear hwm HBm cq2 cq1 HCa HBa
    have HB6 := Lib.hid (below_step (HB5.out) hb6)
    have CL6 := Lib.hid (Kd.C_below (CL5.out) hb6)
    clear CL5
    have CO6 := Lib.hid (Kd.C_below (CO5.out) hb6)
    clear CO5
    have BX6 := Lib.hid (blk_below (BX5.out) hb6)
    clear BX5
    clear ck
    have ck := box_cell BX6.out
    clear HB5 hb6
    have hs2 := Hs.out.1
    have hsn2 : ¬ s.toList = [] := fun e => by
      rw [Lib.toList_data] at e
      have e2 : s = ⟨#[]⟩ := ByteArray.ext (Array.toList_inj.1 e)
      rw [e2] at hs2
      exact absurd hs2 (by rw [waysV_empty]; decide)
    have hsne : s.toList.isEmpty = false := by
      cases h : s.toList with
      | nil => exact absurd h hsn2
      | cons _ _ => rfl
    have Hs2 := Lib.hid hs2
    have Hsn := Lib.hid (And.intro hsne hsn2)
    have Hwf := Lib.hid (ways_f l Hgr.out.1 (codeOk_words' Hcode.out) s (by omega) 100000 (by omega))
    clear hs2 hsne hsn2
    by_cases hbig : 1000000 < waysV l t
    · have hct : countR l t = (0, 4) := by rw [hcnt.out, if_pos hbig]
      go_wp2_with fail
      refine (wire_Count A c l t _ CL6.out hsz.out (by omega)).mono ?_
      rw [hct]
      clear hct
      rintro e w7 ⟨rfl, hb7⟩
      have HB7 := Lib.hid (below_step (HB6.out) hb7)
      have CL7 := Lib.hid (Kd.C_below (CL6.out) hb7)
      clear CL6
      have CO7 := Lib.hid (Kd.C_below (CO6.out) hb7)
      clear CO6
      have BX7 := Lib.hid (blk_below (BX6.out) hb7)
      clear BX6
      clear ck
      have ck := box_cell BX7.out
      clear HB6 hb7
      have hsn := Hsn.out.1
      have hsn' := Hsn.out.2
      go_wp2_with fail
      refine (oilcakeref11_Ways.calls 100000 A c l s (waysL l s) _ CL7.out hc Hwf.out).mono ?_
      rintro e w8 ⟨v8, rfl, hR8, hb8⟩
      obtain ⟨Aw, cw, rfl, hcw, hCw⟩ := Kd.R_reads hR8
      have hwl := waysL_len l s
      obtain ⟨ad, rfl, hcell⟩ := Kd.at_int hCw 0 (by omega) (by omega)
      have ha0 : ad.add (0 : Int).toNat = ad := rfl
      rw [ha0, waysL_zero] at hcell
      clear hR8 hCw ha0
      have HB8 := Lib.hid (below_step (HB7.out) hb8)
      have CL8 := Lib.hid (Kd.C_below (CL7.out) hb8)
      clear CL7
      have CO8 := Lib.hid (Kd.C_below (CO7.out) hb8)
      clear CO7
      have BX8 := Lib.hid (blk_below (BX7.out) hb8)
      clear BX7
      clear ck
      have ck := box_cell BX8.out
      clear HB7 hb8
      have hlt2 : ¬ waysV l s < 2 := by have := Hs2.out; omega
      have hlt3 : decide (waysV l s < 2) = false := decide_eq_false hlt2
      clear hsn hsn'
      have hle : leT s t := by have := Hs.out.2 t (by omega); exact this
      have hbf : oilcakeref11_Before.f t s = some false := before_not hle
      clear hle
      go_wp2_with fail
      refine (oilcakeref11_Before.calls t s false _ hbf).mono ?_
      rintro e w9 ⟨rfl, hd9⟩
      have hb9 := hd9.below
      clear hd9
      have HB9 := Lib.hid (below_step (HB8.out) hb9)
      have CL9 := Lib.hid (Kd.C_below (CL8.out) hb9)
      clear CL8
      have CO9 := Lib.hid (Kd.C_below (CO8.out) hb9)
      clear CO8
      have BX9 := Lib.hid (blk_below (BX8.out) hb9)
      clear BX8
      clear ck
      have ck := box_cell BX9.out
      clear HB8 hb9
      clear hbf
      by_cases hlong : 250 < s.size
      · have hld : (250 : Int) < (s.size : Int) := by omega
        go_wp2
        go_ret
        exact ⟨rfl, HB9.out⟩
      · have hld : ¬ (250 : Int) < (s.size : Int) := by omega
        have hgs := given_ok Hcode.out (s := s) (by omega) (two_signs Hcode.out Hs2.out)
        by_cases hbs : 1000000 < waysV l s
        · have hcs : countR l s = (0, 4) := by unfold countR; rw [if_pos hgs, if_pos hbs]
          clear hgs
          go_wp2_with fail
          refine (wire_Count A c l s _ CL9.out hsz.out (by omega)).mono ?_
          rw [hcs]
          clear hcs
          rintro e w10 ⟨rfl, hb10⟩
          have HB10 := Lib.hid (below_step (HB9.out) hb10)
          have CL10 := Lib.hid (Kd.C_below (CL9.out) hb10)
          clear CL9
          have CO10 := Lib.hid (Kd.C_below (CO9.out) hb10)
          clear CO9
          have BX10 := Lib.hid (blk_below (BX9.out) hb10)
          clear BX9
          clear ck
          have ck := box_cell BX10.out
          clear HB9 hb10
          have hge : decide (2 ≤ waysV l s) = true := decide_eq_true Hs2.out
          have hge2 := Hs2.out
          go_wp2
          go_ret
          exact ⟨rfl, HB10.out⟩
        · have hcs : countR l s = (waysV l s, 0) := by unfold countR; rw [if_pos hgs, if_neg hbs]
          clear hgs
          go_wp2_with fail
          refine (wire_Count A c l s _ CL9.out hsz.out (by omega)).mono ?_
          rw [hcs]
          clear hcs
          rintro e w10 ⟨rfl, hb10⟩
          have HB10 := Lib.hid (below_step (HB9.out) hb10)
          have CL10 := Lib.hid (Kd.C_below (CL9.out) hb10)
          clear CL9
          have CO10 := Lib.hid (Kd.C_below (CO9.out) hb10)
          clear CO9
          have BX10 := Lib.hid (blk_below (BX9.out) hb10)
          clear BX9
          clear ck
          have ck := box_cell BX10.out
          clear HB9 hb10
          have hge : decide (2 ≤ waysV l s) = true := decide_eq_true Hs2.out
          have hge2 := Hs2.out
          go_wp2
          go_ret
          exact ⟨rfl, HB10.out⟩
    · have hct : countR l t = (waysV l t, 0) := by rw [hcnt.out, if_neg hbig]
      go_wp2_with fail
      refine (wire_Count A c l t _ CL6.out hsz.out (by omega)).mono ?_
      rw [hct]
      clear hct
      rintro e w7 ⟨rfl, hb7⟩
      have HB7 := Lib.hid (below_step (HB6.out) hb7)
      have CL7 := Lib.hid (Kd.C_below (CL6.out) hb7)
      clear CL6
      have CO7 := Lib.hid (Kd.C_below (CO6.out) hb7)
      clear CO6
      have BX7 := Lib.hid (blk_below (BX6.out) hb7)
      clear BX6
      clear ck
      have ck := box_cell BX7.out
      clear HB6 hb7
      have hsn := Hsn.out.1
      have hsn' := Hsn.out.2
      go_wp2_with fail
      refine (oilcakeref11_Ways.calls 100000 A c l s (waysL l s) _ CL7.out hc Hwf.out).mono ?_
      rintro e w8 ⟨v8, rfl, hR8, hb8⟩
      obtain ⟨Aw, cw, rfl, hcw, hCw⟩ := Kd.R_reads hR8
      have hwl := waysL_len l s
      obtain ⟨ad, rfl, hcell⟩ := Kd.at_int hCw 0 (by omega) (by omega)
      have ha0 : ad.add (0 : Int).toNat = ad := rfl
      rw [ha0, waysL_zero] at hcell
      clear hR8 hCw ha0
      have HB8 := Lib.hid (below_step (HB7.out) hb8)
      have CL8 := Lib.hid (Kd.C_below (CL7.out) hb8)
      clear CL7
      have CO8 := Lib.hid (Kd.C_below (CO7.out) hb8)
      clear CO7
      have BX8 := Lib.hid (blk_below (BX7.out) hb8)
      clear BX7
      clear ck
      have ck := box_cell BX8.out
      clear HB7 hb8
      have hlt2 : ¬ waysV l s < 2 := by have := Hs2.out; omega
      have hlt3 : decide (waysV l s < 2) = false := decide_eq_false hlt2
      clear hsn hsn'
      by_cases h2 : 1 < waysV l t
      · have h2d : decide (1 < waysV l t) = true := decide_eq_true h2
        have hle : leT s t := by have := Hs.out.2 t (by omega); exact this
        have hbf : oilcakeref11_Before.f t s = some false := before_not hle
        clear hle
        go_wp2_with fail
        refine (oilcakeref11_Before.calls t s false _ hbf).mono ?_
        rintro e w9 ⟨rfl, hd9⟩
        have hb9 := hd9.below
        clear hd9
        have HB9 := Lib.hid (below_step (HB8.out) hb9)
        have CL9 := Lib.hid (Kd.C_below (CL8.out) hb9)
        clear CL8
        have CO9 := Lib.hid (Kd.C_below (CO8.out) hb9)
        clear CO8
        have BX9 := Lib.hid (blk_below (BX8.out) hb9)
        clear BX8
        clear ck
        have ck := box_cell BX9.out
        clear HB8 hb9
        clear hbf
        by_cases hlong : 250 < s.size
        · have hld : (250 : Int) < (s.size : Int) := by omega
          go_wp2
          go_ret
          exact ⟨rfl, HB9.out⟩
        · have hld : ¬ (250 : Int) < (s.size : Int) := by omega
          have hgs := given_ok Hcode.out (s := s) (by omega) (two_signs Hcode.out Hs2.out)
          by_cases hbs : 1000000 < waysV l s
          · have hcs : countR l s = (0, 4) := by unfold countR; rw [if_pos hgs, if_pos hbs]
            clear hgs
            go_wp2_with fail
            refine (wire_Count A c l s _ CL9.out hsz.out (by omega)).mono ?_
            rw [hcs]
            clear hcs
            rintro e w10 ⟨rfl, hb10⟩
            have HB10 := Lib.hid (below_step (HB9.out) hb10)
            have CL10 := Lib.hid (Kd.C_below (CL9.out) hb10)
            clear CL9
            have CO10 := Lib.hid (Kd.C_below (CO9.out) hb10)
            clear CO9
            have BX10 := Lib.hid (blk_below (BX9.out) hb10)
            clear BX9
            clear ck
            have ck := box_cell BX10.out
            clear HB9 hb10
            have hge : decide (2 ≤ waysV l s) = true := decide_eq_true Hs2.out
            have hge2 := Hs2.out
            go_wp2
            go_ret
            exact ⟨rfl, HB10.out⟩
          · have hcs : countR l s = (waysV l s, 0) := by unfold countR; rw [if_pos hgs, if_neg hbs]
            clear hgs
            go_wp2_with fail
            refine (wire_Count A c l s _ CL9.out hsz.out (by omega)).mono ?_
            rw [hcs]
            clear hcs
            rintro e w10 ⟨rfl, hb10⟩
            have HB10 := Lib.hid (below_step (HB9.out) hb10)
            have CL10 := Lib.hid (Kd.C_below (CL9.out) hb10)
            clear CL9
            have CO10 := Lib.hid (Kd.C_below (CO9.out) hb10)
            clear CO9
            have BX10 := Lib.hid (blk_below (BX9.out) hb10)
            clear BX9
            clear ck
            have ck := box_cell BX10.out
            clear HB9 hb10
            have hge : decide (2 ≤ waysV l s) = true := decide_eq_true Hs2.out
            have hge2 := Hs2.out
            go_wp2
            go_ret
            exact ⟨rfl, HB10.out⟩
      · have h2d : decide (1 < waysV l t) = false := decide_eq_false h2
        by_cases hlong : 250 < s.size
        · have hld : (250 : Int) < (s.size : Int) := by omega
          go_wp2
          go_ret
          exact ⟨rfl, HB8.out⟩
        · have hld : ¬ (250 : Int) < (s.size : Int) := by omega
          have hgs := given_ok Hcode.out (s := s) (by omega) (two_signs Hcode.out Hs2.out)
          by_cases hbs : 1000000 < waysV l s
          · have hcs : countR l s = (0, 4) := by unfold countR; rw [if_pos hgs, if_pos hbs]
            clear hgs
            go_wp2_with fail
            refine (wire_Count A c l s _ CL8.out hsz.out (by omega)).mono ?_
            rw [hcs]
            clear hcs
            rintro e w9 ⟨rfl, hb9⟩
            have HB9 := Lib.hid (below_step (HB8.out) hb9)
            have CL9 := Lib.hid (Kd.C_below (CL8.out) hb9)
            clear CL8
            have CO9 := Lib.hid (Kd.C_below (CO8.out) hb9)
            clear CO8
            have BX9 := Lib.hid (blk_below (BX8.out) hb9)
            clear BX8
            clear ck
            have ck := box_cell BX9.out
            clear HB8 hb9
            have hge : decide (2 ≤ waysV l s) = true := decide_eq_true Hs2.out
            have hge2 := Hs2.out
            go_wp2
            go_ret
            exact ⟨rfl, HB9.out⟩
          · have hcs : countR l s = (waysV l s, 0) := by unfold countR; rw [if_pos hgs, if_neg hbs]
            clear hgs
            go_wp2_with fail
            refine (wire_Count A c l s _ CL8.out hsz.out (by omega)).mono ?_
            rw [hcs]
            clear hcs
            rintro e w9 ⟨rfl, hb9⟩
            have HB9 := Lib.hid (below_step (HB8.out) hb9)
            have CL9 := Lib.hid (Kd.C_below (CL8.out) hb9)
            clear CL8
            have CO9 := Lib.hid (Kd.C_below (CO8.out) hb9)
            clear CO8
            have BX9 := Lib.hid (blk_below (BX8.out) hb9)
            clear BX8
            clear ck
            have ck := box_cell BX9.out
            clear HB8 hb9
            have hge : decide (2 ≤ waysV l s) = true := decide_eq_true Hs2.out
            have hge2 := Hs2.out
            go_wp2
            go_ret
            exact ⟨rfl, HB9.out⟩
  · have Hd := Lib.hid hd
    have Hu := Lib.hid hu
    have hone : waysV l t = 1 := by have := hn t; have := Hmp.out; omega
    have hct : countR l t = (1, 0) := by rw [hcnt.out, if_neg (by omega), hone]
    have Hct := Lib.hid hct
    clear hd hu hn hone hct
    cases hfb : freeB l
    · have hpx : prefixR l = (false, 0) := by unfold prefixR; rw [if_pos Hcode.out, hfb]
      have Hpx := Lib.hid hpx
      clear hpx hfb
      go_wp2_with fail
      refine (wire_Unique A c l _ CL2.out hsz.out).mono ?_
      rintro e w3 ⟨b3, n3, rfl, hU3, hb3⟩
      have hu3 := unique_eq hU3
      rw [Hu.out] at hu3
      obtain ⟨hu0, hu1⟩ := Prod.mk.inj hu3
      clear hu3 hU3
      subst hu0 hu1
      have HB3 := Lib.hid (below_step (HB2.out) hb3)
      have CL3 := Lib.hid (Kd.C_below (CL2.out) hb3)
      clear CL2
      have CO3 := Lib.hid (Kd.C_below (CO2.out) hb3)
      clear CO2
      have BX3 := Lib.hid (blk_below (BX2.out) hb3)
      clear BX2
      clear ck
      have ck := box_cell BX3.out
      clear HB2 hb3
      go_wp2_with fail
      refine (wire_Double A c l _ CL3.out hsz.out).mono ?_
      rintro e w4 ⟨b4, n4, rfl, hU4, hb4⟩
      have hu4 := double_eq hU4
      rw [Hd.out] at hu4
      obtain ⟨hu0, hu1⟩ := Prod.mk.inj hu4
      have hsb := double_bound hU4
      clear hu4 hU4
      subst hu0 hu1
      have HB4 := Lib.hid (below_step (HB3.out) hb4)
      have CL4 := Lib.hid (Kd.C_below (CL3.out) hb4)
      clear CL3
      have CO4 := Lib.hid (Kd.C_below (CO3.out) hb4)
      clear CO3
      have BX4 := Lib.hid (blk_below (BX3.out) hb4)
      clear BX3
      clear ck
      have ck := box_cell BX4.out
      clear HB3 hb4
      go_wp2_with fail
      refine (wire_Prefix A c l _ CL4.out hsz.out).mono ?_
      rw [Hpx.out]
      rintro e w5 ⟨rfl, hb5⟩
      have HB5 := Lib.hid (below_step (HB4.out) hb5)
      have CL5 := Lib.hid (Kd.C_below (CL4.out) hb5)
      clear CL4
      have CO5 := Lib.hid (Kd.C_below (CO4.out) hb5)
      clear CO4
      have BX5 := Lib.hid (blk_below (BX4.out) hb5)
      clear BX4
      clear ck
      have ck := box_cell BX5.out
      clear HB4 hb5
      go_upto_region 9 with fail
      go_region_held3 (fun W => W.cell? ⟨w.heap.size, 0, none⟩ = some (.slice A l.length c)) (first | exact ck | exact cq1 | exact cq2)
        (first
          | (go_at_call 28; refine (oilcakelaw11_orders.calls (bs.length + 1) A c l A1 c1 bs 250 o _ (Kd.C_below CL5.out ((Below.refl _ _).drew)) hc (Kd.C_below CO5.out ((Below.refl _ _).drew)) hco Ho1.out).mono ?_; rintro e wa ⟨va, rfl, hRa, hba⟩; obtain ⟨Aa, ca, rfl, hca, hCa⟩ := Kd.R_reads hRa; have hBa := below_step ((Below.refl w5.heap.size w5).drew) hba; have cq1 := box_cell (blk_below BX5.out hBa); have HCa := Lib.hid hCa; have HBa := Lib.hid hBa; clear hRa hCa hba hBa)
          | (go_at_call 35; refine (oilcakeref11_Message.calls 1000 A c l Aa ca o t true _ (Kd.C_below CL5.out HBa.out) hc HCa.out hca Hmf2.out).mono ?_; rintro e wm ⟨rfl, hbm⟩; have hBm := below_step HBa.out hbm; have cq2 := box_cell (blk_below BX5.out hBm); have HBm := Lib.hid hBm; clear hbm hBm))
      obtain ⟨w6, hwm⟩ : ∃ x, x = wm := ⟨_, rfl⟩
      rw [← hwm]
      have hb6 := HBm.out
      rw [← hwm] at hb6
      clear hwm HBm cq2 cq1 HCa HBa
      have HB6 := Lib.hid (below_step (HB5.out) hb6)
      have CL6 := Lib.hid (Kd.C_below (CL5.out) hb6)
      clear CL5
      have CO6 := Lib.hid (Kd.C_below (CO5.out) hb6)
      clear CO5
      have BX6 := Lib.hid (blk_below (BX5.out) hb6)
      clear BX5
      clear ck
      have ck := box_cell BX6.out
      clear HB5 hb6
      go_wp2_with fail
      refine (wire_Count A c l t _ CL6.out hsz.out (by omega)).mono ?_
      rw [Hct.out]
      rintro e w7 ⟨rfl, hb7⟩
      have HB7 := Lib.hid (below_step (HB6.out) hb7)
      have CL7 := Lib.hid (Kd.C_below (CL6.out) hb7)
      clear CL6
      have CO7 := Lib.hid (Kd.C_below (CO6.out) hb7)
      clear CO6
      have BX7 := Lib.hid (blk_below (BX6.out) hb7)
      clear BX6
      clear ck
      have ck := box_cell BX7.out
      clear HB6 hb7
      go_wp2
      go_ret
      exact ⟨rfl, HB7.out⟩
    · have hpx : prefixR l = (true, 0) := by unfold prefixR; rw [if_pos Hcode.out, hfb]
      have Hpx := Lib.hid hpx
      clear hpx hfb
      go_wp2_with fail
      refine (wire_Unique A c l _ CL2.out hsz.out).mono ?_
      rintro e w3 ⟨b3, n3, rfl, hU3, hb3⟩
      have hu3 := unique_eq hU3
      rw [Hu.out] at hu3
      obtain ⟨hu0, hu1⟩ := Prod.mk.inj hu3
      clear hu3 hU3
      subst hu0 hu1
      have HB3 := Lib.hid (below_step (HB2.out) hb3)
      have CL3 := Lib.hid (Kd.C_below (CL2.out) hb3)
      clear CL2
      have CO3 := Lib.hid (Kd.C_below (CO2.out) hb3)
      clear CO2
      have BX3 := Lib.hid (blk_below (BX2.out) hb3)
      clear BX2
      clear ck
      have ck := box_cell BX3.out
      clear HB2 hb3
      go_wp2_with fail
      refine (wire_Double A c l _ CL3.out hsz.out).mono ?_
      rintro e w4 ⟨b4, n4, rfl, hU4, hb4⟩
      have hu4 := double_eq hU4
      rw [Hd.out] at hu4
      obtain ⟨hu0, hu1⟩ := Prod.mk.inj hu4
      have hsb := double_bound hU4
      clear hu4 hU4
      subst hu0 hu1
      have HB4 := Lib.hid (below_step (HB3.out) hb4)
      have CL4 := Lib.hid (Kd.C_below (CL3.out) hb4)
      clear CL3
      have CO4 := Lib.hid (Kd.C_below (CO3.out) hb4)
      clear CO3
      have BX4 := Lib.hid (blk_below (BX3.out) hb4)
      clear BX3
      clear ck
      have ck := box_cell BX4.out
      clear HB3 hb4
      go_wp2_with fail
      refine (wire_Prefix A c l _ CL4.out hsz.out).mono ?_
      rw [Hpx.out]
      rintro e w5 ⟨rfl, hb5⟩
      have HB5 := Lib.hid (below_step (HB4.out) hb5)
      have CL5 := Lib.hid (Kd.C_below (CL4.out) hb5)
      clear CL4
      have CO5 := Lib.hid (Kd.C_below (CO4.out) hb5)
      clear CO4
      have BX5 := Lib.hid (blk_below (BX4.out) hb5)
      clear BX4
      clear ck
      have ck := box_cell BX5.out
      clear HB4 hb5
      go_upto_region 9 with fail
      go_region_held3 (fun W => W.cell? ⟨w.heap.size, 0, none⟩ = some (.slice A l.length c)) (first | exact ck | exact cq1 | exact cq2)
        (first
          | (go_at_call 28; refine (oilcakelaw11_orders.calls (bs.length + 1) A c l A1 c1 bs 250 o _ (Kd.C_below CL5.out ((Below.refl _ _).drew)) hc (Kd.C_below CO5.out ((Below.refl _ _).drew)) hco Ho1.out).mono ?_; rintro e wa ⟨va, rfl, hRa, hba⟩; obtain ⟨Aa, ca, rfl, hca, hCa⟩ := Kd.R_reads hRa; have hBa := below_step ((Below.refl w5.heap.size w5).drew) hba; have cq1 := box_cell (blk_below BX5.out hBa); have HCa := Lib.hid hCa; have HBa := Lib.hid hBa; clear hRa hCa hba hBa)
          | (go_at_call 35; refine (oilcakeref11_Message.calls 1000 A c l Aa ca o t true _ (Kd.C_below CL5.out HBa.out) hc HCa.out hca Hmf2.out).mono ?_; rintro e wm ⟨rfl, hbm⟩; have hBm := below_step HBa.out hbm; have cq2 := box_cell (blk_below BX5.out hBm); have HBm := Lib.hid hBm; clear hbm hBm))
      obtain ⟨w6, hwm⟩ : ∃ x, x = wm := ⟨_, rfl⟩
      rw [← hwm]
      have hb6 := HBm.out
      rw [← hwm] at hb6
      clear hwm HBm cq2 cq1 HCa HBa
      have HB6 := Lib.hid (below_step (HB5.out) hb6)
      have CL6 := Lib.hid (Kd.C_below (CL5.out) hb6)
      clear CL5
      have CO6 := Lib.hid (Kd.C_below (CO5.out) hb6)
      clear CO5
      have BX6 := Lib.hid (blk_below (BX5.out) hb6)
      clear BX5
      clear ck
      have ck := box_cell BX6.out
      clear HB5 hb6
      go_wp2_with fail
      refine (wire_Count A c l t _ CL6.out hsz.out (by omega)).mono ?_
      rw [Hct.out]
      rintro e w7 ⟨rfl, hb7⟩
      have HB7 := Lib.hid (below_step (HB6.out) hb7)
      have CL7 := Lib.hid (Kd.C_below (CL6.out) hb7)
      clear CL6
      have CO7 := Lib.hid (Kd.C_below (CO6.out) hb7)
      clear CO6
      have BX7 := Lib.hid (blk_below (BX6.out) hb7)
      clear BX6
      clear ck
      have ck := box_cell BX7.out
      clear HB6 hb7
      go_wp2
      go_ret
      exact ⟨rfl, HB7.out⟩
end Go.Proofs.YtfnibmcenjiodaaGreatDoor.L
