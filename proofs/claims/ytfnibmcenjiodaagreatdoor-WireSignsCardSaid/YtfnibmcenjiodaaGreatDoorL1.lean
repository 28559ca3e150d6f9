/- Walk of the statement WireSigns' own function. -/
import Derived.Test.YtfnibmcenjiodaaGreatDoorN3
import Derived.Test.YtfnibmcenjiodaaGreatDoorR4
namespace Go.Proofs.YtfnibmcenjiodaaGreatDoor.L
open Go.Sort Go.Shelf Go.RowKit Go.Proofs.YtfnibmcenjiodaaGreatDoorW.PrintWords Go.Proofs.YtfnibmcenjiodaaGreatDoorW.PrintLast Go.Proofs.YtfnibmcenjiodaaGreatDoorW.PrintMore
open Go.Proofs.YtfnibmcenjiodaaGreatDoor.M Go.Proofs.YtfnibmcenjiodaaGreatDoor.R Go.Proofs.YtfnibmcenjiodaaGreatDoor.N
attribute [local go_sem] Oper.semAt_some

theorem great_no {l : List ByteArray} (h : greatB l = false) : l.length ≤ 12 ∧ ∀ x ∈ l, x.size ≤ 12 := by
  unfold greatB at h
  rw [Bool.or_eq_false_iff] at h
  refine ⟨by simpa using h.1, fun x hx => ?_⟩
  have := List.any_eq_false.1 h.2 x hx
  simpa using this

set_option maxRecDepth 100000 in
set_option maxHeartbeats 8000000 in
theorem wireSigns_calls (A : Option Addr) (c : Nat) (l : List ByteArray) (A1 : Option Addr) (c1 : Nat) (o : List Int) (s : ByteArray) (w : World) (hr : Kd.C Kd.string w A l.length l) (hc : l.length ≤ c) (hro : Kd.C (Kd.int .i64) w A1 o.length o) (hco : o.length ≤ c1)
    (hov : ∀ z ∈ o, -9223372036854775808 ≤ z ∧ z ≤ 9223372036854775807) (hs : s.size ≤ 9223372036854775807) :
    Calls Tryz.prog 3 #[.agg #[.slice A l.length c], .slice A1 o.length c1, .string s] w fun e w' => e = .returned (.bool true) ∧ Below w.heap.size w w' := by
  have Hr := Lib.hid hr
  have Hro := Lib.hid hro
  have Hhov := Lib.hid hov
  have hHg := great_f l 20 (by omega)
  clear hr hro hov
  go_enter Tryz.func3, Tryz.ntmps3
  go_wp2_with fail
  refine (oilcakeref11_Great.calls 20 A c l (greatB l) _ (Kd.C_alloc Hr.out _) hc hHg).mono ?_
  rintro e w1 ⟨rfl, hb1⟩
  have hbox1 := blk_below (blk_new w (.cells #[.slice A l.length c] 24)) hb1
  have HB1 := Lib.hid (below_step (below1 w _) hb1)
  have hcb1 := box_cell hbox1
  have hlb1 := blk_lt hbox1
  clear hHg hb1
  cases hg : greatB l
  rotate_left
  · go_wp2
    go_ret
    exact ⟨rfl, HB1.out⟩
  by_cases ho3 : 300 < o.length
  · have hd : decide ((300 : Int) < (o.length : Int)) = true := by simp; omega
    have hd' : decide (300 < o.length) = true := by simp; omega
    go_wp2
    go_ret
    exact ⟨rfl, HB1.out⟩
  have hd : decide ((300 : Int) < (o.length : Int)) = false := by simp; omega
  have hd' : decide (300 < o.length) = false := by simp; omega
  by_cases hs3 : 300 < s.size
  · have he : decide ((300 : Int) < (s.size : Int)) = true := by simp; omega
    have he' : decide (300 < s.size) = true := by simp; omega
    go_wp2
    go_ret
    exact ⟨rfl, HB1.out⟩
  have he : decide ((300 : Int) < (s.size : Int)) = false := by simp; omega
  have he' : decide (300 < s.size) = false := by simp; omega
  obtain ⟨hl12, hw12⟩ := great_no hg
  have Hbox1 := Lib.hid hbox1
  have HC1 := Lib.hid (Kd.C_below Hr.out HB1.out)
  have Htw := Lib.hid (twin_f l (by omega))
  go_wp2_with fail
  refine (oilcakelaw11_twin.calls A c l l _ HC1.out hc Htw.out).mono ?_
  rintro e w2 ⟨v0, rfl, hR2, hb2⟩
  have hcb2 := box_cell (blk_below Hbox1.out hb2)
  have hlb2 := Nat.lt_of_lt_of_le hlb1 hb2.size
  have HB2 := Lib.hid (below_step HB1.out hb2)
  have Hbox2 := Lib.hid (blk_below Hbox1.out hb2)
  obtain ⟨A2, c2, rfl, hc2, hC2⟩ := Kd.R_reads hR2
  have HC2 := Lib.hid hC2
  clear hR2 hb2 hC2 hcb1 hlb1
  go_wp2_with (first
    | ((with_reducible refine gate_dst (N := 39) rfl ?_); refine Kd.R_lit (Kd.int .i64) (w0 := w2) w2.heap.size 3 ?hg (N := 39) ?hd (xs := ([] : List Int)) (inner := []) (ok := fun _ => True) (okp := fun _ => True) ?hr ?hp (fun _ hk => hk) trivial (Below.refl _ _) (Nat.le_refl _) (by simp) ?_; (case hd => rfl); (case hg => rfl); (case hr => first | (go_simp; done) | (go_simp; rfl)); (case hp => exact (Reps.none _ _)); intro v39 w3 hR3 hb3 _ _; have HR3 := Lib.hid hR3; have HBb3 := Lib.hid hb3; clear hR3 hb3)
    | ((with_reducible refine gate_builtin (b := .append) (xs := #[.tmp 39, .tmp 40]) rfl ?_); at_builtin; refine Kd.R_append_row (Value.int .i64) (0 : Int) (w0 := w2) w2.heap.size rfl (.tmp 39) (.tmp 40) 25 3 (.int .i64 0) 8 rfl Tryz.underlying25 M.info3 rfl (by decide) v39 [] o _ _ _ (fun _ => True) rfl rfl (fun _ _ => trivial) HR3.out ?hC HBb3.out (HBb3.out.size) ?hl ?_; (case hC => exact Kd.C_below Hro.out (HB2.out.trans (HBb3.out.mono HB2.out.size))); (case hl => simp only [List.length_nil]; omega); intro v41 w4 hR4 hb4 hg4 _; clear HR3 hg4; obtain ⟨A3, c3, rfl, hc3, hC3⟩ := Kd.R_reads hR4; clear hR4; simp only [List.nil_append] at hc3 hC3; have HC3 := Lib.hid hC3; clear hC3; have HBb4 := Lib.hid hb4; clear hb4 HBb3; have hcb4 := box_cell (blk_below Hbox2.out HBb4.out); have hlb4 := Nat.lt_of_lt_of_le hlb2 HBb4.out.size; have HB4 := Lib.hid (below_step HB2.out HBb4.out); have HCl4 := Lib.hid (Kd.C_below HC2.out HBb4.out)))
  have hHg := hg
  have HC4 := Lib.hid (Kd.C_below Hr.out HB4.out)
  have HCo4 := Lib.hid (Kd.C_below Hro.out HB4.out)
  have Hb3 := Lib.hid (blk_below Hbox2.out HBb4.out)
  obtain ⟨wS, hwS⟩ : ∃ wS, wS = w4.alloc (.cells #[.slice A2 l.length c2] 24) := ⟨_, rfl⟩
  have HBS : Hid (Below w.heap.size w wS) := Lib.hid (by rw [hwS]; exact below_alloc HB4.out _)
  have HS3 : Hid (wS.heap[w.heap.size]? = some (.cells #[.slice A l.length c] 24 (0, 0))) := Lib.hid (by rw [hwS]; exact blk_alloc Hb3.out _)
  have HS7 : Hid (wS.heap[w4.heap.size]? = some (.cells #[.slice A2 l.length c2] 24 (0, 0))) := Lib.hid (by rw [hwS]; exact blk_new w4 _)
  have HSl : Hid (Kd.C Kd.string wS A l.length l) := Lib.hid (by rw [hwS]; exact Kd.C_alloc HC4.out _)
  have HSl2 : Hid (Kd.C Kd.string wS A2 l.length l) := Lib.hid (by rw [hwS]; exact Kd.C_alloc HCl4.out _)
  have HSo : Hid (Kd.C (Kd.int .i64) wS A1 o.length o) := Lib.hid (by rw [hwS]; exact Kd.C_alloc HCo4.out _)
  have HSo3 : Hid (Kd.C (Kd.int .i64) wS A3 o.length o) := Lib.hid (by rw [hwS]; exact Kd.C_alloc HC3.out _)
  have hsS : w4.heap.size < wS.heap.size := blk_lt HS7.out
  have hl3 : w.heap.size < wS.heap.size := blk_lt HS3.out
  have hszw : Hid (∀ x ∈ l, x.size ≤ 9223372036854775807) := Lib.hid (fun x hx => by have := hw12 x hx; omega)
  have HW12 := Lib.hid hw12
  rw [← hwS]
  clear hwS HBb4 HB4 HCl4 HC3 HC2 Hbox2 HB2 HC1 Hbox1 HB1 hbox1 hcb2 hcb4 hlb2 hlb4 hw12 Htw HC4 HCo4 Hb3
  -- 1: Send
  refine (wire_Send A2 c2 l A3 c3 o wS HSl2.out hszw.out HSo3.out).mono ?_
  rintro e w5 ⟨rfl, hb5⟩
  have HB5 := Lib.hid hb5
  have h53 := box_cell (blk_below HS3.out hb5)
  have h5s := hb5.size
  clear hb5
  obtain ⟨sa, hsa⟩ : ∃ sa, sa = sendR l o := ⟨_, rfl⟩
  rw [← hsa]
  have Hsa := Lib.hid hsa
  clear hsa
  obtain ⟨sa1, sa2⟩ := sa
  have Hk5 : Hid (oilcakeref11_Send.f 2000 l o = some (sa1, sa2)) := Lib.hid (by rw [Hsa.out]; exact send_f l hl12 HW12.out o (by omega) Hhov.out 2000 (by omega))
  have h57 := box_cell (blk_below HS7.out HB5.out)
  -- 2: the reference's Send
  go_wp2_with fail
  refine (oilcakeref11_Send.calls 2000 A c l A1 c1 o sa1 sa2 w5 (Kd.C_below HSl.out HB5.out) hc (Kd.C_below HSo.out HB5.out) hco Hk5.out).mono ?_
  rintro e w6 ⟨rfl, hb6⟩
  have HB6 := Lib.hid (below_step HB5.out hb6)
  have h63 := box_cell (blk_below HS3.out HB6.out)
  have h67 := box_cell (blk_below HS7.out HB6.out)
  have h6s := HB6.out.size
  clear hb6 h53 h57
  clear Hk5
  -- 3: Count
  go_wp2_with fail
  refine (wire_Count A2 c2 l s w6 (Kd.C_below HSl2.out HB6.out) hszw.out hs).mono ?_
  rintro e w7 ⟨rfl, hb7⟩
  have HB7 := Lib.hid (below_step HB6.out hb7)
  have h73 := box_cell (blk_below HS3.out HB7.out)
  have h77 := box_cell (blk_below HS7.out HB7.out)
  have h7s := HB7.out.size
  clear hb7 h63 h67
  obtain ⟨sb, hsb⟩ : ∃ sb, sb = countR l s := ⟨_, rfl⟩
  rw [← hsb]
  have Hsb := Lib.hid hsb
  clear hsb
  obtain ⟨sb1, sb2⟩ := sb
  have Hk7 : Hid (oilcakeref11_Count.f 10000 l s = some (sb1, sb2)) := Lib.hid (by rw [Hsb.out]; exact count_f l hl12 HW12.out s (by omega) 10000 (by omega))
  -- 4: the reference's Count
  go_wp2_with fail
  refine (oilcakeref11_Count.calls 10000 A c l s sb1 sb2 w7 (Kd.C_below HSl.out HB7.out) hc Hk7.out).mono ?_
  rintro e w8 ⟨rfl, hb8⟩
  have HB8 := Lib.hid (below_step HB7.out hb8)
  have h83 := box_cell (blk_below HS3.out HB8.out)
  have h87 := box_cell (blk_below HS7.out HB8.out)
  have h8s := HB8.out.size
  clear hb8 h73 h77
  clear Hk7
  -- 5: Read
  go_wp2_with fail
  refine (wire_Read A2 c2 l s w8 (Kd.C_below HSl2.out HB8.out) hszw.out hs).mono ?_
  rintro e w9 ⟨v9, rfl, hown9, hb9⟩
  have HB9 := Lib.hid (below_step HB8.out hb9)
  have h93 := box_cell (blk_below HS3.out HB9.out)
  have h97 := box_cell (blk_below HS7.out HB9.out)
  have h9s := HB9.out.size
  clear hb9 h83 h87
  obtain ⟨sc, hsc⟩ : ∃ sc, sc = readR l s := ⟨_, rfl⟩
  rw [← hsc] at hown9 ⊢
  have Hsc := Lib.hid hsc
  clear hsc
  obtain ⟨sc1, sc2⟩ := sc
  have Hk9 : Hid (oilcakeref11_Read.f 10000 l s = some (sc1, sc2)) := Lib.hid (by rw [Hsc.out]; exact read_f l hl12 HW12.out s (by omega) 10000 (by omega))
  have hR9 : (Kd.int .i64).R 3 w9 w8.heap.size (fun _ => True) v9 sc1 := Kd.R_of_own hown9 (fun _ _ => trivial)
  obtain ⟨A9, c9, rfl, hc9, hC9⟩ := Kd.R_reads hR9
  have HC9 := Lib.hid hC9
  clear hown9 hR9 hC9
  -- 6: the reference's Read
  go_wp2_with fail
  refine (oilcakeref11_Read.calls 10000 A c l s sc1 sc2 w9 (Kd.C_below HSl.out HB9.out) hc Hk9.out).mono ?_
  rintro e w10 ⟨v10, rfl, hR10, hb10⟩
  have HC9' := Lib.hid (Kd.C_below HC9.out hb10)
  have HB10 := Lib.hid (below_step HB9.out hb10)
  have h103 := box_cell (blk_below HS3.out HB10.out)
  have h107 := box_cell (blk_below HS7.out HB10.out)
  have h10s := HB10.out.size
  clear hb10 h93 h97
  obtain ⟨A10, c10, rfl, hc10, hC10⟩ := Kd.R_reads hR10
  have HC10 := Lib.hid hC10
  clear hR10 hC10 Hk9 HC9
  -- 7: Mend
  go_wp2_with fail
  refine (wire_Mend A2 c2 l s w10 (Kd.C_below HSl2.out HB10.out) hszw.out hs).mono ?_
  rintro e w11 ⟨v11, rfl, hown11, hb11⟩
  have HC9 := Lib.hid (Kd.C_below HC9'.out hb11)
  have HC10' := Lib.hid (Kd.C_below HC10.out hb11)
  have HB11 := Lib.hid (below_step HB10.out hb11)
  have h113 := box_cell (blk_below HS3.out HB11.out)
  have h117 := box_cell (blk_below HS7.out HB11.out)
  have h11s := HB11.out.size
  clear hb11 h103 h107
  obtain ⟨sd, hsd⟩ : ∃ sd, sd = mendR l s := ⟨_, rfl⟩
  rw [← hsd] at hown11 ⊢
  have Hsd := Lib.hid hsd
  clear hsd HC9' HC10
  obtain ⟨sd1, sd2⟩ := sd
  have Hk11 : Hid (oilcakeref11_Mend.f 3000000 l s = some (sd1, sd2)) := Lib.hid (by rw [Hsd.out]; exact mend_f l hl12 HW12.out s (by omega) 3000000 (by omega))
  have hR11 : Kd.string.R 9 w11 w10.heap.size (fun _ => True) v11 sd1 := Kd.R_of_own hown11 (fun _ _ => trivial)
  obtain ⟨A11, c11, rfl, hc11, hC11⟩ := Kd.R_reads hR11
  have HC11 := Lib.hid hC11
  clear hown11 hR11 hC11
  -- 8: the reference's Mend
  go_wp2_with fail
  refine (oilcakeref11_Mend.calls 3000000 A c l s sd1 sd2 w11 (Kd.C_below HSl.out HB11.out) hc Hk11.out).mono ?_
  rintro e w12 ⟨v12, rfl, hR12, hb12⟩
  have HC9' := Lib.hid (Kd.C_below HC9.out hb12)
  have HC10 := Lib.hid (Kd.C_below HC10'.out hb12)
  have HC11' := Lib.hid (Kd.C_below HC11.out hb12)
  have HB12 := Lib.hid (below_step HB11.out hb12)
  have h123 := box_cell (blk_below HS3.out HB12.out)
  have h127 := box_cell (blk_below HS7.out HB12.out)
  have h12s := HB12.out.size
  clear hb12 h113 h117
  obtain ⟨A12, c12, rfl, hc12, hC12⟩ := Kd.R_reads hR12
  have HC12 := Lib.hid hC12
  clear hR12 hC12 Hk11 HC9 HC10' HC11
  go_wp2_with fail
  have m9 := Kd.C_max HC9'.out
  have m11 := Kd.C_max HC11'.out
  refine (oilcakeref01_SameInts.calls (sc1.length + 1) A9 c9 sc1 A10 c10 sc1 true w12 HC9'.out hc9 HC10.out hc10 (sameInts_f sc1 m9 _ (Nat.lt_succ_self _))).mono ?_
  rintro e w13 ⟨rfl, hb13⟩
  have HB13 := Lib.hid (below_step HB12.out hb13.below)
  have h133 := box_cell (blk_below HS3.out HB13.out)
  have h137 := box_cell (blk_below HS7.out HB13.out)
  have h13s := HB13.out.size
  have HC11 := Lib.hid (Kd.C_below HC11'.out hb13.below)
  have HC12' := Lib.hid (Kd.C_below HC12.out hb13.below)
  clear hb13 h123 h127 HC9' HC10 HC12 HC11'
  go_wp2_with fail
  refine (oilcakeref11_SameTexts.calls (sd1.length + 1) A11 c11 sd1 A12 c12 sd1 true w13 HC11.out hc11 HC12'.out hc12 (sameTexts_f sd1 m11 _ (Nat.lt_succ_self _))).mono ?_
  rintro e w14 ⟨rfl, hb14⟩
  have HB14 := Lib.hid (below_step HB13.out hb14.below)
  have h143 := box_cell (blk_below HS3.out HB14.out)
  have h147 := box_cell (blk_below HS7.out HB14.out)
  have h14s := HB14.out.size
  clear hb14 h133 h137 HC11 HC12'
  go_wp2_with fail
  refine (oilcakeref11_SameTexts.calls (l.length + 1) A2 c2 l A c l true w14 (Kd.C_below HSl2.out HB14.out) hc2 (Kd.C_below HSl.out HB14.out) hc (sameTexts_f l (by omega) _ (Nat.lt_succ_self _))).mono ?_
  rintro e w15 ⟨rfl, hb15⟩
  have HB15 := Lib.hid (below_step HB14.out hb15.below)
  clear hb15 h143 h147
  go_wp2_with fail
  refine (oilcakeref01_SameInts.calls (o.length + 1) A3 c3 o A1 c1 o true w15 (Kd.C_below HSo3.out HB15.out) hc3 (Kd.C_below HSo.out HB15.out) hco (sameInts_f o (by omega) _ (Nat.lt_succ_self _))).mono ?_
  rintro e w16 ⟨rfl, hb16⟩
  have HB16 : Hid (Below w.heap.size w w16) := Lib.hid (HBS.out.trans ((below_step HB15.out hb16.below).mono HBS.out.size))
  clear hb16
  go_wp2
  go_ret
  exact ⟨rfl, HB16.out⟩
end Go.Proofs.YtfnibmcenjiodaaGreatDoor.L
