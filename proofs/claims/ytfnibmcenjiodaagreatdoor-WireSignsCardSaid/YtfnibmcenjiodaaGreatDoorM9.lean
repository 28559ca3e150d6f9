/- Walks of the counter's maker, of wire.given, wire.Count. No statement of the seat is proved here. -/
import Derived.Test.YtfnibmcenjiodaaGreatDoorM8
import Derived.Maps.Own
namespace Go.Proofs.YtfnibmcenjiodaaGreatDoor.M
open Go.Sort Go.Shelf Go.RowKit Go.Proofs.YtfnibmcenjiodaaGreatDoorW.PrintWords Go.Proofs.YtfnibmcenjiodaaGreatDoorW.PrintLast Go.Proofs.YtfnibmcenjiodaaGreatDoorW.PrintMore
attribute [local go_sem] Oper.semAt_some

theorem push_set (a : Array Obj) (o o' : Obj) : (a.push o).setIfInBounds a.size o' = a.push o' := by
  apply Array.ext_getElem?
  intro i
  rw [Array.getElem?_setIfInBounds, Array.getElem?_push, Array.getElem?_push]
  by_cases h : a.size = i
  · subst h; simp
  · rw [if_neg h, if_neg (Ne.symm h), if_neg (Ne.symm h)]
theorem putObj_alloc (W : World) (o o' : Obj) : (W.alloc o).putObj W.heap.size o' = W.alloc o' := by
  show ({ W with heap := (W.heap.push o).setIfInBounds W.heap.size o' } : World) = { W with heap := W.heap.push o' }
  rw [push_set]
theorem run_insert_first {P : Program} {T K E : TypeId} (hT : P.underlying T = some (.map K E)) (hK : P.underlying K = some .string) (W : World) (s : ByteArray) (v : Value) :
    (Instr.mapUpdate T (.map (some W.heap.size)) (.string s) v).run P (W.alloc (.map #[] 0)) = .ok () (W.alloc (.map #[{ key := .string s, val := v, born := 0 }] 1)) := by
  have hm : (W.alloc (.map #[] 0)).heap[W.heap.size]? = some (.map #[] 0) := blk_new W _
  unfold Instr.mapUpdate
  simp only [Sem.run_bind, run_underlying hT, Result.andThen, getObj_map hm, run_checkKey_str hK]
  rw [show (Instr.findKey K (.string s) (#[] : Array MapEntry).toList).run P (W.alloc (.map #[] 0)) = .ok none (W.alloc (.map #[] 0)) from by simp [Instr.findKey, run_underlying hK, Result.andThen, Instr.findNow]]
  simp only [setObj_map _ hm]
  rw [putObj_alloc]
  rfl
set_option maxRecDepth 100000 in
set_option maxHeartbeats 1000000 in
theorem counter_calls (A : Option Addr) (c : Nat) (ws : List ByteArray) (w : World) (hC : Kd.C Kd.string w A ws.length ws) (hw : ∀ x ∈ ws, 1 ≤ x.size) :
    Calls Tryz.prog 69 #[.agg #[.slice A ws.length c]] w fun e w' => e = .returned (.func (.func 116) #[] #[.pointer (some ⟨w.heap.size + 1 + 1, 0, none⟩), .pointer (some ⟨w.heap.size, 0, none⟩), .pointer (some ⟨w.heap.size + 1 + 1 + 1, 0, none⟩)]) ∧
      Made ws A c (w.heap.size + 1 + 1) w.heap.size (w.heap.size + 1 + 1 + 1) (w.heap.size + 1) w' ∧ MapOk ws (w.heap.size + 1) w' ∧ Below w.heap.size w w' := by
  have hmm := @run_makeMap Tryz.prog
  have hins := run_insert_first (P := Tryz.prog) (T := 205) Tryz.underlying205 Tryz.underlying9 (w.alloc (.cells #[.slice A ws.length c] 126)) ⟨#[]⟩ (.int .i64 1)
  rw [World.size_alloc] at hins
  go_enter Tryz.func69, Tryz.ntmps69
  go_wp2
  go_ret
  have hm := blk_alloc (blk_alloc (blk_new1 w (.cells #[.slice A ws.length c] 126) (.map #[{ key := .string ⟨#[]⟩, val := .int .i64 1, born := 0 }] 1)) (.cells #[.map (some (w.heap.size + 1))] 205))
    (.cells #[.func (.func 116) #[] #[.pointer (some ⟨w.heap.size + 1 + 1, 0, none⟩), .pointer (some ⟨w.heap.size, 0, none⟩), .pointer (some ⟨w.heap.size + 1 + 1 + 1, 0, none⟩)]] 129)
  refine ⟨rfl, ⟨hw, blk_alloc (blk_new2 w _ _ _) _, blk_alloc (blk_alloc (blk_alloc (blk_new w _) _) _) _, ?_, Kd.C_alloc (Kd.C_alloc (Kd.C_alloc (Kd.C_alloc hC _) _) _) _, ?_⟩, ?_, below_alloc (below_alloc (below2 _ _ _) _) _⟩
  · have := blk_new2 (w.alloc (.cells #[.slice A ws.length c] 126)) (.map #[{ key := .string ⟨#[]⟩, val := .int .i64 1, born := 0 }] 1) (.cells #[.map (some (w.heap.size + 1))] 205) (.cells #[.func (.func 116) #[] #[.pointer (some ⟨w.heap.size + 1 + 1, 0, none⟩), .pointer (some ⟨w.heap.size, 0, none⟩), .pointer (some ⟨w.heap.size + 1 + 1 + 1, 0, none⟩)]] 129)
    rwa [World.size_alloc] at this
  · exact ⟨_, _, hm⟩
  · refine ⟨_, _, hm, ?_, ?_, ?_⟩
    · intro e he; simp at he; subst he; exact ⟨_, rfl⟩
    · intro e he s hs; simp at he; subst he; cases hs; rfl
    · exact ⟨{ key := .string ⟨#[]⟩, val := .int .i64 1, born := 0 }, by simp, rfl⟩

/-- The error of a code and of signs. -/
def givenE (l : List ByteArray) (s : ByteArray) : Int := if codeOk l then (if 250 < s.size then 112 else if isSigns s then 0 else 112) else 110
set_option maxHeartbeats 1000000 in
theorem given_calls (A : Option Addr) (c : Nat) (l : List ByteArray) (s : ByteArray) (w : World) (hr : Kd.C Kd.string w A l.length l) (hsz : ∀ x ∈ l, x.size ≤ 9223372036854775807) (hs : s.size ≤ 9223372036854775807) :
    Calls Tryz.prog 68 #[.agg #[.slice A l.length c], .string s] w fun e w' => ∃ v, e = .returned (.tuple #[.agg #[v], .int .i64 (givenE l s)]) ∧ (givenE l s = 0 → v = .slice A l.length c) ∧ (∃ A n c, v = .slice A n c) ∧ Below w.heap.size w w' := by
  go_enter Tryz.func68, Tryz.ntmps68
  go_wp2_with fail
  refine (wire_Check A c l _ (Kd.C_alloc (Kd.C_alloc hr _) _) hsz).mono ?_
  rintro e w1 ⟨rfl, hb⟩
  have HX := Lib.hid (blk_below (blk_alloc (blk_new w (.cells #[.slice A l.length c] 24)) (.cells #[.slice none 0 0] 126)) hb)
  have HY := Lib.hid (blk_below (blk_new1 w (.cells #[.slice A l.length c] 24) (.cells #[.slice none 0 0] 126)) hb)
  have HB := Lib.hid (below_step (below2 w (.cells #[.slice A l.length c] 24) (.cells #[.slice none 0 0] 126)) hb)
  have hcx := box_cell HX.out
  have hcy := box_cell HY.out
  have hfy := box_free HY.out
  have hlt := blk_lt HY.out
  clear hb hr
  cases hok : codeOk l
  · have hE : checkE l = 110 := by simp [checkE, hok]
    rw [hE]
    clear hE
    go_wp2
    refine bodyPost_ret (v := .tuple #[.agg #[.slice none 0 0], .int .i64 110]) (by simp [results, Tryz.results68, go_sem, hcy]) rfl ?_
    exact ⟨.slice none 0 0, by simp [givenE, hok], by simp [givenE, hok], ⟨_, _, _, rfl⟩, HB.out.setCell (by simp) _⟩
  have hE : checkE l = 0 := by simp [checkE, hok]
  rw [hE]
  clear hE
  by_cases hbig : 250 < s.size
  · go_wp2
    refine bodyPost_ret (v := .tuple #[.agg #[.slice none 0 0], .int .i64 112]) (by simp [results, Tryz.results68, go_sem, hcy]) rfl ?_
    exact ⟨.slice none 0 0, by simp [givenE, hok, hbig], by simp [givenE, hok, hbig], ⟨_, _, _, rfl⟩, HB.out.setCell (by simp) _⟩
  have hbg : decide (250 < s.size) = false := by simpa using hbig
  go_wp2_with fail
  refine (wire_signs s w1 hs).mono ?_
  rintro e w2 ⟨rfl, hb2⟩
  have hcx2 := pw_cell_below hb2 hcx
  have HY2 := Lib.hid (blk_below HY.out hb2)
  have hcy2 := box_cell HY2.out
  have hfy2 := box_free HY2.out
  have HB2 := Lib.hid (below_step HB.out hb2)
  have hlt2 := blk_lt HY2.out
  clear hb2 hcx hcy hfy hlt
  cases hsg : isSigns s
  · go_wp2
    refine bodyPost_ret (v := .tuple #[.agg #[.slice none 0 0], .int .i64 112]) (by simp [results, Tryz.results68, go_sem, hcy2]) rfl ?_
    exact ⟨.slice none 0 0, by simp [givenE, hok, hsg], by simp [givenE, hok, hsg], ⟨_, _, _, rfl⟩, HB2.out.setCell (by simp) _⟩
  · go_wp2
    refine bodyPost_ret (v := .tuple #[.agg #[.slice A l.length c], .int .i64 0]) (by simp [results, Tryz.results68, go_sem, hcy2]) rfl ?_
    exact ⟨_, by simp [givenE, hok, hsg, hbig], fun _ => rfl, ⟨_, _, _, rfl⟩, HB2.out.setCell (by simp) _⟩

def countR (l : List ByteArray) (s : ByteArray) : Int × Int :=
  if givenE l s = 0 then (if 1000000 < waysV l s then (0, 4) else (waysV l s, 0)) else (0, givenE l s)
theorem givenE_ok {l : List ByteArray} {s : ByteArray} (h : givenE l s = 0) : codeOk l = true := by
  unfold givenE at h
  cases hok : codeOk l
  · rw [hok] at h; simp at h
  · rfl
theorem givenE_cases (l : List ByteArray) (s : ByteArray) : givenE l s = 0 ∨ givenE l s = 110 ∨ givenE l s = 112 := by
  unfold givenE; split
  · split
    · simp
    · split <;> simp
  · simp
set_option maxHeartbeats 1000000 in
theorem wire_Count (A : Option Addr) (c : Nat) (l : List ByteArray) (s : ByteArray) (w : World) (hr : Kd.C Kd.string w A l.length l) (hsz : ∀ x ∈ l, x.size ≤ 9223372036854775807) (hs : s.size ≤ 9223372036854775807) :
    Calls Tryz.prog 18 #[.agg #[.slice A l.length c], .string s] w fun e w' => e = .returned (.tuple #[.int .i64 (countR l s).1, .int .i64 (countR l s).2]) ∧ Below w.heap.size w w' := by
  go_enter Tryz.func18, Tryz.ntmps18
  go_wp2_with fail
  refine (given_calls A c l s _ (Kd.C_alloc hr _) hsz hs).mono ?_
  rintro e w1 ⟨v, rfl, hv, ⟨A', n', c', rfl⟩, hb⟩
  have HB := Lib.hid (below_step (below1 w _) hb)
  have HR := Lib.hid (Kd.C_below hr HB.out)
  clear hb hr
  rcases givenE_cases l s with hg | hg | hg
  · have hv' := hv hg
    simp only [Value.slice.injEq] at hv'
    obtain ⟨h1, h2, h3⟩ := hv'
    subst A' n' c'
    have hw := Lib.hid (fun x hx => (codeOk_words (givenE_ok hg) x hx).1)
    have HG := Lib.hid hg
    rw [hg]
    clear hv hg
    go_wp2_with fail
    refine (counter_calls A c l _ (Kd.C_alloc HR.out _) hw.out).mono ?_
    rintro e w2 ⟨rfl, hM, hMap, hb2⟩
    simp only [World.size_alloc] at hM hMap
    go_wp2_with fail
    refine (count_calls hM (s.size + 1) s w2 (by omega) (Keep.refl _ _ _) hMap).mono ?_
    rintro e w3 ⟨rfl, hk3, hm3⟩
    have HB3 : Hid (Below w.heap.size w w3) := Lib.hid (by
      have h1 : Below w.heap.size w w2 := below_step (below_alloc HB.out _) hb2
      have h2 := HB.out.size
      exact h1.trans (hk3.lose h1.size (fun k e => by cases e; omega)))
    clear hM hMap hb2 hk3 hm3
    by_cases hbig : 1000000 < waysV l s
    · go_wp2
      go_ret2
      exact ⟨by simp [countR, HG.out, hbig], HB3.out⟩
    · have hR : Hid (countR l s = (waysV l s, 0)) := Lib.hid (by unfold countR; rw [if_pos HG.out, if_neg hbig])
      go_wp2
      go_ret2
      exact ⟨by rw [hR.out]; rfl, HB3.out⟩
  all_goals
    have HG := Lib.hid hg
    rw [hg]
    clear hv hg
    go_wp2
    go_ret2
    exact ⟨by simp [countR, HG.out], below_alloc HB.out _⟩
end Go.Proofs.YtfnibmcenjiodaaGreatDoor.M
