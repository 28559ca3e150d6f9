/- Contracts and plain laws that the claim's card stands on (texts M26 N15 S2 N14 N2 G1 R4 N3 of the work, put together). No statement of the seat is proved here. -/
import Derived.Deep.QuietTactic
import Derived.BigQuiet
import Derived.Test.YtfnibmcenjiodaaGreatDoorQ11
import Derived.Test.YtfnibmcenjiodaaGreatDoorQ12
import Derived.Test.YtfnibmcenjiodaaGreatDoorQ13
import Derived.Test.YtfnibmcenjiodaaGreatDoorQ14
import Derived.Test.YtfnibmcenjiodaaGreatDoorQ15
import Derived.Test.YtfnibmcenjiodaaGreatDoorQ16
import Derived.Test.YtfnibmcenjiodaaGreatDoorQ17
import Derived.Test.YtfnibmcenjiodaaGreatDoorQ19
set_option linter.unusedVariables false
set_option linter.unusedSimpArgs false
namespace Go.Proofs.YtfnibmcenjiodaaGreatDoor.M
open Go.Sort Go.Shelf Go.RowKit Go.Maps Go.Proofs.YtfnibmcenjiodaaGreatDoorW.PrintWords Go.Proofs.YtfnibmcenjiodaaGreatDoorW.PrintLast Go.Proofs.YtfnibmcenjiodaaGreatDoorW.PrintMore
attribute [local go_sem] Oper.semAt_some
theorem takeB_shorter {s r : List UInt8} {n : Nat} (h : takeB s = some (n, r)) : r.length < s.length := by
  unfold takeB at h
  simp only at h
  split at h
  · rename_i hlt
    split at h
    · obtain ⟨_, rfl⟩ : _ ∧ s.drop (2 * (s.takeWhile (fun c => c != 45)).length + 1) = r := by simpa using h
      rw [List.length_drop]; omega
    · cases h
  · cases h
theorem openF_eq : ∀ (f g : Nat) (s : List UInt8), s.length < f → s.length < g → openF f s = openF g s
  | 0, _, _, h, _ => by omega
  | _, 0, _, _, h => by omega
  | f + 1, g + 1, s, hf, hg => by
    unfold openF
    split
    · rfl
    · cases h : takeB s with
      | none => rfl
      | some x =>
        obtain ⟨k, r⟩ := x
        have := takeB_shorter h
        simp only
        rw [openF_eq f g r (by omega) (by omega)]
def openL (s : List UInt8) : Option (List Int) := openF (s.length + 1) s
theorem openL_some {s r : List UInt8} {k : Nat} (h : takeB s = some (k, r)) : openL s = (openL r).map (fun l => (k : Int) :: l) := by
  have hs := takeB_shorter h
  unfold openL
  rw [show openF (s.length + 1) s = (if s = [] then some [] else match takeB s with | none => none | some (k, r) => (openF s.length r).map (fun l => (k : Int) :: l)) from rfl]
  rw [if_neg (by intro e; rw [e] at hs; simp at hs), h]
  simp only
  rw [openF_eq s.length (r.length + 1) r hs (by omega)]
theorem openL_none {s : List UInt8} (hne : s ≠ []) (h : takeB s = none) : openL s = none := by
  unfold openL openF
  rw [if_neg hne, h]
def openR (s : ByteArray) : Option (List Int) := if isSigns s = true then (openL s.data.toList).bind (fun l => if l.length ≤ 400 then some l else none) else none
def OpenPost (s : ByteArray) (w : World) (e : Ending) (w' : World) : Prop :=
  Below w.heap.size w w' ∧ ((∃ l v, openR s = some l ∧ e = .returned v ∧ w'.ownsRow w.heap.size 3 1 v l.length (l.map (Value.int .i64))) ∨ (openR s = none ∧ e = .panicked torn1))
theorem own_kept_box {w w' : World} {b base n : Nat} {t e : TypeId} {size : Nat} {v : Value} {xs : List Value} {cs : Array Value} (h : w.ownsRow base e size v n xs) (hk : Keep w.heap.size (some b) w w') (hb : w.heap[b]? = some (.cells cs t (0, 0))) (hte : t ≠ e) : w'.ownsRow base e size v n xs := by
  refine h.kept (row := some b) ⟨hk.os, hk.tape, hk.output, hk.size, hk.block⟩ ?_
  rcases h.2 with ⟨rfl, _⟩ | ⟨g, cap, cur, rfl, _, hgb, _⟩
  · exact .inl rfl
  · refine .inr fun e' => ?_
    obtain rfl : g = b := by simpa [Value.ownBlock] using e'
    rw [hb] at hgb
    injection hgb with hgb
    injection hgb with _ h2 _
    exact hte h2
theorem own_ne_box {w : World} {b base n : Nat} {t e : TypeId} {size : Nat} {v : Value} {xs : List Value} {cs : Array Value} (h : w.ownsRow base e size v n xs) (hb : w.heap[b]? = some (.cells cs t (0, 0))) (hte : t ≠ e) : v.ownBlock ≠ some b := by
  rcases h.2 with ⟨rfl, _⟩ | ⟨g, cap, cur, rfl, _, hgb, _⟩
  · simp [Value.ownBlock]
  · intro e'
    obtain rfl : g = b := by simpa [Value.ownBlock] using e'
    rw [hb] at hgb
    injection hgb with hgb
    injection hgb with _ h2 _
    exact hte h2
set_option maxRecDepth 100000 in
set_option maxHeartbeats 4000000 in
theorem opened_calls (s : ByteArray) (hsz : s.size ≤ 1000000000) (w : World) : Calls Tryz.prog 88 #[.string s] w (OpenPost s w) := by
  obtain ⟨i0, hi, hz0, hz1, hz2⟩ := info_parts info3
  go_enter Tryz.func88, Tryz.ntmps88
  go_wp2_with fail
  refine (wire_signs s w (by omega)).mono ?_
  rintro e w1 ⟨rfl, hb1⟩
  have HB1 := Lib.hid hb1
  clear hb1
  cases hsg : isSigns s
  · have Hsg := Lib.hid hsg
    go_wp2_with fail
    refine (must_false _).mono ?_
    rintro e w2 ⟨rfl, rfl⟩
    go_wp2
    exact ⟨rfl, HB1.out, .inr ⟨by unfold openR; rw [Hsg.out]; rfl, rfl⟩⟩
  · have Hsg := Lib.hid hsg
    clear hsg
    go_wp2_with fail
    refine (must_true _).mono ?_
    rintro e w2 ⟨rfl, rfl⟩
    go_wp2_with fail
    go_loopg [3, 4] (s.size + 1) (fun g v p wr => ∃ (tb : Nat) (t : ByteArray) (acc : List Int), p = .pointer (some ⟨tb, 0, none⟩) ∧ w.heap.size ≤ tb ∧ t.size < g ∧ t.size ≤ s.size ∧ acc.length ≤ 400 ∧ Hid (∀ c ∈ t.data.toList, c = 45 ∨ c = 46) ∧ Hid (openL s.data.toList = (openL t.data.toList).map (fun l => acc ++ l)) ∧ Hid (wr.heap[tb]? = some (.cells #[.string t] 221 (0, 0))) ∧ Hid (wr.ownsRow w.heap.size 3 1 v acc.length (acc.map (Value.int .i64))) ∧ Hid (Below w.heap.size w wr))
    case atStart =>
      refine ⟨w2.heap.size, s, [], rfl, HB1.out.size, by omega, Nat.le_refl _, by simp, Lib.hid ?_, Lib.hid ?_, Lib.hid (blk_new _ _), Lib.hid (World.ownsRow_nil _ _ _ _), Lib.hid (below_alloc HB1.out _)⟩
      · exact (isSigns_iff s).1 Hsg.out
      · cases h : openL s.data.toList <;> simp
    case round =>
      obtain ⟨tb, t, acc, rfl, htb, htg, hts, hacc, Ht, HO, HT, HR, HB⟩ := hrel
      have c0 := box_cell HT.out
      by_cases ht0 : t = ⟨#[]⟩
      · subst ht0
        go_wp2
        go_ret
        refine ⟨HB.out, .inl ⟨acc, u3, ?_, rfl, HR.out⟩⟩
        unfold openR
        rw [if_pos Hsg.out, HO.out, show openL (ByteArray.mk #[]).data.toList = some [] from rfl]
        simp [hacc]
      · have hte : t.toList.isEmpty = false := by
          rw [Lib.toList_data]
          cases h : t.data.toList with
          | nil => exact absurd (ByteArray.ext (Array.toList_inj.1 h)) ht0
          | cons _ _ => rfl
        have Hne : Hid (t.data.toList = [] → False) := Lib.hid (fun h => ht0 (ByteArray.ext (Array.toList_inj.1 h)))
        clear ht0
        go_wp2_with fail
        refine (number_calls tb t Ht.out (by omega) wr HT.out).mono ?_
        rintro e w3 ⟨hk3, ⟨m, r, hm, rfl, hb3⟩ | ⟨hm, rfl⟩⟩
        · have HR3 := Lib.hid (own_kept_box HR.out hk3 HT.out (by decide))
          have HB3 : Hid (Below w.heap.size w w3) := Lib.hid (HB.out.trans (hk3.lose HB.out.size (fun k e => by cases e; exact htb)))
          have Hm := Lib.hid hm
          have HT3 := Lib.hid hb3
          have htl := takeB_shorter hm
          clear hk3 hm hb3 c0 hte
          have hsz3 := HB3.out.size
          go_wp2_with (at_builtin; refine wpList_append_own_at _ rfl _ _ 25 rfl w.heap.size 3 i0 (.int .i64 0) 1 8 Tryz.underlying25 hi hz0 hz1 hz2 rfl (by decide) _ _ _ rfl (HR3.out.alloc _) ⟨w3.heap.size, 0, none⟩ 1 1 [.int .i64 (m : Int)] rfl rfl (cell_one_new _ _ _) (by simp [Value.oneCell']) (by unfold maxLen; omega) (by omega) (by simp; omega) ?_; intro v' w4 hown' hgrow _ _; have hgrow' : (w3.alloc (.cells #[.int .i64 (m : Int)] 3)).grownBy w4 u3.ownBlock := hgrow; clear hgrow; obtain ⟨g', cap', rfl⟩ := ownsRow_succ hown'; have Hg := Lib.hid hgrow'; have Ho := Lib.hid hown'; clear hgrow' hown')
          have hlt3 := blk_lt HT3.out
          have HT4 : Hid (w4.heap[tb]? = some (.cells #[.string ⟨r.toArray⟩] 221 (0, 0))) := Lib.hid ((Hg.out.block tb (by simp only [World.size_alloc]; omega) (fun e => own_ne_box HR3.out HT3.out (by decide) e.symm)).trans (blk_alloc HT3.out _))
          have HB4 : Hid (Below w.heap.size w w4) := Lib.hid ((below_alloc HB3.out _).grown Hg.out (by simp; omega) (fun k hk => (HR3.out.lt k hk).1))
          have hrs : (ByteArray.mk r.toArray).size = r.length := by show r.toArray.size = _; rw [List.size_toArray]
          have htl2 : t.data.toList.length = t.size := by simp
          clear hlt3
          by_cases hmx : acc.length + 1 ≤ 400
          · have hmi : (acc.length : Int) + 1 ≤ 400 := by omega
            rw [show decide ((acc.length : Int) + 1 ≤ 400) = true from decide_eq_true hmi]
            refine (must_true _).mono ?_
            rintro e w5 ⟨rfl, rfl⟩
            have c4 := box_cell HT4.out
            go_wp2
            go_roundg t.size
            case rel =>
              refine ⟨_, ⟨r.toArray⟩, acc ++ [(m : Int)], rfl, HB4.out.size, by omega, by omega, by simp; omega, Lib.hid ?_, Lib.hid ?_, Lib.hid (blk_new _ _), Lib.hid ?_, Lib.hid (below_alloc HB4.out _)⟩
              · intro c hc
                have h := (takeB_inv Ht.out Hm.out).1
                exact Ht.out c (by rw [h]; simp at hc ⊢; exact .inr hc)
              · rw [HO.out, openL_some Hm.out]
                simp only [Option.map_map]
                congr 1
                funext l
                simp
              · have h := Ho.out.alloc (.cells #[.string ⟨r.toArray⟩] 221)
                simpa using h
            case measure => exact htg
          · have hmi : ¬ (acc.length : Int) + 1 ≤ 400 := by omega
            rw [show decide ((acc.length : Int) + 1 ≤ 400) = false from decide_eq_false hmi]
            refine (must_false _).mono ?_
            rintro e w5 ⟨rfl, rfl⟩
            go_wp2
            refine ⟨rfl, HB4.out, .inr ⟨?_, rfl⟩⟩
            unfold openR
            rw [if_pos Hsg.out, HO.out, openL_some Hm.out]
            cases openL r with
            | none => rfl
            | some l => simp; omega
        · go_wp2
          refine ⟨rfl, HB.out.trans (hk3.lose HB.out.size (fun k e => by cases e; exact htb)), .inr ⟨?_, rfl⟩⟩
          unfold openR
          rw [if_pos Hsg.out, HO.out, openL_none Hne.out hm]
          rfl
theorem own_weaken {w : World} {base base' n : Nat} {e : TypeId} {size : Nat} {v : Value} {xs : List Value} (h : w.ownsRow base e size v n xs) (hle : base' ≤ base) : w.ownsRow base' e size v n xs :=
  ⟨h.1, h.2.imp id (fun ⟨g, cap, cur, e, hb, r⟩ => ⟨g, cap, cur, e, Nat.le_trans hle hb, r⟩)⟩
def numbersR (s : ByteArray) : List Int × Int := match openR s with | some l => (l, 0) | none => ([], 114)
set_option maxRecDepth 100000 in
set_option maxHeartbeats 4000000 in
theorem wire_Numbers (s : ByteArray) (hsz : s.size ≤ 1000000000) (w : World) :
    Calls Tryz.prog 40 #[.string s] w fun e w' => ∃ v, e = .returned (.tuple #[v, .int .i64 (numbersR s).2]) ∧ w'.ownsRow w.heap.size 3 1 v (numbersR s).1.length ((numbersR s).1.map (Value.int .i64)) ∧ Below w.heap.size w w' := by
  go_enter_defers Tryz.func40, Tryz.ntmps40
  go_wp2_with fail
  refine (opened_calls s hsz _).mono ?_
  rintro e w1 ⟨hb1, ⟨l, v, hl, rfl, hown⟩ | ⟨hn, rfl⟩⟩
  · have HX := Lib.hid (blk_below (blk_new w (.cells #[.int .i64 0] 28)) hb1)
    have HB := Lib.hid (below_step (below1 w _) hb1)
    have hc1 := box_cell HX.out
    have hf1 := box_free HX.out
    have HO := Lib.hid hown
    have hR : Hid (numbersR s = (l, 0)) := Lib.hid (by unfold numbersR; rw [hl])
    clear hb1 hown hl
    go_wp2
    refine leaves_cons (f := 86) (args := #[.pointer (some ⟨w.heap.size, 0, none⟩)]) (by simp) (by simp [go_sem]) ?_
    refine (caught_idle ⟨w.heap.size, 0, none⟩ _).mono ?_
    rintro e u' w'' ⟨rfl, rfl, rfl⟩
    have hc2 : (w1.setCell ⟨w.heap.size, 0, none⟩ (.int .i64 0)).cell? ⟨w.heap.size, 0, none⟩ = some (.int .i64 0) := box_cell (box_put HX.out _)
    refine ⟨.tuple #[v, .int .i64 0], ?_, v, by rw [hR.out], ?_, HB.out.setCell (Nat.le_refl _) _⟩
    · simp [results, Tryz.results40, go_sem, hc2]
    · rw [hR.out]
      have hk : Keep w1.heap.size (some w.heap.size) w1 (w1.setCell ⟨w.heap.size, 0, none⟩ (.int .i64 0)) := ⟨rfl, rfl, rfl, by simp, fun i hi hne => Below.heap_setCell _ _ _ _ (by intro e; apply hne; first | exact congrArg some e | exact congrArg some e.symm)⟩
      exact own_weaken (own_kept_box HO.out hk HX.out (by decide)) (by simp)
  · have HX := Lib.hid (blk_below (blk_new w (.cells #[.int .i64 0] 28)) hb1)
    have HB := Lib.hid (below_step (below1 w _) hb1)
    have hR : Hid (numbersR s = ([], 114)) := Lib.hid (by unfold numbersR; rw [hn])
    clear hb1 hn
    go_wp2
    refine leaves_cons (f := 86) (args := #[.pointer (some ⟨w.heap.size, 0, none⟩)]) (by simp) (by simp [go_sem]) ?_
    refine (caught_panicking w.heap.size 0 [] _ HX.out).mono ?_
    rintro e u' w'' ⟨rfl, rfl, hx, hbw⟩
    have hc2 := box_cell hx
    refine ⟨.tuple #[.slice none 0 0, .int .i64 114], ?_, .slice none 0 0, by rw [hR.out], by rw [hR.out]; exact World.ownsRow_nil _ _ _ _, HB.out.trans (hbw _ (Nat.le_refl _) HB.out.size)⟩
    simp [results, Tryz.results40, go_sem, hc2]
end Go.Proofs.YtfnibmcenjiodaaGreatDoor.M
namespace Go.Proofs.YtfnibmcenjiodaaGreatDoor.M
open Go.Sort Go.Shelf Go.RowKit Go.Maps Go.Proofs.YtfnibmcenjiodaaGreatDoorW.PrintWords Go.Proofs.YtfnibmcenjiodaaGreatDoorW.PrintLast Go.Proofs.YtfnibmcenjiodaaGreatDoorW.PrintMore
def apart (a b : List UInt8) : Bool := !a.isPrefixOf b && !b.isPrefixOf a
theorem apart_symm {a b : List UInt8} (h : apart a b = true) : apart b a = true := by
  unfold apart at *; simp only [Bool.and_eq_true] at *; exact ⟨h.2, h.1⟩
theorem apart_iff {a b : List UInt8} : apart a b = true ↔ ¬ a <+: b ∧ ¬ b <+: a := by
  unfold apart
  rw [Bool.and_eq_true, Bool.not_eq_true', Bool.not_eq_true', ← Bool.not_eq_true, ← Bool.not_eq_true, List.isPrefixOf_iff_prefix, List.isPrefixOf_iff_prefix]
theorem prefix_between : ∀ (p x y : List UInt8), p ≤ x → x ≤ y → p <+: y → p <+: x
  | [], x, y, _, _, _ => List.nil_prefix
  | a :: p, [], y, h, _, _ => absurd (List.nil_lt_cons a p) (List.not_lt.2 h)
  | a :: p, b :: x, [], _, h2, _ => absurd (List.nil_lt_cons b x) (List.not_lt.2 h2)
  | a :: p, b :: x, c :: y, h1, h2, h3 => by
    obtain ⟨e, k3⟩ := List.cons_prefix_cons.1 h3
    subst e
    rcases List.cons_le_cons_iff.1 h1 with k1 | ⟨e, k1⟩
    · rcases List.cons_le_cons_iff.1 h2 with k2 | ⟨e2, _⟩
      · exact absurd k1 (UInt8.lt_asymm k2)
      · subst e2; exact absurd k1 (UInt8.lt_irrefl _)
    · subst e
      rcases List.cons_le_cons_iff.1 h2 with k2 | ⟨_, k2⟩
      · exact absurd k2 (UInt8.lt_irrefl _)
      · exact List.cons_prefix_cons.2 ⟨rfl, prefix_between p x y k1 k2 k3⟩
theorem prefix_le : ∀ (p y : List UInt8), p <+: y → p ≤ y
  | [], y, _ => by
    cases y with
    | nil => exact List.le_refl _
    | cons c y => exact List.le_of_lt (List.nil_lt_cons c y)
  | a :: p, [], h => absurd (List.prefix_nil.1 h) (by simp)
  | a :: p, c :: y, h => by
    obtain ⟨e, k⟩ := List.cons_prefix_cons.1 h
    subst e
    exact List.cons_le_cons_iff.2 (.inr ⟨rfl, prefix_le p y k⟩)
theorem adj_pairwise (ss : List (List UInt8)) (hs : ss.Pairwise (fun a b => a ≤ b)) (h : ∀ i, (h : i + 1 < ss.length) → ¬ ss[i] <+: ss[i + 1]) : ss.Pairwise (fun a b => apart a b = true) := by
  rw [List.pairwise_iff_getElem] at hs ⊢
  intro i j hi hj hij
  rw [apart_iff]
  have key : ¬ ss[i] <+: ss[j] := fun hp => by
    refine h i (by omega) (prefix_between _ _ _ (hs i (i + 1) hi (by omega) (by omega)) ?_ hp)
    by_cases e : i + 1 = j
    · subst e; exact List.le_refl _
    · exact hs (i + 1) j (by omega) hj (by omega)
  refine ⟨key, fun hp => key ?_⟩
  have := List.le_antisymm (hs i j hi hj hij) (prefix_le _ _ hp)
  rw [this]; exact List.prefix_refl _
def freeC (l : List ByteArray) : Bool := decide (l.Pairwise (fun a b => apart a.data.toList b.data.toList = true))
theorem freeB_iff (l : List ByteArray) : freeB l = true ↔ l.Pairwise (fun a b => apart a.data.toList b.data.toList = true) := by
  have hperm : (sortB l).Perm (l.map (·.data.toList)) := N.sortB_perm l
  have hlen : (sortB l).length = l.length := by rw [hperm.length_eq, List.length_map]
  have hsort := N.sortB_pairwise l
  have hmap : (l.Pairwise (fun a b => apart a.data.toList b.data.toList = true)) ↔ (sortB l).Pairwise (fun a b => apart a b = true) := by
    rw [hperm.pairwise_iff (fun h => apart_symm h), List.pairwise_map]
  rw [hmap]
  unfold freeB
  rw [List.all_eq_true]
  have hat : ∀ i (h : i < l.length), (rdOf ByteArray.empty (ordW l) (i : Int)).data.toList = (sortB l)[i]'(by omega) := by
    intro i h
    unfold ordW
    have h2 : i < (sortB l).length := by omega
    have : rdOf ByteArray.empty ((sortB l).map (fun x => (⟨x.toArray⟩ : ByteArray))) (i : Int) = ⟨((sortB l)[i]).toArray⟩ := by
      simp [rdOf, h2]
    rw [this]
  constructor
  · intro h
    refine adj_pairwise _ hsort (fun i hi hp => ?_)
    have := h (i + 1) (List.mem_range.2 (by omega))
    unfold freeAt at this
    rw [show (((i + 1 : Nat) : Int) - 1) = (i : Int) by omega, hat (i + 1) (by omega), hat i (by omega)] at this
    have h3 : Lib.hasPrefix ((sortB l)[i + 1]) ((sortB l)[i]) = true := List.isPrefixOf_iff_prefix.2 hp
    rw [h3] at this
    simp at this
  · intro h i hi
    have hi := List.mem_range.1 hi
    unfold freeAt
    cases i with
    | zero => rfl
    | succ i =>
      rw [show (((i + 1 : Nat) : Int) - 1) = (i : Int) by omega, hat (i + 1) (by omega), hat i (by omega)]
      have h2 := List.pairwise_iff_getElem.1 h i (i + 1) (by omega) (by omega) (by omega)
      have h3 : Lib.hasPrefix ((sortB l)[i + 1]) ((sortB l)[i]) = false := by
        cases hc : Lib.hasPrefix ((sortB l)[i + 1]) ((sortB l)[i])
        · rfl
        · exact absurd (List.isPrefixOf_iff_prefix.1 hc) (apart_iff.1 h2).1
      rw [h3]; rfl
theorem freeB_eq (l : List ByteArray) : freeB l = freeC l := by
  rw [Bool.eq_iff_iff, freeB_iff]
  unfold freeC
  rw [decide_eq_true_eq]
def spellG (sz : List Int) : Nat → List ByteArray → Option (List ByteArray)
  | 0, ws => some ws
  | d + 1, ws => (exts (rd sz ws.length).toNat ⟨#[]⟩).findSome? (fun x => if freeC (ws ++ [x]) = true then spellG sz d (ws ++ [x]) else none)
theorem spellF_eq (sz : List Int) : ∀ d ws, spellF sz d ws = spellG sz d ws
  | 0, ws => rfl
  | d + 1, ws => by
    unfold spellF spellG
    congr 1
    funext x
    rw [freeB_eq, spellF_eq sz d]
theorem best_is : bestR [5, 2, 2, 1] = ([⟨#[45]⟩, ⟨#[46, 45]⟩, ⟨#[46, 46, 45]⟩, ⟨#[46, 46, 46]⟩], 0) := by
  unfold bestR bestW
  rw [spellF_eq]
  decide +kernel
end Go.Proofs.YtfnibmcenjiodaaGreatDoor.M
namespace Go.Proofs.YtfnibmcenjiodaaGreatDoor.S
open Go.RowKit Go.Proofs.YtfnibmcenjiodaaGreatDoorW.PrintWords Go.Proofs.YtfnibmcenjiodaaGreatDoorW.PrintLast Go.Proofs.YtfnibmcenjiodaaGreatDoorW.PrintMore
attribute [local go_sem] max2_int min2_int max_two min_two max_three min_three max_four min_four   -- for this text's walks alone
mutual
def wire_Cost.j0 : Nat → List Int → Bool → List ByteArray → Option (Int × Int)
  | 0, _, _, _ => none
  | k + 1, x1, x25, x123000 => if x25 = true then (some (0, 113)) else (wire_Cost.l0 k x1 0 x123000 (x123000.length : Int) 0)
def wire_Cost.l0 : Nat → List Int → Int → List ByteArray → Int → Int → Option (Int × Int)
  | 0, _, _, _, _, _ => none
  | k + 1, x1, x7, x27, x28, x29 => if x29 < x28 then (if 0 ≤ x29 then (if x29 < (x27.length : Int) then (if x29 < (x1.length : Int) then (wire_Cost.l0 k x1 (wrap64 (x7 + (wrap64 ((rd x1 x29) * ((rdOf ByteArray.empty x27 x29).size : Int))))) x27 x28 (wrap64 (x29 + 1))) else (none)) else (none)) else (none)) else (some (x7, 0))
end
def wire_Cost.f (k : Nat) (l0_0 : List ByteArray) (l1 : List Int) : Option (Int × Int) := (gCheck.f l0_0).bind fun t123 => (if t123 = 0 then ((wire_sent.f l1).bind fun t124 => (if t124 = true then (wire_Cost.j0 k l1 ((l1.length : Int) != (l0_0.length : Int)) l0_0) else (wire_Cost.j0 k l1 true l0_0))) else (some (0, t123)))
set_option maxHeartbeats 8000000 in
set_option maxRecDepth 100000 in
theorem wire_Cost.calls (k : Nat) (A0_0 : Option Addr) (c0_0 : Nat) (l0_0 : List ByteArray) (A1 : Option Addr) (c1 : Nat) (l1 : List Int) (r1 : Int) (r2 : Int) (w : World) (hr0_0 : Kd.C Kd.string w A0_0 l0_0.length l0_0) (hc0_0 : l0_0.length ≤ c0_0) (hr1 : Kd.C (Kd.int .i64) w A1 l1.length l1) (hc1 : l1.length ≤ c1) (h : wire_Cost.f k l0_0 l1 = some (r1, r2)) :
    Calls Tryz.prog 33 #[.agg #[.slice A0_0 l0_0.length c0_0], .slice A1 l1.length c1] w fun e w' => e = .returned (.tuple #[.int .i64 r1, .int .i64 r2]) ∧ Below w.heap.size w w' := by
  have hu24 := Tryz.underlying24
  have HR0_0 := Aside0.mk hr0_0
  have HC0_0 := Aside0.mk hc0_0
  clear hr0_0 hc0_0
  have HR1 := Aside0.mk hr1
  have HC1 := Aside0.mk hc1
  clear hr1 hc1
  have HB := Aside0.mk (Below.refl w.heap.size w)
  have H : ((gCheck.f l0_0).bind fun t123 => (if t123 = 0 then ((wire_sent.f l1).bind fun t124 => (if t124 = true then (wire_Cost.j0 k l1 ((l1.length : Int) != (l0_0.length : Int)) l0_0) else (wire_Cost.j0 k l1 true l0_0))) else (some (0, t123)))) = some (r1, r2) := h
  clear h
  replace H := Option.bind_eq_some_iff.mp H
  obtain ⟨t123, A30, H⟩ := H
  replace H : (if t123 = 0 then ((wire_sent.f l1).bind fun t124 => (if t124 = true then (wire_Cost.j0 k l1 ((l1.length : Int) != (l0_0.length : Int)) l0_0) else (wire_Cost.j0 k l1 true l0_0))) else (some (0, t123))) = some (r1, r2) := H
  have A3 := Aside0.mk A30
  clear A30
  by_cases c4 : t123 = 0
  · rw [if_pos c4] at H
    have c4b0 : (t123 == 0) = true := beq_iff_eq.mpr c4
    have c4b1 : (t123 != 0) = false := bne_eq_false_iff_eq.mpr c4
    clear c4
    have HC5 := Aside0.mk H
    clear H
    go_enter Tryz.func33, Tryz.ntmps33
    go_upto_region 4 with (first | ((with_reducible refine gate_dst (N := 2) rfl ?_); (try (refine gate_guard (by rfl) ?_; dsimp only)); refine box_event ?hg (N := 2) ?hd (cs := #[.slice A0_0 l0_0.length c0_0]) (t := 24) ?hr ?_; (case hd => rfl); (case hg => rfl); (case hr => first | (go_simp; done) | (go_simp; rfl)); intro gb122 hg w6 hbox hb; have n0_ := Aside0.mk (below_step (by repeat (first | (with_reducible first | exact HB.out | apply below_alloc | apply pw_below_drewN | apply below_drew1) | exact HB.out)) hb); have n1_ := Aside0.mk (hbox); have n2_ := Aside0.mk ((by rw [hg]; exact (below_size (by repeat (first | (with_reducible first | exact HB.out | apply below_alloc | apply pw_below_drewN | apply below_drew1) | exact HB.out))) : w.heap.size ≤ gb122)); have n3_ := Aside0.mk ((by rw [hg]; exact (below_size (by repeat (first | (with_reducible first | exact HB.out | apply below_alloc | apply pw_below_drewN | apply below_drew1) | exact HB.out))) : w.heap.size ≤ gb122)); clear HB; have HB := n0_; have BK122 := n1_; have GW122 := n2_; have GE122 := n3_; clear n0_ n1_ n2_ n3_; clear hb hbox hg; have hcz7_0 : w6.cell? ⟨gb122, 0, none⟩ = some (.slice A0_0 l0_0.length c0_0) := (blk_cell BK122.out 0).trans rfl; have hfz7_0 := blk_frozen BK122.out 0) | ((with_reducible refine gate_callee (f := 53) rfl ?_); refine goesL_ (some 11) rfl rfl Tryz.func53 (by kernel_rfl) rfl #[.agg #[.slice A0_0 l0_0.length c0_0]] rfl (by (try simp only [List.map_toArray, List.map_cons, List.map_nil]); first | done | rfl | (simp only [List.length_drop, List.length_take]; rfl)) ?_; (with_reducible refine (gCheck.calls _ _ l0_0 t123 _ ?side1 ?side2 A3.out).mono ?_); (case side1 => repeat (first | exact (Kd.C_below HR0_0.out HB.out) | (with_reducible refine Kd.C_alloc ?_ _) | (with_reducible refine Kd.C_drewN ?_ _) | (with_reducible refine Kd.C_drew ?_))); (case side2 => exact HC0_0.out); rintro e w8 ⟨rfl, hb⟩; refine ⟨_, rfl, ?_⟩; have n0_ := Aside0.mk (blk_below (g := gb122) (o := .cells #[.slice A0_0 l0_0.length c0_0] 24 (0, 0)) (by (with_reducible repeat (first | refine blk_drewN ?_ _ | refine blk_drew ?_ | refine blk_alloc ?_ _)); exact BK122.out) hb); have n1_ := Aside0.mk (below_step (by repeat (first | (with_reducible first | exact HB.out | apply below_alloc | apply pw_below_drewN | apply below_drew1 | refine below_set ?_ GE122.out) | exact HB.out)) hb); clear BK122; clear HB; have BK122 := n0_; have HB := n1_; clear n0_ n1_; (try clear hb); (try clear hb2); (try clear hk); (try clear hi)))
    (try simp only [Act.put, List.setIfInBounds_toArray, List.set_cons_zero, List.set_cons_succ])
    go_cut [25] (fun v25 wc => ∃ (kq : Nat) (x25_4 : Bool), v25 = .bool x25_4 ∧ Aside0 (wire_Cost.j0 kq l1 x25_4 l0_0 = some (r1, r2)) ∧ Aside0 (kq ≤ k) ∧ Aside0 (wc.heap[gb122]? = some (.cells #[(.slice A0_0 l0_0.length c0_0)] 24 (0, 0))) ∧ Aside0 (Below w.heap.size w wc))
    case first =>
      have H := HC5.out
      clear HC5
      replace H := Option.bind_eq_some_iff.mp H
      obtain ⟨t124, A90, H⟩ := H
      replace H : (if t124 = true then (wire_Cost.j0 k l1 ((l1.length : Int) != (l0_0.length : Int)) l0_0) else (wire_Cost.j0 k l1 true l0_0)) = some (r1, r2) := H
      have A9 := Aside0.mk A90
      clear A90
      by_cases c10 : t124 = true
      · subst c10
        have H1 : (wire_Cost.j0 k l1 ((l1.length : Int) != (l0_0.length : Int)) l0_0) = some (r1, r2) := by rw [if_pos rfl] at H; exact H
        clear H
        have H := H1
        clear H1
        have H' := Aside0.mk H
        clear H
        go_wp2_with (first | ((with_reducible refine gate_callee (f := 75) rfl ?_); refine goesL_ (some 16) rfl rfl Tryz.func75 (by kernel_rfl) rfl #[.slice A1 l1.length c1] rfl (by (try simp only [List.map_toArray, List.map_cons, List.map_nil]); first | done | rfl | (simp only [List.length_drop, List.length_take]; rfl)) ?_; (with_reducible refine (wire_sent.calls _ _ l1 true _ ?side1 ?side2 A9.out).mono ?_); (case side1 => repeat (first | exact (Kd.C_below HR1.out HB.out) | (with_reducible refine Kd.C_alloc ?_ _) | (with_reducible refine Kd.C_drewN ?_ _) | (with_reducible refine Kd.C_drew ?_))); (case side2 => exact HC1.out); rintro e w11 ⟨rfl, hb⟩; refine ⟨_, rfl, ?_⟩; have n0_ := Aside0.mk (blk_below (g := gb122) (o := .cells #[.slice A0_0 l0_0.length c0_0] 24 (0, 0)) (by (with_reducible repeat (first | refine blk_drewN ?_ _ | refine blk_drew ?_ | refine blk_alloc ?_ _)); exact BK122.out) hb); have n1_ := Aside0.mk (below_step (by repeat (first | (with_reducible first | exact HB.out | apply below_alloc | apply pw_below_drewN | apply below_drew1 | refine below_set ?_ GE122.out) | exact HB.out)) hb); clear BK122; clear HB; have BK122 := n0_; have HB := n1_; clear n0_ n1_; (try clear hb); (try clear hb2); (try clear hk); (try clear hi); have hcz12_0 : w11.cell? ⟨gb122, 0, none⟩ = some (.slice A0_0 l0_0.length c0_0) := (blk_cell BK122.out 0).trans rfl; have hfz12_0 := blk_frozen BK122.out 0))
        go_meet
        case rel => exact ⟨_, (((l1.length : Int) != (l0_0.length : Int))), (by first | rfl | (simp; done) | (simp [*]; done)), H', ⟨by first | omega | exact Nat.le_refl _⟩, ⟨by (with_reducible repeat (first | refine blk_drewN ?_ _ | refine blk_drew ?_ | refine blk_alloc ?_ _)); exact BK122.out⟩, ⟨by repeat (first | (with_reducible first | exact HB.out | apply below_alloc | apply pw_below_drewN | apply below_drew1 | refine below_set ?_ GE122.out) | exact HB.out)⟩⟩
      · replace c10 := Bool.eq_false_iff.mpr c10
        subst c10
        have H1 : (wire_Cost.j0 k l1 true l0_0) = some (r1, r2) := by rw [if_neg (show ¬ (false = true) by decide)] at H; exact H
        clear H
        have H := H1
        clear H1
        have H' := Aside0.mk H
        clear H
        go_wp2_with (first | ((with_reducible refine gate_callee (f := 75) rfl ?_); refine goesL_ (some 16) rfl rfl Tryz.func75 (by kernel_rfl) rfl #[.slice A1 l1.length c1] rfl (by (try simp only [List.map_toArray, List.map_cons, List.map_nil]); first | done | rfl | (simp only [List.length_drop, List.length_take]; rfl)) ?_; (with_reducible refine (wire_sent.calls _ _ l1 false _ ?side1 ?side2 A9.out).mono ?_); (case side1 => repeat (first | exact (Kd.C_below HR1.out HB.out) | (with_reducible refine Kd.C_alloc ?_ _) | (with_reducible refine Kd.C_drewN ?_ _) | (with_reducible refine Kd.C_drew ?_))); (case side2 => exact HC1.out); rintro e w13 ⟨rfl, hb⟩; refine ⟨_, rfl, ?_⟩; have n0_ := Aside0.mk (blk_below (g := gb122) (o := .cells #[.slice A0_0 l0_0.length c0_0] 24 (0, 0)) (by (with_reducible repeat (first | refine blk_drewN ?_ _ | refine blk_drew ?_ | refine blk_alloc ?_ _)); exact BK122.out) hb); have n1_ := Aside0.mk (below_step (by repeat (first | (with_reducible first | exact HB.out | apply below_alloc | apply pw_below_drewN | apply below_drew1 | refine below_set ?_ GE122.out) | exact HB.out)) hb); clear BK122; clear HB; have BK122 := n0_; have HB := n1_; clear n0_ n1_; (try clear hb); (try clear hb2); (try clear hk); (try clear hi)))
        go_meet
        case rel => exact ⟨_, (true), (by first | rfl | (simp; done) | (simp [*]; done)), H', ⟨by first | omega | exact Nat.le_refl _⟩, ⟨by (with_reducible repeat (first | refine blk_drewN ?_ _ | refine blk_drew ?_ | refine blk_alloc ?_ _)); exact BK122.out⟩, ⟨by repeat (first | (with_reducible first | exact HB.out | apply below_alloc | apply pw_below_drewN | apply below_drew1 | refine below_set ?_ GE122.out) | exact HB.out)⟩⟩
    case rest =>
      clear HC5
      try clear c1
      try clear p2
      try clear c3
      try clear c4
      try clear c4b0
      try clear c4b1
      try clear c5
      try clear c7
      try clear c10
      try clear hcz12_0
      try clear hcz7_0
      try clear hfz12_0
      try clear hfz7_0
      obtain ⟨kq, x25_4, rfl, HA, HJ4, BK122, HB⟩ := hcut
      cases kq with
      | zero => exact absurd HA.out (by simp [wire_Cost.j0])
      | succ kj4 =>
        have H := HA.out
        clear HA
        simp only [wire_Cost.j0] at H
        by_cases c14 : x25_4 = true
        · subst c14
          have H1 : (some (0, 113)) = some (r1, r2) := by rw [if_pos rfl] at H; exact H
          clear H
          have H := H1
          clear H1
          simp only [Option.some.injEq, Prod.mk.injEq] at H
          obtain ⟨rfl, rfl⟩ := H
          go_wp2
          go_ret2
          exact ⟨by first | rfl | (simp [errW_none, errW_some] <;> rfl) | (simp [*, errW_none, errW_some] <;> rfl), by repeat (first | (with_reducible first | exact HB.out | apply below_alloc | apply pw_below_drewN | apply below_drew1 | refine below_set ?_ GE122.out) | exact HB.out)⟩
        · replace c14 := Bool.eq_false_iff.mpr c14
          subst c14
          have H1 : (wire_Cost.l0 kj4 l1 0 l0_0 (l0_0.length : Int) 0) = some (r1, r2) := by rw [if_neg (show ¬ (false = true) by decide)] at H; exact H
          clear H
          have H := H1
          clear H1
          have H' := Aside0.mk H
          clear H
          have hcz15_0 : wc.cell? ⟨gb122, 0, none⟩ = some (.slice A0_0 l0_0.length c0_0) := (blk_cell BK122.out 0).trans rfl
          have hfz15_0 := blk_frozen BK122.out 0
          go_wp2
          go_loopg [7, 29] kj4 (fun kq v7 v29 w' => ∃ (x7_2 : Int) (x29_2 : Int), v7 = .int .i64 x7_2 ∧ v29 = .int .i64 x29_2 ∧ Aside0 (wire_Cost.l0 kq l1 x7_2 l0_0 (l0_0.length : Int) x29_2 = some (r1, r2)) ∧ Aside0 (kq ≤ kj4) ∧ Aside0 (w'.heap[gb122]? = some (.cells #[(.slice A0_0 l0_0.length c0_0)] 24 (0, 0))) ∧ Aside0 (Below w.heap.size w w'))
          case atStart => exact ⟨(0), (0), (by first | rfl | (simp; done) | (simp [*]; done)), (by first | rfl | (simp; done) | (simp [*]; done)), H', ⟨Nat.le_refl _⟩, ⟨by (with_reducible repeat (first | refine blk_drewN ?_ _ | refine blk_drew ?_ | refine blk_alloc ?_ _)); exact BK122.out⟩, ⟨by repeat (first | (with_reducible first | exact HB.out | apply below_alloc | apply pw_below_drewN | apply below_drew1 | refine below_set ?_ GE122.out) | exact HB.out)⟩⟩
          case round =>
            clear H'
            try clear c1
            try clear p2
            try clear c3
            try clear c4
            try clear c4b0
            try clear c4b1
            try clear c5
            try clear c7
            try clear c10
            try clear c14
            try clear hcz12_0
            try clear hcz15_0
            try clear hcz7_0
            try clear hfz12_0
            try clear hfz15_0
            try clear hfz7_0
            try clear p2
            obtain ⟨x7_2, x29_2, rfl, rfl, HA, HK2, BK122, HB⟩ := hrel
            cases gk with
            | zero => exact absurd HA.out (by simp [wire_Cost.l0])
            | succ k2 =>
              have H := HA.out
              clear HA
              simp only [wire_Cost.l0] at H
              by_cases c16 : x29_2 < (l0_0.length : Int)
              · rw [if_pos c16] at H
                have c16b0 : decide (x29_2 < (l0_0.length : Int)) = true := decide_eq_true c16
                clear c16
                by_cases c17 : 0 ≤ x29_2
                · rw [if_pos c17] at H
                  have c17b0 : decide (0 ≤ x29_2) = true := decide_eq_true c17
                  clear c17
                  by_cases c18 : x29_2 < (l0_0.length : Int)
                  · rw [if_pos c18] at H
                    have c18b0 : decide (x29_2 < (l0_0.length : Int)) = true := decide_eq_true c18
                    clear c18
                    by_cases c19 : x29_2 < (l1.length : Int)
                    · rw [if_pos c19] at H
                      have c19b0 : decide (x29_2 < (l1.length : Int)) = true := decide_eq_true c19
                      clear c19
                      have H' := Aside0.mk H
                      clear H
                      have p125 : 0 ≤ (x29_2 : Int) := of_decide_eq_true (by first | (with_reducible assumption) | assumption)
                      have q125 : x29_2 < (l0_0.length : Int) := of_decide_eq_true (by first | (with_reducible assumption) | assumption)
                      obtain ⟨ad125, e125, hx125_0⟩ := Kd.at_string HR0_0.out x29_2 p125 q125
                      cases e125
                      replace hx125_0 := (HB.out.cell (World.block_lt_of_cell? w _ hx125_0)).trans hx125_0
                      replace p125 := eq_true p125
                      replace q125 := eq_true q125
                      have p126 : 0 ≤ (x29_2 : Int) := of_decide_eq_true (by first | (with_reducible assumption) | assumption)
                      have q126 : x29_2 < (l1.length : Int) := of_decide_eq_true (by first | (with_reducible assumption) | assumption)
                      obtain ⟨ad126, e126, hx126_0⟩ := Kd.at_int HR1.out x29_2 p126 q126
                      cases e126
                      replace hx126_0 := (HB.out.cell (World.block_lt_of_cell? w _ hx126_0)).trans hx126_0
                      replace p126 := eq_true p126
                      replace q126 := eq_true q126
                      go_wp2
                      go_roundg k2
                      case measure => have := HJ4.out; have := HK2.out; omega
                      case rel => exact ⟨(wrap64 (x7_2 + (wrap64 ((rd l1 x29_2) * ((rdOf ByteArray.empty l0_0 x29_2).size : Int))))), (wrap64 (x29_2 + 1)), (by first | rfl | (simp; done) | (simp [*]; done)), (by first | rfl | (simp; done) | (simp [*]; done)), H', ⟨by have := HJ4.out; have := HK2.out; omega⟩, ⟨by (with_reducible repeat (first | refine blk_drewN ?_ _ | refine blk_drew ?_ | refine blk_alloc ?_ _)); exact BK122.out⟩, ⟨by repeat (first | (with_reducible first | exact HB.out | apply below_alloc | apply pw_below_drewN | apply below_drew1 | refine below_set ?_ GE122.out) | exact HB.out)⟩⟩
                    · rw [if_neg c19] at H
                      exact absurd H (by simp)
                  · rw [if_neg c18] at H
                    exact absurd H (by simp)
                · rw [if_neg c17] at H
                  exact absurd H (by simp)
              · rw [if_neg c16] at H
                have c16b0 : decide (x29_2 < (l0_0.length : Int)) = false := decide_eq_false c16
                clear c16
                simp only [Option.some.injEq, Prod.mk.injEq] at H
                obtain ⟨rfl, rfl⟩ := H
                go_wp2
                go_ret2
                exact ⟨by first | rfl | (simp [errW_none, errW_some] <;> rfl) | (simp [*, errW_none, errW_some] <;> rfl), by repeat (first | (with_reducible first | exact HB.out | apply below_alloc | apply pw_below_drewN | apply below_drew1 | refine below_set ?_ GE122.out) | exact HB.out)⟩
  · rw [if_neg c4] at H
    have c4b0 : (t123 == 0) = false := beq_eq_false_iff_ne.mpr c4
    have c4b1 : (t123 != 0) = true := bne_iff_ne.mpr c4
    simp only [Option.some.injEq, Prod.mk.injEq] at H
    obtain ⟨rfl, rfl⟩ := H
    go_enter Tryz.func33, Tryz.ntmps33
    go_wp2_with (first | ((with_reducible refine gate_dst (N := 2) rfl ?_); (try (refine gate_guard (by rfl) ?_; dsimp only)); refine box_event ?hg (N := 2) ?hd (cs := #[.slice A0_0 l0_0.length c0_0]) (t := 24) ?hr ?_; (case hd => rfl); (case hg => rfl); (case hr => first | (go_simp; done) | (go_simp; rfl)); intro gb122 hg w20 hbox hb; have n0_ := Aside0.mk (below_step (by repeat (first | (with_reducible first | exact HB.out | apply below_alloc | apply pw_below_drewN | apply below_drew1) | exact HB.out)) hb); have n1_ := Aside0.mk (hbox); have n2_ := Aside0.mk ((by rw [hg]; exact (below_size (by repeat (first | (with_reducible first | exact HB.out | apply below_alloc | apply pw_below_drewN | apply below_drew1) | exact HB.out))) : w.heap.size ≤ gb122)); have n3_ := Aside0.mk ((by rw [hg]; exact (below_size (by repeat (first | (with_reducible first | exact HB.out | apply below_alloc | apply pw_below_drewN | apply below_drew1) | exact HB.out))) : w.heap.size ≤ gb122)); clear HB; have HB := n0_; have BK122 := n1_; have GW122 := n2_; have GE122 := n3_; clear n0_ n1_ n2_ n3_; clear hb hbox hg; have hcz21_0 : w20.cell? ⟨gb122, 0, none⟩ = some (.slice A0_0 l0_0.length c0_0) := (blk_cell BK122.out 0).trans rfl; have hfz21_0 := blk_frozen BK122.out 0) | ((with_reducible refine gate_callee (f := 53) rfl ?_); refine goesL_ (some 11) rfl rfl Tryz.func53 (by kernel_rfl) rfl #[.agg #[.slice A0_0 l0_0.length c0_0]] rfl (by (try simp only [List.map_toArray, List.map_cons, List.map_nil]); first | done | rfl | (simp only [List.length_drop, List.length_take]; rfl)) ?_; (with_reducible refine (gCheck.calls _ _ l0_0 t123 _ ?side1 ?side2 A3.out).mono ?_); (case side1 => repeat (first | exact (Kd.C_below HR0_0.out HB.out) | (with_reducible refine Kd.C_alloc ?_ _) | (with_reducible refine Kd.C_drewN ?_ _) | (with_reducible refine Kd.C_drew ?_))); (case side2 => exact HC0_0.out); rintro e w22 ⟨rfl, hb⟩; refine ⟨_, rfl, ?_⟩; have n0_ := Aside0.mk (blk_below (g := gb122) (o := .cells #[.slice A0_0 l0_0.length c0_0] 24 (0, 0)) (by (with_reducible repeat (first | refine blk_drewN ?_ _ | refine blk_drew ?_ | refine blk_alloc ?_ _)); exact BK122.out) hb); have n1_ := Aside0.mk (below_step (by repeat (first | (with_reducible first | exact HB.out | apply below_alloc | apply pw_below_drewN | apply below_drew1 | refine below_set ?_ GE122.out) | exact HB.out)) hb); clear BK122; clear HB; have BK122 := n0_; have HB := n1_; clear n0_ n1_; (try clear hb); (try clear hb2); (try clear hk); (try clear hi)))
    go_ret2
    exact ⟨by first | rfl | (simp [errW_none, errW_some] <;> rfl) | (simp [*, errW_none, errW_some] <;> rfl), by repeat (first | (with_reducible first | exact HB.out | apply below_alloc | apply pw_below_drewN | apply below_drew1 | refine below_set ?_ GE122.out) | exact HB.out)⟩
end Go.Proofs.YtfnibmcenjiodaaGreatDoor.S
namespace Go.Proofs.YtfnibmcenjiodaaGreatDoor.M
open Go.Sort Go.Shelf Go.RowKit Go.Maps Go.Proofs.YtfnibmcenjiodaaGreatDoorW.PrintWords Go.Proofs.YtfnibmcenjiodaaGreatDoorW.PrintLast Go.Proofs.YtfnibmcenjiodaaGreatDoorW.PrintMore
abbrev oneW : List ByteArray := [⟨#[46]⟩, ⟨#[45, 46]⟩, ⟨#[45, 45]⟩]
abbrev twoW : List ByteArray := [⟨#[46]⟩, ⟨#[46, 45]⟩, ⟨#[45, 46]⟩]
theorem codeOk_of {l : List ByteArray} (h1 : inB 1 7 [(l.length : Int)] = true) (h2 : l.all wordOk = true) (h3 : l.Nodup) : codeOk l = true := by
  unfold codeOk
  rw [h1, h2, (N.distinct_iff l).2 h3]; rfl
theorem one_ok : codeOk oneW = true := codeOk_of (by decide +kernel) (by decide +kernel) (by decide +kernel)
theorem two_ok : codeOk twoW = true := codeOk_of (by decide +kernel) (by decide +kernel) (by decide +kernel)
def FreeP (ws : List ByteArray) : Prop := ∀ v ∈ ws, ∀ x ∈ ws, v ≠ x → ¬ v.data.toList <+: x.data.toList
theorem free_unique {ws : List ByteArray} (h : codeOk ws = true) (hf : FreeP ws) : ∀ t, waysV ws t < 2 := by
  intro t
  rcases (show waysV ws t < 2 ∨ 2 ≤ waysV ws t by omega) with h2 | h2
  · exact h2
  · exfalso
    obtain ⟨t', L, _⟩ := two_lead (codeOk_pos h) (codeOk_nodup h) h2
    obtain ⟨v, x, xs, ys, hv, hx, hvx, _, _, hh⟩ := lead_rows L
    have key : ∀ (a b : ByteArray) (xs ys : List ByteArray), a ∈ ws → b ∈ ws → a ≠ b → t'.data.toList = catW (a :: xs) → t'.data.toList = catW (b :: ys) → False := by
      intro a b xs ys ha hb hab e1 e2
      rw [catW_cons] at e1 e2
      rcases Nat.le_total a.data.toList.length b.data.toList.length with hl | hl
      · exact hf a ha b hb hab (List.prefix_of_prefix_length_le ⟨_, e1.symm⟩ ⟨_, e2.symm⟩ hl)
      · exact hf b hb a ha (Ne.symm hab) (List.prefix_of_prefix_length_le ⟨_, e2.symm⟩ ⟨_, e1.symm⟩ hl)
    rcases hh with ⟨e1, e2⟩ | ⟨e1, e2⟩
    · exact key x v xs ys hx hv (Ne.symm hvx) e1 (by simpa using e2)
    · exact key v x xs ys hv hx hvx e1 (by simpa using e2)
theorem free_of_B {ws : List ByteArray} (h : freeB ws = true) : FreeP ws := by
  have hp := (freeB_iff ws).1 h
  intro v hv x hx hvx
  obtain ⟨i, hi, rfl⟩ := List.getElem_of_mem hv
  obtain ⟨j, hj, rfl⟩ := List.getElem_of_mem hx
  have hpw := List.pairwise_iff_getElem.1 hp
  rcases Nat.lt_trichotomy i j with h | rfl | h
  · exact (apart_iff.1 (hpw i j hi hj h)).1
  · exact absurd rfl hvx
  · exact (apart_iff.1 (hpw j i hj hi h)).2
theorem one_free : FreeP oneW := by
  intro v hv x hx
  simp only [List.mem_cons, List.not_mem_nil, or_false] at hv hx
  rcases hv with rfl | rfl | rfl <;> rcases hx with rfl | rfl | rfl <;> simp <;> decide
theorem one_unique : uniqueR oneW = (true, 0) := by
  unfold uniqueR; rw [if_pos one_ok, double_none one_ok (free_unique one_ok one_free)]; rfl
theorem ways_signs {ws : List ByteArray} (h : codeOk ws = true) {s : ByteArray} (hs : 0 < waysV ws s) : ∀ b ∈ s.data.toList, b = 45 ∨ b = 46 := by
  have := (onR_ways (codeOk_pos h) s).2 hs
  intro b hb
  exact onR_sign (codeOk_pos h) (codeOk_signs h) _ _ this b (by simpa using hb)
theorem signs_of_size {s : ByteArray} (h : ∀ b ∈ s.data.toList, b = 45 ∨ b = 46) : (s.size = 0 → s = ⟨#[]⟩) ∧ (s.size = 1 → ∃ a, s = ⟨#[a]⟩ ∧ (a = 45 ∨ a = 46)) ∧ (s.size = 2 → ∃ a b, s = ⟨#[a, b]⟩ ∧ (a = 45 ∨ a = 46) ∧ (b = 45 ∨ b = 46)) ∧ (s.size = 3 → ∃ a b c, s = ⟨#[a, b, c]⟩ ∧ (a = 45 ∨ a = 46) ∧ (b = 45 ∨ b = 46) ∧ (c = 45 ∨ c = 46)) := by
  obtain ⟨⟨l⟩⟩ := s
  have e : (⟨⟨l⟩⟩ : ByteArray).size = l.length := rfl
  rw [e]
  refine ⟨fun hl => ?_, fun hl => ?_, fun hl => ?_, fun hl => ?_⟩
  · match l, hl with
    | [], _ => rfl
  · match l, hl, h with
    | [a], _, h => exact ⟨a, rfl, h a (by simp)⟩
  · match l, hl, h with
    | [a, b], _, h => exact ⟨a, b, rfl, h a (by simp), h b (by simp)⟩
  · match l, hl, h with
    | [a, b, c], _, h => exact ⟨a, b, c, rfl, h a (by simp), h b (by simp), h c (by simp)⟩
theorem two_double : doubleR twoW = (⟨#[46, 45, 46]⟩, 0) := by
  refine double_some two_ok ⟨by decide +kernel, fun t ht => ?_⟩
  obtain ⟨h0, h1, h2, h3⟩ := signs_of_size (ways_signs two_ok (s := t) (by omega))
  rcases (show t.size = 0 ∨ t.size = 1 ∨ t.size = 2 ∨ t.size = 3 ∨ 3 < t.size by omega) with h | h | h | h | h
  · rw [h0 h] at ht; exact absurd ht (by decide +kernel)
  · obtain ⟨a, rfl, ha⟩ := h1 h
    rcases ha with rfl | rfl <;> exact absurd ht (by decide +kernel)
  · obtain ⟨a, b, rfl, ha, hb⟩ := h2 h
    rcases ha with rfl | rfl <;> rcases hb with rfl | rfl <;> exact absurd ht (by decide +kernel)
  · obtain ⟨a, b, c, rfl, ha, hb, hc⟩ := h3 h
    rcases ha with rfl | rfl <;> rcases hb with rfl | rfl <;> rcases hc with rfl | rfl <;> first
      | exact absurd ht (by decide +kernel)
      | exact leT_refl _
  · exact ⟨Nat.le_of_lt h, fun e => absurd e (by show ¬ t.size = 3; omega)⟩
theorem one_slip : slipR oneW = (⟨#[45, 45]⟩, ⟨#[45, 46]⟩, 0) := by
  refine slip_some one_ok (t := (⟨#[45, 45]⟩, ⟨#[45, 46]⟩)) ⟨⟨rfl, by decide +kernel, by decide +kernel, by decide +kernel⟩, fun u hu => ?_⟩
  obtain ⟨u, v⟩ := u
  obtain ⟨e, hu1, hu2, hd⟩ := hu
  dsimp only at e hu1 hu2 hd ⊢
  obtain ⟨h0, h1, h2, h3⟩ := signs_of_size (ways_signs one_ok hu1)
  obtain ⟨k0, k1, k2, k3⟩ := signs_of_size (ways_signs one_ok hu2)
  rcases (show u.size = 0 ∨ u.size = 1 ∨ u.size = 2 ∨ 2 < u.size by omega) with h | h | h | h
  · rw [h0 h, k0 (by omega)] at hd; exact absurd hd (by decide)
  · obtain ⟨a, rfl, ha⟩ := h1 h
    obtain ⟨b, rfl, hb⟩ := k1 (by omega)
    exfalso
    rcases ha with rfl | rfl <;> rcases hb with rfl | rfl <;> first
      | exact absurd hu1 (by decide +kernel)
      | exact absurd hu2 (by decide +kernel)
      | exact absurd hd (by decide +kernel)
  · obtain ⟨a, b, rfl, ha, hb⟩ := h2 h
    obtain ⟨c, d, rfl, hc, hd'⟩ := k2 (by omega)
    refine ⟨Nat.le_refl _, fun _ hbf => ?_⟩
    unfold bef at hbf
    rw [befI_neg] at hbf
    rcases ha with rfl | rfl <;> rcases hb with rfl | rfl <;> rcases hc with rfl | rfl <;> rcases hd' with rfl | rfl <;> first
      | exact absurd hd (by decide +kernel)
      | exact absurd hu1 (by decide +kernel)
      | exact absurd hu2 (by decide +kernel)
      | exact absurd hbf (by simp only [Lib.toList_data]; decide +kernel)
  · exact ⟨Nat.le_of_lt h, fun e => absurd e (by show ¬ u.size = 2; omega)⟩
theorem one_given (s : ByteArray) (h1 : s.size ≤ 250) (h2 : isSigns s = true) : givenE oneW s = 0 := by
  unfold givenE; rw [if_pos one_ok, if_neg (by omega), if_pos h2]
theorem two_given (s : ByteArray) (h1 : s.size ≤ 250) (h2 : isSigns s = true) : givenE twoW s = 0 := by
  unfold givenE; rw [if_pos two_ok, if_neg (by omega), if_pos h2]
theorem one_send : sendR oneW [1, 3, 2] = (⟨#[46, 45, 45, 45, 46]⟩, 0) := by
  unfold sendR; rw [if_pos one_ok]; decide +kernel
theorem one_read : readR oneW ⟨#[46, 45, 45, 45, 46]⟩ = ([1, 3, 2], 0) := by
  unfold readR; rw [if_pos (one_given _ (by decide) (by decide +kernel))]; decide +kernel
theorem two_count : countR twoW ⟨#[46, 45, 46]⟩ = (2, 0) := by
  unfold countR; rw [if_pos (two_given _ (by decide) (by decide +kernel))]; decide +kernel
theorem one_mend : mendR oneW ⟨#[45, 46, 45]⟩ = ([⟨#[45, 46, 46]⟩], 0) := by
  unfold mendR; rw [if_pos (one_given _ (by decide) (by decide +kernel))]
  have : mendTo oneW ⟨#[45, 46, 45]⟩ (⟨#[45, 46, 45]⟩ : ByteArray).size = [⟨#[45, 46, 46]⟩] := by decide +kernel
  unfold mendSorted
  rw [this]
  decide +kernel
theorem write_is : writeR [0, 3, 1] = (⟨#[45, 46, 46, 45, 46, 46, 46, 45, 46]⟩, 0) := by decide +kernel
theorem numbers_is : numbersR ⟨#[45, 46, 46, 45, 46, 46, 46, 45, 46]⟩ = ([0, 3, 1], 0) := by decide +kernel
theorem gCheck_ok {l : List ByteArray} (h : codeOk l = true) : gCheck.f l = some 0 := by
  unfold gCheck.f
  rw [if_pos (List.all_eq_true.2 (fun x hx => by have := codeOk_words h x hx; simp; omega))]
  unfold checkE; rw [if_pos h]
theorem one_share : S.wire_Share.f 100 oneW = some (1, 1, 0) := by
  unfold S.wire_Share.f; rw [gCheck_ok one_ok]; decide +kernel
theorem one_cost : S.wire_Cost.f 100 oneW [5, 2, 2] = some (13, 0) := by
  unfold S.wire_Cost.f; rw [gCheck_ok one_ok]; decide +kernel
end Go.Proofs.YtfnibmcenjiodaaGreatDoor.M
namespace Go.Proofs.YtfnibmcenjiodaaGreatDoor.N
open Go.Sort Go.Shelf Go.RowKit Go.Proofs.YtfnibmcenjiodaaGreatDoorW.PrintWords Go.Proofs.YtfnibmcenjiodaaGreatDoorW.PrintLast Go.Proofs.YtfnibmcenjiodaaGreatDoorW.PrintMore
open Go.Proofs.YtfnibmcenjiodaaGreatDoor.M Go.Proofs.YtfnibmcenjiodaaGreatDoor.R
theorem Rd_nat (l : List Int) (i : Nat) (h : i < l.length) : Go.Proofs.YtfnibmcenjiodaaGreatDoorW.PrintWords.rd l (i : Int) = l[i] := rd_nat l i h
def msgOf (l : List ByteArray) (o : List Int) : ByteArray × Bool := match sendLoop l [] o with | some s => (⟨s.toArray⟩, true) | none => (⟨#[]⟩, false)
def msgFrom (l : List ByteArray) (acc : ByteArray) (o : List Int) : ByteArray × Bool := match sendLoop l acc.data.toList o with | some s => (⟨s.toArray⟩, true) | none => (⟨#[]⟩, false)
theorem sendLoop_big (l : List ByteArray) : ∀ (acc : List UInt8) (o : List Int), 250 < acc.length → sendLoop l acc o = none
  | acc, [], h => by simp [sendLoop, h]
  | acc, n :: r, h => by simp [sendLoop, h]
theorem inB_one (n : Nat) (z : Int) : inB 1 n [z] = decide (1 ≤ z ∧ z ≤ (n : Int)) := by rw [Bool.eq_iff_iff]; simp [inB]
theorem data_append (a b : ByteArray) : (a ++ b).data.toList = a.data.toList ++ b.data.toList := by
  rw [ByteArray.data_append, Array.toList_append]
theorem message_l0 (l : List ByteArray) (hl : l.length ≤ 12) (hw : ∀ x ∈ l, x.size ≤ 12) (o : List Int) (ho : o.length < 4611686018427387904) (hov : ∀ z ∈ o, -9223372036854775808 ≤ z ∧ z ≤ 9223372036854775807) : ∀ (k i : Nat) (acc : ByteArray), acc.size ≤ 250 → o.length - i < k → i ≤ o.length →
    oilcakeref11_Message.l0 k acc o (o.length : Int) (i : Int) l = some (msgFrom l acc (o.drop i))
  | 0, _, _, _, h, _ => by omega
  | k + 1, i, acc, ha, h, hi => by
    unfold oilcakeref11_Message.l0
    by_cases hlt : i < o.length
    · rw [if_pos (by omega), if_pos (by omega), if_pos (by omega), Rd_nat _ _ hlt, within_f, List.drop_eq_getElem_cons hlt]
      simp only [Option.bind_some]
      unfold msgFrom
      rw [sendLoop, inB_one]
      by_cases hb : 1 ≤ o[i] ∧ o[i] ≤ (l.length : Int)
      · rw [if_pos (by simpa using hb), w64 (o[i] - 1) (by omega), if_pos (by omega), if_pos (by omega)]
        have hz : rdOf ByteArray.empty l (o[i] - 1) ∈ l := by
          obtain ⟨j, hj⟩ := Int.eq_ofNat_of_zero_le (show 0 ≤ o[i] - 1 by omega)
          rw [hj, rdOf_nat _ _ _ (by omega)]
          exact List.getElem_mem _
        have hsz := hw _ hz
        rw [if_pos (by omega)]
        have hal : acc.data.toList.length = acc.size := by rw [data_length]
        by_cases hbig : 250 < (acc ++ rdOf ByteArray.empty l (o[i] - 1)).size
        · rw [if_pos (by omega)]
          rw [if_pos (by simp [hb, hal]; omega), sendLoop_big]
          · rw [← data_append]
            show 250 < (acc ++ rdOf ByteArray.empty l (o[i] - 1)).data.toList.length
            rw [data_length]; exact hbig
        · rw [if_neg (by omega), w64s _ (by omega), message_l0 l hl hw o ho hov k (i + 1) _ (by omega) (by omega) (by omega)]
          rw [if_pos (by simp [hb, hal]; omega)]
          unfold msgFrom wordAt
          rw [data_append]
      · rw [if_neg (by simpa using hb)]
        rw [if_neg (by simp; intro h1 h2; omega)]
    · rw [if_neg (by omega), List.drop_eq_nil_of_le (by omega)]
      unfold msgFrom
      have hal : acc.data.toList.length = acc.size := by rw [data_length]
      rw [sendLoop, if_neg (by omega)]
theorem message_f (l : List ByteArray) (hl : l.length ≤ 12) (hw : ∀ x ∈ l, x.size ≤ 12) (o : List Int) (ho : o.length < 4611686018427387904) (hov : ∀ z ∈ o, -9223372036854775808 ≤ z ∧ z ≤ 9223372036854775807) (k : Nat) (hk : o.length < k) : oilcakeref11_Message.f k l o = some (msgOf l o) := by
  unfold oilcakeref11_Message.f
  have := message_l0 l hl hw o ho hov k 0 ⟨#[]⟩ (by decide) (by omega) (by omega)
  rw [show ((0 : Nat) : Int) = 0 from rfl] at this
  rw [this]; rfl
theorem startsB_size {s x : ByteArray} (h : startsB s x = true) : x.size ≤ s.size := by have := restOf_size s x h; omega
theorem begins_f (s x : ByteArray) : oilcakeref11_begins.f s x = some (startsB s x) := by
  unfold oilcakeref11_begins.f
  by_cases h : x.size ≤ s.size
  · rw [if_pos (by omega), if_pos (by omega), if_pos (by omega)]
    congr 1
    rw [Bool.eq_iff_iff, beq_iff_eq, Lib.toList_data, Lib.toList_data, Int.toNat_natCast]
    unfold startsB Lib.hasPrefix
    rw [List.isPrefixOf_iff_prefix, List.prefix_iff_eq_take]
    rw [ByteArray.data_extract, Array.toList_extract, List.extract_eq_take_drop, data_length]
    simp only [List.drop_zero, Nat.sub_zero]
    exact eq_comm
  · rw [if_neg (by omega)]
    congr 1
    symm
    rw [← Bool.not_eq_true]
    intro e
    exact h (startsB_size e)
def sfx (s : ByteArray) (j : Nat) : ByteArray := s.extract j s.size
theorem sfx_data (s : ByteArray) (j : Nat) : (sfx s j).data.toList = s.data.toList.drop j := by
  unfold sfx
  rw [ByteArray.data_extract, Array.toList_extract, List.extract_eq_take_drop]
  apply List.take_of_length_le
  rw [List.length_drop, data_length]
  exact Nat.le_refl _
theorem sfx_size (s : ByteArray) (j : Nat) : (sfx s j).size = s.size - j := by
  have := congrArg List.length (sfx_data s j)
  rw [data_length, List.length_drop, data_length] at this
  exact this
theorem sfx_zero (s : ByteArray) : sfx s 0 = s := data_inj (by rw [sfx_data]; rfl)
theorem sfx_end (s : ByteArray) : sfx s s.size = ⟨#[]⟩ := data_inj (by rw [sfx_data]; exact List.drop_eq_nil_of_le (by rw [data_length]; exact Nat.le_refl _))
theorem restOf_sfx (s : ByteArray) (i : Nat) (x : ByteArray) (h : startsB (sfx s i) x = true) : restOf (sfx s i) x = sfx s (i + x.size) := by
  apply data_inj
  rw [sfx_data]
  unfold restOf
  show Lib.trimPrefix _ _ = _
  unfold Lib.trimPrefix
  rw [if_pos (show Lib.hasPrefix _ _ = true from h), sfx_data, List.drop_drop, data_length]
def wfold (ws : List ByteArray) (s : ByteArray) (m : Nat) : Int := (headsTo ws s m).foldl (fun n x => min 1000001 (n + waysV ws x.2)) 0
theorem waysV_bd (ws : List ByteArray) (s : ByteArray) : 0 ≤ waysV ws s ∧ waysV ws s ≤ 1000001 := waysF_bound ws _ s
theorem wfold_bd (ws : List ByteArray) (s : ByteArray) (m : Nat) : 0 ≤ wfold ws s m ∧ wfold ws s m ≤ 1000001 := fold_bound (fun x => waysV ws x.2) (fun x => (waysV_bd ws x.2).1) (headsTo ws s m) 0 ⟨by decide, by decide⟩
theorem wfold_succ (ws : List ByteArray) (s : ByteArray) (m : Nat) : wfold ws s (m + 1) = if startsB s (rdOf ByteArray.empty ws m) = true then min 1000001 (wfold ws s m + waysV ws (restOf s (rdOf ByteArray.empty ws m))) else wfold ws s m := by
  unfold wfold
  rw [headsTo_succ, List.foldl_append]
  unfold headAt
  split <;> rfl
def arrW (ws : List ByteArray) (s : ByteArray) (i : Nat) (v : Int) : List Int := (List.range (s.size + 1)).map fun j => if j = i then v else if i < j then waysV ws (sfx s j) else 0
def waysL (ws : List ByteArray) (s : ByteArray) : List Int := (List.range (s.size + 1)).map fun j => waysV ws (sfx s j)
theorem arrW_len (ws : List ByteArray) (s : ByteArray) (i : Nat) (v : Int) : (arrW ws s i v).length = s.size + 1 := by simp [arrW]
theorem arrW_at (ws : List ByteArray) (s : ByteArray) (i : Nat) (v : Int) (j : Nat) (h : j ≤ s.size) : Go.Proofs.YtfnibmcenjiodaaGreatDoorW.PrintWords.rd (arrW ws s i v) (j : Int) = if j = i then v else if i < j then waysV ws (sfx s j) else 0 := by
  rw [Rd_nat _ _ (by rw [arrW_len]; omega)]; simp [arrW]
theorem arrW_set (ws : List ByteArray) (s : ByteArray) (i : Nat) (v v' : Int) : (arrW ws s i v).set i v' = arrW ws s i v' := by
  apply List.ext_getElem
  · simp [arrW]
  · intro j h1 h2
    rw [List.getElem_set]
    simp only [arrW, List.getElem_map, List.getElem_range]
    by_cases h : j = i
    · subst h; simp
    · rw [if_neg (fun e => h e.symm), if_neg h, if_neg h]
theorem arrW_down (ws : List ByteArray) (s : ByteArray) (i : Nat) : arrW ws s (i + 1) (waysV ws (sfx s (i + 1))) = arrW ws s i 0 := by
  unfold arrW
  apply List.map_congr_left
  intro j _
  by_cases h1 : j = i + 1
  · rw [if_pos h1, if_neg (by omega), if_pos (by omega), h1]
  · by_cases h2 : j = i
    · rw [if_neg h1, if_pos h2, if_neg (by omega)]
    · rw [if_neg h1, if_neg h2]
      by_cases h3 : i + 1 < j
      · rw [if_pos h3, if_pos (by omega)]
      · rw [if_neg h3, if_neg (by omega)]
theorem arrW_zero (ws : List ByteArray) (s : ByteArray) : arrW ws s 0 (waysV ws (sfx s 0)) = waysL ws s := by
  unfold arrW waysL
  apply List.map_congr_left
  intro j _
  by_cases h : j = 0
  · rw [if_pos h, h]
  · rw [if_neg h, if_pos (by omega)]
theorem ways_l (ws : List ByteArray) (hl : ws.length ≤ 12) (hw : ∀ x ∈ ws, 1 ≤ x.size ∧ x.size ≤ 12) (s : ByteArray) (hs : s.size < 4611686018427) : ∀ k : Nat,
    (∀ i : Nat, i ≤ s.size → 20 * i + 2 < k → oilcakeref11_Ways.l0 k s (arrW ws s i (waysV ws (sfx s i))) ((i : Int) - 1) ws = some (waysL ws s)) ∧
    (∀ i m : Nat, i < s.size → m ≤ ws.length → 20 * i + 4 + (ws.length - m) < k → oilcakeref11_Ways.l1 k s (arrW ws s i (wfold ws (sfx s i) m)) (i : Int) ws (ws.length : Int) (m : Int) ws = some (waysL ws s))
  | 0 => ⟨fun _ _ h => by omega, fun _ _ _ _ h => by omega⟩
  | k + 1 => by
    obtain ⟨ih0, ih1⟩ := ways_l ws hl hw s hs k
    refine ⟨fun i hi hk => ?_, fun i m hi hm hk => ?_⟩
    · unfold oilcakeref11_Ways.l0
      cases i with
      | zero => rw [if_neg (by omega), arrW_zero]
      | succ i =>
        rw [if_pos (by omega), arrW_down, show ((i + 1 : Nat) : Int) - 1 = (i : Int) by omega]
        have := ih1 i 0 (by omega) (by omega) (by omega)
        rw [show ((0 : Nat) : Int) = 0 from rfl] at this
        exact this
    · unfold oilcakeref11_Ways.l1
      by_cases hlt : m < ws.length
      · have hmem : rdOf ByteArray.empty ws (m : Int) ∈ ws := by rw [rdOf_nat _ _ _ hlt]; exact List.getElem_mem hlt
        have hsz := hw _ hmem
        have hsc := wfold_succ ws (sfx s i) m
        have hnext := ih1 i (m + 1) hi (by omega) (by omega)
        have c1 : (m : Int) < (ws.length : Int) := by omega
        have c2 : (0 : Int) ≤ (m : Int) := by omega
        have c3 : (0 : Int) ≤ (i : Int) := by omega
        have c4 : (i : Int) ≤ (s.size : Int) := by omega
        rw [if_pos c1, if_pos c2, if_pos c1, if_pos c3, if_pos c4, Int.toNat_natCast, show s.extract i s.size = sfx s i from rfl, begins_f]
        simp only [Option.bind_some]
        rw [w64s m (by omega)]
        obtain ⟨x, hx⟩ : ∃ x, x = rdOf ByteArray.empty ws (m : Int) := ⟨_, rfl⟩
        rw [← hx] at hsz hsc ⊢
        clear hx hmem
        cases hst : startsB (sfx s i) x
        · rw [hst] at hsc
          simp only [Bool.false_eq_true, if_false] at hsc ⊢
          rw [← hsc]
          exact hnext
        · rw [hst] at hsc
          simp only [if_true] at hsc ⊢
          have hle := startsB_size hst
          rw [sfx_size] at hle
          rw [restOf_sfx _ _ _ hst] at hsc
          have hb1 := wfold_bd ws (sfx s i) m
          have hb2 := waysV_bd ws (sfx s (i + x.size))
          have hat1 := arrW_at ws s i (wfold ws (sfx s i) m) i (by omega)
          have hat2 := arrW_at ws s i (wfold ws (sfx s i) m) (i + x.size) (by omega)
          have hlen := arrW_len ws s i (wfold ws (sfx s i) m)
          have hset := arrW_set ws s i (wfold ws (sfx s i) m) (wfold ws (sfx s i) (m + 1))
          rw [if_pos rfl] at hat1
          rw [if_neg (by omega), if_pos (by omega)] at hat2
          rw [← hset] at hnext
          clear hset
          obtain ⟨L, hL⟩ : ∃ L, L = arrW ws s i (wfold ws (sfx s i) m) := ⟨_, rfl⟩
          rw [← hL] at hat1 hat2 hlen hnext ⊢
          clear hL
          obtain ⟨a, ha⟩ : ∃ a, a = wfold ws (sfx s i) m := ⟨_, rfl⟩
          obtain ⟨b, hb⟩ : ∃ b, b = waysV ws (sfx s (i + x.size)) := ⟨_, rfl⟩
          obtain ⟨d, hd⟩ : ∃ d, d = wfold ws (sfx s i) (m + 1) := ⟨_, rfl⟩
          rw [← ha] at hat1 hb1 hsc
          rw [← hb] at hat2 hb2 hsc
          rw [← hd] at hsc hnext
          clear ha hb hd ih0 ih1 hst
          have c5 : (i : Int) < (L.length : Int) := by rw [hlen]; omega
          have c6 : (0 : Int) ≤ ((i + x.size : Nat) : Int) := by omega
          have c7 : ((i + x.size : Nat) : Int) < (L.length : Int) := by rw [hlen]; omega
          have hix : wrap64 ((i : Int) + (x.size : Int)) = ((i + x.size : Nat) : Int) := by rw [w64 _ (by omega)]; omega
          have hmn : mn 1000001 (wrap64 (a + b)) = d := by
            rw [hsc, w64 _ (by omega)]
            unfold mn
            split <;> omega
          rw [hix, if_pos c5, if_pos c6, if_pos c7, hat1, hat2, hmn]
          exact hnext
      · obtain rfl : m = ws.length := by omega
        rw [if_neg (by omega)]
        have hfin : wfold ws (sfx s i) ws.length = waysV ws (sfx s i) := by
          rw [waysV_step ws (fun x hx => (hw x hx).1) _ (by rw [sfx_size]; omega)]; rfl
        rw [hfin, w64 _ (by omega)]
        exact ih0 i (by omega) (by omega)
theorem ways_f (ws : List ByteArray) (hl : ws.length ≤ 12) (hw : ∀ x ∈ ws, 1 ≤ x.size ∧ x.size ≤ 12) (s : ByteArray) (hs : s.size < 4611686018427) (k : Nat) (hk : 20 * s.size + 2 < k) : oilcakeref11_Ways.f k ws s = some (waysL ws s) := by
  unfold oilcakeref11_Ways.f
  rw [w64s _ (by omega), if_pos (by omega), Int.toNat_natCast, if_pos (by omega)]
  simp only [Option.bind_some]
  rw [if_pos (by omega), if_pos (by rw [List.length_replicate]; omega), Int.toNat_natCast, w64 _ (by omega)]
  have h0 : (List.replicate (s.size + 1) (0 : Int)).set s.size 1 = arrW ws s s.size (waysV ws (sfx s s.size)) := by
    apply List.ext_getElem
    · simp [arrW]
    · intro j h1 h2
      simp at h1
      rw [List.getElem_set]
      simp only [arrW, List.getElem_map, List.getElem_range, List.getElem_replicate]
      by_cases h : s.size = j
      · rw [if_pos h, if_pos h.symm, sfx_end, waysV_empty]
      · rw [if_neg h, if_neg (fun e => h e.symm), if_neg (by omega)]
  rw [h0]
  exact (ways_l ws hl hw s hs k).1 s.size (Nat.le_refl _) hk
theorem waysL_zero (ws : List ByteArray) (s : ByteArray) : Go.Proofs.YtfnibmcenjiodaaGreatDoorW.PrintWords.rd (waysL ws s) 0 = waysV ws s := by
  have := Rd_nat (waysL ws s) 0 (by simp [waysL])
  rw [show ((0 : Nat) : Int) = 0 from rfl] at this
  rw [this]; simp [waysL, sfx_zero]
theorem waysL_len (ws : List ByteArray) (s : ByteArray) : (waysL ws s).length = s.size + 1 := by simp [waysL]
end Go.Proofs.YtfnibmcenjiodaaGreatDoor.N
namespace Go.Proofs.YtfnibmcenjiodaaGreatDoor.R
open Go.Sort Go.Shelf Go.RowKit Go.Proofs.YtfnibmcenjiodaaGreatDoorW.PrintWords Go.Proofs.YtfnibmcenjiodaaGreatDoorW.PrintLast Go.Proofs.YtfnibmcenjiodaaGreatDoorW.PrintMore
open Go.Proofs.YtfnibmcenjiodaaGreatDoor.M
def gTurned.f (a0 : ByteArray) (a1 : Int) : Option ByteArray := if 0 ≤ a1 ∧ a1 < (a0.size : Int) ∧ a0.size ≤ 1099511627776 then some (turnAt a0 a1.toNat) else none
set_option maxRecDepth 100000 in
set_option maxHeartbeats 4000000 in
theorem gTurned.calls (a0 : ByteArray) (a1 : Int) (r : ByteArray) (w : World) (h : gTurned.f a0 a1 = some r) :
    Calls Tryz.prog 36 #[.string a0, .int .i64 a1] w fun e w' => e = .returned (.string r) ∧ Drawn0 w w' := by
  unfold gTurned.f at h
  split at h
  · rename_i hc
    obtain ⟨h0, h1, hs⟩ := hc
    obtain ⟨i, rfl⟩ := Int.eq_ofNat_of_zero_le h0
    simp only [Int.toNat_natCast, Option.some.injEq] at h
    have hi : i < a0.size := by omega
    subst h
    have k0 : (0 : Int) ≤ (i : Int) := by omega
    have k1 : (i : Int) ≤ (a0.size : Int) := by omega
    have k3 : (i : Int) + 1 ≤ (a0.size : Int) := by omega
    have k4 : (0 : Int) ≤ (i : Int) + 1 := by omega
    have k5 : IntKind.i64.wrap ((i : Int) + 1) = (i : Int) + 1 := IntWalk.i64_in _ (by omega)
    have k6 : ((i : Int) + 1).toNat = i + 1 := by omega
    have f1 : ¬ 9223372036854775807 < min i a0.size + 1 := by omega
    have f2 : ¬ 9223372036854775807 < min i a0.size + 1 + (a0.size - (i + 1)) := by omega
    by_cases hd : a0.data[i]'hi = 45
    · have ht : turnAt a0 i = a0.extract 0 i ++ dotS ++ a0.extract (i + 1) a0.size := by unfold turnAt; rw [show a0.data.getD i 0 = 45 by rw [← hd]; simp only [Array.getD]; exact dif_pos hi]; rfl
      have hb : (((a0[i]'hi).toNat : Int) == 45) = true := by rw [show a0[i]'hi = 45 from hd]; rfl
      go_enter Tryz.func36, Tryz.ntmps36
      go_wp2
      go_region_held3 (fun w' => True) (trivial) (fail)
      go_wp2
      go_ret
      exact ⟨by rw [ht]; rfl, ⟨⟨1, rfl⟩⟩⟩
    · have hne : a0.data[i]'hi = a0[i]'hi := rfl
      have ht : turnAt a0 i = a0.extract 0 i ++ dashS ++ a0.extract (i + 1) a0.size := by
        unfold turnAt
        rw [show a0.data.getD i 0 = a0.data[i]'hi by simp only [Array.getD]; exact dif_pos hi]
        unfold flipB
        rw [if_neg hd]
      have hb : (((a0[i]'hi).toNat : Int) == 45) = false := by
        rw [beq_eq_false_iff_ne]
        intro e
        apply hd
        rw [hne]
        apply UInt8.toNat_inj.1
        have : (45 : UInt8).toNat = 45 := rfl
        omega
      clear hne hd
      go_enter Tryz.func36, Tryz.ntmps36
      go_wp2
      go_region_held3 (fun w' => True) (trivial) (fail)
      go_wp2
      go_ret
      exact ⟨by rw [ht]; rfl, ⟨⟨1, rfl⟩⟩⟩
  · cases h
end Go.Proofs.YtfnibmcenjiodaaGreatDoor.R
namespace Go.Proofs.YtfnibmcenjiodaaGreatDoor.R
open Go.RowKit Go.Proofs.YtfnibmcenjiodaaGreatDoorW.PrintWords Go.Proofs.YtfnibmcenjiodaaGreatDoorW.PrintLast Go.Proofs.YtfnibmcenjiodaaGreatDoorW.PrintMore
attribute [local go_sem] max2_int min2_int max_two min_two max_three min_three max_four min_four   -- for this text's walks alone
def oilcakeref01_SameInts.l0 : Nat → List Int → List Int → Int → Option (Bool)
  | 0, _, _, _ => none
  | k + 1, x0, x1, x5 => if x5 < (x0.length : Int) then (if 0 ≤ x5 then (if x5 < (x1.length : Int) then (if (rd x0 x5) = (rd x1 x5) then (oilcakeref01_SameInts.l0 k x0 x1 (wrap64 (x5 + 1))) else (some false)) else (none)) else (none)) else (some true)
def oilcakeref01_SameInts.f (k : Nat) (l0 : List Int) (l1 : List Int) : Option (Bool) := if (l0.length : Int) = (l1.length : Int) then (oilcakeref01_SameInts.l0 k l0 l1 0) else (some false)
set_option maxHeartbeats 8000000 in
set_option maxRecDepth 100000 in
theorem oilcakeref01_SameInts.calls (k : Nat) (A0 : Option Addr) (c0 : Nat) (l0 : List Int) (A1 : Option Addr) (c1 : Nat) (l1 : List Int) (r : Bool) (w : World) (hr0 : Kd.C (Kd.int .i64) w A0 l0.length l0) (hc0 : l0.length ≤ c0) (hr1 : Kd.C (Kd.int .i64) w A1 l1.length l1) (hc1 : l1.length ≤ c1) (h : oilcakeref01_SameInts.f k l0 l1 = some r) :
    Calls Tryz.prog 24 #[.slice A0 l0.length c0, .slice A1 l1.length c1] w fun e w' => e = .returned (.bool r) ∧ Drawn0 w w' := by
  have HR0 := Aside0.mk hr0
  have HC0 := Aside0.mk hc0
  clear hr0 hc0
  have HR1 := Aside0.mk hr1
  have HC1 := Aside0.mk hc1
  clear hr1 hc1
  have H : (if (l0.length : Int) = (l1.length : Int) then (oilcakeref01_SameInts.l0 k l0 l1 0) else (some false)) = some r := h
  clear h
  by_cases c3 : (l0.length : Int) = (l1.length : Int)
  · rw [if_pos c3] at H
    have c3b0 : ((l0.length : Int) == (l1.length : Int)) = true := beq_iff_eq.mpr c3
    have c3b1 : ((l0.length : Int) != (l1.length : Int)) = false := bne_eq_false_iff_eq.mpr c3
    have c3b2 : (l0.length == l1.length) = true := by first | simpa using c3 | (simp at c3 ⊢; omega)
    clear c3
    have H' := Aside0.mk H
    clear H
    go_enter Tryz.func24, Tryz.ntmps24
    go_wp2
    repeat (go_quiet (fail); try go_wp2)
    go_loopg [5] k (fun kq v5 w' => ∃ (x5_1 : Int), v5 = .int .i64 x5_1 ∧ Aside0 (oilcakeref01_SameInts.l0 kq l0 l1 x5_1 = some r) ∧ Aside0 (kq ≤ k) ∧ Drawn0 w w')
    case atStart => exact ⟨(0), (by first | rfl | (simp; done) | (simp [*]; done)), H', ⟨Nat.le_refl _⟩, by repeat (first | exact Drawn0.refl _ | apply Drawn0.step)⟩
    case round =>
      clear H'
      try clear c1
      try clear c2
      try clear p2
      try clear c3
      try clear c3b0
      try clear c3b1
      try clear c3b2
      obtain ⟨x5_1, rfl, HA, HK1, ⟨m1, rfl⟩⟩ := hrel
      cases gk with
      | zero => exact absurd HA.out (by simp [oilcakeref01_SameInts.l0])
      | succ k1 =>
        have H := HA.out
        clear HA
        simp only [oilcakeref01_SameInts.l0] at H
        by_cases c4 : x5_1 < (l0.length : Int)
        · rw [if_pos c4] at H
          have c4b0 : decide (x5_1 < (l0.length : Int)) = true := decide_eq_true c4
          clear c4
          by_cases c5 : 0 ≤ x5_1
          · rw [if_pos c5] at H
            have c5b0 : decide (0 ≤ x5_1) = true := decide_eq_true c5
            clear c5
            by_cases c6 : x5_1 < (l1.length : Int)
            · rw [if_pos c6] at H
              have c6b0 : decide (x5_1 < (l1.length : Int)) = true := decide_eq_true c6
              clear c6
              by_cases c7 : (rd l0 x5_1) = (rd l1 x5_1)
              · rw [if_pos c7] at H
                have c7b0 : ((rd l0 x5_1) == (rd l1 x5_1)) = true := beq_iff_eq.mpr c7
                have c7b1 : ((rd l0 x5_1) != (rd l1 x5_1)) = false := bne_eq_false_iff_eq.mpr c7
                clear c7
                have H' := Aside0.mk H
                clear H
                have p174 : 0 ≤ (x5_1 : Int) := of_decide_eq_true (by first | (with_reducible assumption) | assumption)
                have q174 : x5_1 < (l0.length : Int) := of_decide_eq_true (by first | (with_reducible assumption) | assumption)
                obtain ⟨ad174, e174, hx174_0⟩ := Kd.at_int HR0.out x5_1 p174 q174
                cases e174
                replace p174 := eq_true p174
                replace q174 := eq_true q174
                have p175 : 0 ≤ (x5_1 : Int) := of_decide_eq_true (by first | (with_reducible assumption) | assumption)
                have q175 : x5_1 < (l1.length : Int) := of_decide_eq_true (by first | (with_reducible assumption) | assumption)
                obtain ⟨ad175, e175, hx175_0⟩ := Kd.at_int HR1.out x5_1 p175 q175
                cases e175
                replace p175 := eq_true p175
                replace q175 := eq_true q175
                go_wp2
                repeat (go_quiet (fail); try go_wp2)
                go_roundg k1
                case measure => have := HK1.out; omega
                case rel => exact ⟨(wrap64 (x5_1 + 1)), (by first | rfl | (simp; done) | (simp [*]; done)), H', ⟨by have := HK1.out; omega⟩, by repeat (first | exact Drawn0.refl _ | apply Drawn0.step)⟩
              · rw [if_neg c7] at H
                have c7b0 : ((rd l0 x5_1) == (rd l1 x5_1)) = false := beq_eq_false_iff_ne.mpr c7
                have c7b1 : ((rd l0 x5_1) != (rd l1 x5_1)) = true := bne_iff_ne.mpr c7
                obtain rfl := Option.some.inj H
                have p174 : 0 ≤ (x5_1 : Int) := of_decide_eq_true (by first | (with_reducible assumption) | assumption)
                have q174 : x5_1 < (l0.length : Int) := of_decide_eq_true (by first | (with_reducible assumption) | assumption)
                obtain ⟨ad174, e174, hx174_0⟩ := Kd.at_int HR0.out x5_1 p174 q174
                cases e174
                replace p174 := eq_true p174
                replace q174 := eq_true q174
                have p175 : 0 ≤ (x5_1 : Int) := of_decide_eq_true (by first | (with_reducible assumption) | assumption)
                have q175 : x5_1 < (l1.length : Int) := of_decide_eq_true (by first | (with_reducible assumption) | assumption)
                obtain ⟨ad175, e175, hx175_0⟩ := Kd.at_int HR1.out x5_1 p175 q175
                cases e175
                replace p175 := eq_true p175
                replace q175 := eq_true q175
                go_wp2
                repeat (go_quiet (fail); try go_wp2)
                go_ret
                exact ⟨by first | rfl | (simp; done) | (simp [*]; done), by repeat (first | exact Drawn0.refl _ | apply Drawn0.step)⟩
            · rw [if_neg c6] at H
              exact absurd H (by simp)
          · rw [if_neg c5] at H
            exact absurd H (by simp)
        · rw [if_neg c4] at H
          have c4b0 : decide (x5_1 < (l0.length : Int)) = false := decide_eq_false c4
          clear c4
          obtain rfl := Option.some.inj H
          go_wp2
          repeat (go_quiet (fail); try go_wp2)
          go_ret
          exact ⟨by first | rfl | (simp; done) | (simp [*]; done), by repeat (first | exact Drawn0.refl _ | apply Drawn0.step)⟩
  · rw [if_neg c3] at H
    have c3b0 : ((l0.length : Int) == (l1.length : Int)) = false := beq_eq_false_iff_ne.mpr c3
    have c3b1 : ((l0.length : Int) != (l1.length : Int)) = true := bne_iff_ne.mpr c3
    have c3b2 : (l0.length == l1.length) = false := by first | simpa using c3 | (simp at c3 ⊢; omega)
    obtain rfl := Option.some.inj H
    go_enter Tryz.func24, Tryz.ntmps24
    go_wp2
    repeat (go_quiet (fail); try go_wp2)
    go_ret
    exact ⟨by first | rfl | (simp; done) | (simp [*]; done), by repeat (first | exact Drawn0.refl _ | apply Drawn0.step)⟩
def oilcakeref11_SameTexts.l0 : Nat → List ByteArray → List ByteArray → Int → Option (Bool)
  | 0, _, _, _ => none
  | k + 1, x0, x1, x5 => if x5 < (x0.length : Int) then (if 0 ≤ x5 then (if x5 < (x1.length : Int) then (if (rdOf ByteArray.empty x0 x5).toList = (rdOf ByteArray.empty x1 x5).toList then (oilcakeref11_SameTexts.l0 k x0 x1 (wrap64 (x5 + 1))) else (some false)) else (none)) else (none)) else (some true)
def oilcakeref11_SameTexts.f (k : Nat) (l0 : List ByteArray) (l1 : List ByteArray) : Option (Bool) := if (l0.length : Int) = (l1.length : Int) then (oilcakeref11_SameTexts.l0 k l0 l1 0) else (some false)
set_option maxHeartbeats 8000000 in
set_option maxRecDepth 100000 in
theorem oilcakeref11_SameTexts.calls (k : Nat) (A0 : Option Addr) (c0 : Nat) (l0 : List ByteArray) (A1 : Option Addr) (c1 : Nat) (l1 : List ByteArray) (r : Bool) (w : World) (hr0 : Kd.C Kd.string w A0 l0.length l0) (hc0 : l0.length ≤ c0) (hr1 : Kd.C Kd.string w A1 l1.length l1) (hc1 : l1.length ≤ c1) (h : oilcakeref11_SameTexts.f k l0 l1 = some r) :
    Calls Tryz.prog 25 #[.slice A0 l0.length c0, .slice A1 l1.length c1] w fun e w' => e = .returned (.bool r) ∧ Drawn0 w w' := by
  have HR0 := Aside0.mk hr0
  have HC0 := Aside0.mk hc0
  clear hr0 hc0
  have HR1 := Aside0.mk hr1
  have HC1 := Aside0.mk hc1
  clear hr1 hc1
  have H : (if (l0.length : Int) = (l1.length : Int) then (oilcakeref11_SameTexts.l0 k l0 l1 0) else (some false)) = some r := h
  clear h
  by_cases c3 : (l0.length : Int) = (l1.length : Int)
  · rw [if_pos c3] at H
    have c3b0 : ((l0.length : Int) == (l1.length : Int)) = true := beq_iff_eq.mpr c3
    have c3b1 : ((l0.length : Int) != (l1.length : Int)) = false := bne_eq_false_iff_eq.mpr c3
    have c3b2 : (l0.length == l1.length) = true := by first | simpa using c3 | (simp at c3 ⊢; omega)
    clear c3
    have H' := Aside0.mk H
    clear H
    go_enter Tryz.func25, Tryz.ntmps25
    go_wp2
    repeat (go_quiet (fail); try go_wp2)
    go_loopg [5] k (fun kq v5 w' => ∃ (x5_1 : Int), v5 = .int .i64 x5_1 ∧ Aside0 (oilcakeref11_SameTexts.l0 kq l0 l1 x5_1 = some r) ∧ Aside0 (kq ≤ k) ∧ Drawn0 w w')
    case atStart => exact ⟨(0), (by first | rfl | (simp; done) | (simp [*]; done)), H', ⟨Nat.le_refl _⟩, by repeat (first | exact Drawn0.refl _ | apply Drawn0.step)⟩
    case round =>
      clear H'
      try clear c1
      try clear c2
      try clear p2
      try clear c3
      try clear c3b0
      try clear c3b1
      try clear c3b2
      obtain ⟨x5_1, rfl, HA, HK1, ⟨m1, rfl⟩⟩ := hrel
      cases gk with
      | zero => exact absurd HA.out (by simp [oilcakeref11_SameTexts.l0])
      | succ k1 =>
        have H := HA.out
        clear HA
        simp only [oilcakeref11_SameTexts.l0] at H
        by_cases c4 : x5_1 < (l0.length : Int)
        · rw [if_pos c4] at H
          have c4b0 : decide (x5_1 < (l0.length : Int)) = true := decide_eq_true c4
          clear c4
          by_cases c5 : 0 ≤ x5_1
          · rw [if_pos c5] at H
            have c5b0 : decide (0 ≤ x5_1) = true := decide_eq_true c5
            clear c5
            by_cases c6 : x5_1 < (l1.length : Int)
            · rw [if_pos c6] at H
              have c6b0 : decide (x5_1 < (l1.length : Int)) = true := decide_eq_true c6
              clear c6
              by_cases c7 : (rdOf ByteArray.empty l0 x5_1).toList = (rdOf ByteArray.empty l1 x5_1).toList
              · rw [if_pos c7] at H
                have c7b0 : ((rdOf ByteArray.empty l0 x5_1).toList == (rdOf ByteArray.empty l1 x5_1).toList) = true := beq_iff_eq.mpr c7
                have c7b1 : ((rdOf ByteArray.empty l0 x5_1).toList != (rdOf ByteArray.empty l1 x5_1).toList) = false := bne_eq_false_iff_eq.mpr c7
                clear c7
                have H' := Aside0.mk H
                clear H
                have p176 : 0 ≤ (x5_1 : Int) := of_decide_eq_true (by first | (with_reducible assumption) | assumption)
                have q176 : x5_1 < (l0.length : Int) := of_decide_eq_true (by first | (with_reducible assumption) | assumption)
                obtain ⟨ad176, e176, hx176_0⟩ := Kd.at_string HR0.out x5_1 p176 q176
                cases e176
                replace p176 := eq_true p176
                replace q176 := eq_true q176
                have p177 : 0 ≤ (x5_1 : Int) := of_decide_eq_true (by first | (with_reducible assumption) | assumption)
                have q177 : x5_1 < (l1.length : Int) := of_decide_eq_true (by first | (with_reducible assumption) | assumption)
                obtain ⟨ad177, e177, hx177_0⟩ := Kd.at_string HR1.out x5_1 p177 q177
                cases e177
                replace p177 := eq_true p177
                replace q177 := eq_true q177
                go_wp2
                repeat (go_quiet (fail); try go_wp2)
                go_roundg k1
                case measure => have := HK1.out; omega
                case rel => exact ⟨(wrap64 (x5_1 + 1)), (by first | rfl | (simp; done) | (simp [*]; done)), H', ⟨by have := HK1.out; omega⟩, by repeat (first | exact Drawn0.refl _ | apply Drawn0.step)⟩
              · rw [if_neg c7] at H
                have c7b0 : ((rdOf ByteArray.empty l0 x5_1).toList == (rdOf ByteArray.empty l1 x5_1).toList) = false := beq_eq_false_iff_ne.mpr c7
                have c7b1 : ((rdOf ByteArray.empty l0 x5_1).toList != (rdOf ByteArray.empty l1 x5_1).toList) = true := bne_iff_ne.mpr c7
                obtain rfl := Option.some.inj H
                have p176 : 0 ≤ (x5_1 : Int) := of_decide_eq_true (by first | (with_reducible assumption) | assumption)
                have q176 : x5_1 < (l0.length : Int) := of_decide_eq_true (by first | (with_reducible assumption) | assumption)
                obtain ⟨ad176, e176, hx176_0⟩ := Kd.at_string HR0.out x5_1 p176 q176
                cases e176
                replace p176 := eq_true p176
                replace q176 := eq_true q176
                have p177 : 0 ≤ (x5_1 : Int) := of_decide_eq_true (by first | (with_reducible assumption) | assumption)
                have q177 : x5_1 < (l1.length : Int) := of_decide_eq_true (by first | (with_reducible assumption) | assumption)
                obtain ⟨ad177, e177, hx177_0⟩ := Kd.at_string HR1.out x5_1 p177 q177
                cases e177
                replace p177 := eq_true p177
                replace q177 := eq_true q177
                go_wp2
                repeat (go_quiet (fail); try go_wp2)
                go_ret
                exact ⟨by first | rfl | (simp; done) | (simp [*]; done), by repeat (first | exact Drawn0.refl _ | apply Drawn0.step)⟩
            · rw [if_neg c6] at H
              exact absurd H (by simp)
          · rw [if_neg c5] at H
            exact absurd H (by simp)
        · rw [if_neg c4] at H
          have c4b0 : decide (x5_1 < (l0.length : Int)) = false := decide_eq_false c4
          clear c4
          obtain rfl := Option.some.inj H
          go_wp2
          repeat (go_quiet (fail); try go_wp2)
          go_ret
          exact ⟨by first | rfl | (simp; done) | (simp [*]; done), by repeat (first | exact Drawn0.refl _ | apply Drawn0.step)⟩
  · rw [if_neg c3] at H
    have c3b0 : ((l0.length : Int) == (l1.length : Int)) = false := beq_eq_false_iff_ne.mpr c3
    have c3b1 : ((l0.length : Int) != (l1.length : Int)) = true := bne_iff_ne.mpr c3
    have c3b2 : (l0.length == l1.length) = false := by first | simpa using c3 | (simp at c3 ⊢; omega)
    obtain rfl := Option.some.inj H
    go_enter Tryz.func25, Tryz.ntmps25
    go_wp2
    repeat (go_quiet (fail); try go_wp2)
    go_ret
    exact ⟨by first | rfl | (simp; done) | (simp [*]; done), by repeat (first | exact Drawn0.refl _ | apply Drawn0.step)⟩
def oilcakelaw11_ready.f (k : Nat) (l0_0 : List ByteArray) : Option (Bool) := (oilcakeref11_Great.f k l0_0).bind fun t179 => (if t179 = true then (some false) else ((oilcakeref11_Code.f k l0_0).bind fun t180 => (some t180)))
set_option maxHeartbeats 8000000 in
set_option maxRecDepth 100000 in
theorem oilcakelaw11_ready.calls (k : Nat) (A0_0 : Option Addr) (c0_0 : Nat) (l0_0 : List ByteArray) (r : Bool) (w : World) (hr0_0 : Kd.C Kd.string w A0_0 l0_0.length l0_0) (hc0_0 : l0_0.length ≤ c0_0) (h : oilcakelaw11_ready.f k l0_0 = some r) :
    Calls Tryz.prog 27 #[.agg #[.slice A0_0 l0_0.length c0_0]] w fun e w' => e = .returned (.bool r) ∧ Below w.heap.size w w' := by
  have hu24 := Tryz.underlying24
  have HR0_0 := Aside0.mk hr0_0
  have HC0_0 := Aside0.mk hc0_0
  clear hr0_0 hc0_0
  have HB := Aside0.mk (Below.refl w.heap.size w)
  have H : ((oilcakeref11_Great.f k l0_0).bind fun t179 => (if t179 = true then (some false) else ((oilcakeref11_Code.f k l0_0).bind fun t180 => (some t180)))) = some r := h
  clear h
  replace H := Option.bind_eq_some_iff.mp H
  obtain ⟨t179, A20, H⟩ := H
  replace H : (if t179 = true then (some false) else ((oilcakeref11_Code.f k l0_0).bind fun t180 => (some t180))) = some r := H
  have A2 := Aside0.mk A20
  clear A20
  by_cases c3 : t179 = true
  · subst c3
    have H1 : (some false) = some r := by rw [if_pos rfl] at H; exact H
    clear H
    have H := H1
    clear H1
    obtain rfl := Option.some.inj H
    go_enter Tryz.func27, Tryz.ntmps27
    go_wp2_with (first | ((with_reducible refine gate_dst (N := 1) rfl ?_); refine box_event ?hg (N := 1) ?hd (cs := #[.slice A0_0 l0_0.length c0_0]) (t := 24) ?hr ?_; (case hd => rfl); (case hg => rfl); (case hr => first | (go_simp; done) | (go_simp; rfl)); intro gb178 hg w4 hbox hb; have n0_ := Aside0.mk (below_step (by repeat (first | (with_reducible first | exact HB.out | apply below_alloc | apply pw_below_drewN | apply below_drew1) | exact HB.out)) hb); have n1_ := Aside0.mk (hbox); have n2_ := Aside0.mk ((by rw [hg]; exact (below_size (by repeat (first | (with_reducible first | exact HB.out | apply below_alloc | apply pw_below_drewN | apply below_drew1) | exact HB.out))) : w.heap.size ≤ gb178)); have n3_ := Aside0.mk ((by rw [hg]; exact (below_size (by repeat (first | (with_reducible first | exact HB.out | apply below_alloc | apply pw_below_drewN | apply below_drew1) | exact HB.out))) : w.heap.size ≤ gb178)); clear HB; have HB := n0_; have BK178 := n1_; have GW178 := n2_; have GE178 := n3_; clear n0_ n1_ n2_ n3_; clear hb hbox hg; have hcz5_0 : w4.cell? ⟨gb178, 0, none⟩ = some (.slice A0_0 l0_0.length c0_0) := (blk_cell BK178.out 0).trans rfl; have hfz5_0 := blk_frozen BK178.out 0) | ((with_reducible refine gate_callee (f := 14) rfl ?_); refine goesL_ (some 4) rfl rfl Tryz.func14 (by kernel_rfl) rfl #[.agg #[.slice A0_0 l0_0.length c0_0]] rfl (by (try simp only [List.map_toArray, List.map_cons, List.map_nil]); first | done | rfl | (simp only [List.length_drop, List.length_take]; rfl)) ?_; (with_reducible refine (oilcakeref11_Great.calls k _ _ l0_0 true _ ?side1 ?side2 A2.out).mono ?_); (case side1 => repeat (first | exact (Kd.C_below HR0_0.out HB.out) | (with_reducible refine Kd.C_alloc ?_ _) | (with_reducible refine Kd.C_drewN ?_ _) | (with_reducible refine Kd.C_drew ?_))); (case side2 => exact HC0_0.out); rintro e w6 ⟨rfl, hb⟩; refine ⟨_, rfl, ?_⟩; have n0_ := Aside0.mk (blk_below (g := gb178) (o := .cells #[.slice A0_0 l0_0.length c0_0] 24 (0, 0)) (by (with_reducible repeat (first | refine blk_drewN ?_ _ | refine blk_drew ?_ | refine blk_alloc ?_ _)); exact BK178.out) hb); have n1_ := Aside0.mk (below_step (by repeat (first | (with_reducible first | exact HB.out | apply below_alloc | apply pw_below_drewN | apply below_drew1 | refine below_set ?_ GE178.out) | exact HB.out)) hb); clear BK178; clear HB; have BK178 := n0_; have HB := n1_; clear n0_ n1_; (try clear hb); (try clear hb2); (try clear hk); (try clear hi)))
    go_ret
    exact ⟨by first | rfl | (simp [errW_none, errW_some] <;> rfl) | (simp [*, errW_none, errW_some] <;> rfl), by repeat (first | (with_reducible first | exact HB.out | apply below_alloc | apply pw_below_drewN | apply below_drew1 | refine below_set ?_ GE178.out) | exact HB.out)⟩
  · replace c3 := Bool.eq_false_iff.mpr c3
    subst c3
    have H1 : ((oilcakeref11_Code.f k l0_0).bind fun t180 => (some t180)) = some r := by rw [if_neg (show ¬ (false = true) by decide)] at H; exact H
    clear H
    have H := H1
    clear H1
    replace H := Option.bind_eq_some_iff.mp H
    obtain ⟨t180, A70, H⟩ := H
    replace H : (some t180) = some r := H
    have A7 := Aside0.mk A70
    clear A70
    obtain rfl := Option.some.inj H
    go_enter Tryz.func27, Tryz.ntmps27
    go_wp2_with (first | ((with_reducible refine gate_dst (N := 1) rfl ?_); refine box_event ?hg (N := 1) ?hd (cs := #[.slice A0_0 l0_0.length c0_0]) (t := 24) ?hr ?_; (case hd => rfl); (case hg => rfl); (case hr => first | (go_simp; done) | (go_simp; rfl)); intro gb178 hg w8 hbox hb; have n0_ := Aside0.mk (below_step (by repeat (first | (with_reducible first | exact HB.out | apply below_alloc | apply pw_below_drewN | apply below_drew1) | exact HB.out)) hb); have n1_ := Aside0.mk (hbox); have n2_ := Aside0.mk ((by rw [hg]; exact (below_size (by repeat (first | (with_reducible first | exact HB.out | apply below_alloc | apply pw_below_drewN | apply below_drew1) | exact HB.out))) : w.heap.size ≤ gb178)); have n3_ := Aside0.mk ((by rw [hg]; exact (below_size (by repeat (first | (with_reducible first | exact HB.out | apply below_alloc | apply pw_below_drewN | apply below_drew1) | exact HB.out))) : w.heap.size ≤ gb178)); clear HB; have HB := n0_; have BK178 := n1_; have GW178 := n2_; have GE178 := n3_; clear n0_ n1_ n2_ n3_; clear hb hbox hg; have hcz9_0 : w8.cell? ⟨gb178, 0, none⟩ = some (.slice A0_0 l0_0.length c0_0) := (blk_cell BK178.out 0).trans rfl; have hfz9_0 := blk_frozen BK178.out 0) | ((with_reducible refine gate_callee (f := 14) rfl ?_); refine goesL_ (some 4) rfl rfl Tryz.func14 (by kernel_rfl) rfl #[.agg #[.slice A0_0 l0_0.length c0_0]] rfl (by (try simp only [List.map_toArray, List.map_cons, List.map_nil]); first | done | rfl | (simp only [List.length_drop, List.length_take]; rfl)) ?_; (with_reducible refine (oilcakeref11_Great.calls k _ _ l0_0 false _ ?side1 ?side2 A2.out).mono ?_); (case side1 => repeat (first | exact (Kd.C_below HR0_0.out HB.out) | (with_reducible refine Kd.C_alloc ?_ _) | (with_reducible refine Kd.C_drewN ?_ _) | (with_reducible refine Kd.C_drew ?_))); (case side2 => exact HC0_0.out); rintro e w10 ⟨rfl, hb⟩; refine ⟨_, rfl, ?_⟩; have n0_ := Aside0.mk (blk_below (g := gb178) (o := .cells #[.slice A0_0 l0_0.length c0_0] 24 (0, 0)) (by (with_reducible repeat (first | refine blk_drewN ?_ _ | refine blk_drew ?_ | refine blk_alloc ?_ _)); exact BK178.out) hb); have n1_ := Aside0.mk (below_step (by repeat (first | (with_reducible first | exact HB.out | apply below_alloc | apply pw_below_drewN | apply below_drew1 | refine below_set ?_ GE178.out) | exact HB.out)) hb); clear BK178; clear HB; have BK178 := n0_; have HB := n1_; clear n0_ n1_; (try clear hb); (try clear hb2); (try clear hk); (try clear hi); have hcz11_0 : w10.cell? ⟨gb178, 0, none⟩ = some (.slice A0_0 l0_0.length c0_0) := (blk_cell BK178.out 0).trans rfl; have hfz11_0 := blk_frozen BK178.out 0) | (go_at_call 31; (with_reducible refine (oilcakeref11_Code.calls k _ _ l0_0 t180 _ ?side1 ?side2 A7.out).mono ?_); (case side1 => repeat (first | exact (Kd.C_below HR0_0.out HB.out) | (with_reducible refine Kd.C_alloc ?_ _) | (with_reducible refine Kd.C_drewN ?_ _) | (with_reducible refine Kd.C_drew ?_))); (case side2 => exact HC0_0.out); rintro e w12 ⟨rfl, hb⟩; have n0_ := Aside0.mk (blk_below (g := gb178) (o := .cells #[.slice A0_0 l0_0.length c0_0] 24 (0, 0)) (by (with_reducible repeat (first | refine blk_drewN ?_ _ | refine blk_drew ?_ | refine blk_alloc ?_ _)); exact BK178.out) hb); have n1_ := Aside0.mk (below_step (by repeat (first | (with_reducible first | exact HB.out | apply below_alloc | apply pw_below_drewN | apply below_drew1 | refine below_set ?_ GE178.out) | exact HB.out)) hb); clear BK178; clear HB; have BK178 := n0_; have HB := n1_; clear n0_ n1_; (try clear hb); (try clear hb2); (try clear hk); (try clear hi)))
    go_ret
    exact ⟨by first | rfl | (simp [errW_none, errW_some] <;> rfl) | (simp [*, errW_none, errW_some] <;> rfl), by repeat (first | (with_reducible first | exact HB.out | apply below_alloc | apply pw_below_drewN | apply below_drew1 | refine below_set ?_ GE178.out) | exact HB.out)⟩
end Go.Proofs.YtfnibmcenjiodaaGreatDoor.R
namespace Go.Proofs.YtfnibmcenjiodaaGreatDoor.N
open Go.Sort Go.Shelf Go.RowKit Go.Proofs.YtfnibmcenjiodaaGreatDoorW.PrintWords Go.Proofs.YtfnibmcenjiodaaGreatDoorW.PrintLast Go.Proofs.YtfnibmcenjiodaaGreatDoorW.PrintMore
open Go.Proofs.YtfnibmcenjiodaaGreatDoor.M Go.Proofs.YtfnibmcenjiodaaGreatDoor.R
theorem codeOk_words' {l : List ByteArray} (h : codeOk l = true) : ∀ x ∈ l, 1 ≤ x.size ∧ x.size ≤ 12 := fun x hx => by have := codeOk_words h x hx; omega
end Go.Proofs.YtfnibmcenjiodaaGreatDoor.N
