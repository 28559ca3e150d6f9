/- Contracts and plain laws that the claim's card stands on (texts M43 M44 N13 M36 M37 N10 M22 M31 of the work, put together). No statement of the seat is proved here. -/
import Derived.WalkMore
import Derived.Laws.EntriesVeiled
import Derived.Defers
import Derived.Recover
import Derived.WalkLawsBesides
import Derived.Deep.RegionHeld3
import Derived.Laws.NewBlocks
import Derived.Laws.Rows
import Derived.Laws.Tables
import Derived.Deep.WholeRow
import Derived.Test.YtfnibmcenjiodaaGreatDoorQ11
import Derived.Test.YtfnibmcenjiodaaGreatDoorQ12
import Derived.Test.YtfnibmcenjiodaaGreatDoorQ16
set_option linter.unusedVariables false
set_option linter.unusedSimpArgs false
namespace Go.Proofs.YtfnibmcenjiodaaGreatDoor.M
open Go.Sort Go.Shelf Go.RowKit Go.Maps Go.Proofs.YtfnibmcenjiodaaGreatDoorW.PrintWords Go.Proofs.YtfnibmcenjiodaaGreatDoorW.PrintLast Go.Proofs.YtfnibmcenjiodaaGreatDoorW.PrintMore
attribute [local go_sem] Oper.semAt_some
def rT : Value → Option (DataW Unit × List MemPlace)
  | .agg ⟨[.string a, .string b]⟩ => some (.agg [.lit (.string a.data.toList), .lit (.string b.data.toList)], [])
  | _ => none
def txD (t : Tx) : DataW Unit := .agg [.lit (.string t.1.data.toList), .lit (.string t.2.data.toList)]
theorem rT_mk (t : Tx) : rT (txV t) = some (txD t, []) := rfl
theorem rT_inv {v : Value} {z : DataW Unit × List MemPlace} (h : rT v = some z) : ∃ t : Tx, v = txV t ∧ z = (txD t, []) := by
  unfold rT at h
  split at h
  · rename_i a b
    exact ⟨(a, b), rfl, (Option.some.inj h).symm⟩
  · cases h
abbrev NMap (w : World) (b n : Nat) (D : DataW Unit) : Prop := w.ownsMap Tryz.prog 150 rT b n D
abbrev BMap (w : World) (b n : Nat) (D : DataW Unit) : Prop := w.ownsMap Tryz.prog 150 (plainElem Tryz.prog 4) b n D
noncomputable def txOf (D : DataW Unit) (s : St) : Tx := match D.atKey (kL s) (txD (⟨#[]⟩, ⟨#[]⟩)) with | .agg [.lit (.string a), .lit (.string b)] => (⟨a.toArray⟩, ⟨b.toArray⟩) | _ => (⟨#[]⟩, ⟨#[]⟩)
noncomputable def flS (E : DataW Unit) (s : St) : Bool := match E.atKey (kL s) (.lit (.bool false)) with | .lit (.bool b) => b | _ => false
theorem txOf_eq {D : DataW Unit} {s : St} {t : Tx} (h : D.atKey (kL s) (txD (⟨#[]⟩, ⟨#[]⟩)) = txD t) : txOf D s = t := by
  unfold txOf; rw [h]; rfl
theorem zeroT (w : World) : (zeroValue 152).run Tryz.prog w = .ok (txV (⟨#[]⟩, ⟨#[]⟩)) w := by kernel_rfl
set_option maxRecDepth 100000 in
theorem look_tx {w : World} {b n : Nat} {D : DataW Unit} {s : St} (h : NMap w b n D) (hs : okS s) : (Instr.lookup 153 (.map (some b)) (stV s) true).run Tryz.prog w = .ok (.tuple #[txV (txOf D s), .bool (has D (kL s))]) w := by
  obtain ⟨v, ps, hrun, hv⟩ := h.look_ok lawS Tryz.underlying153 (zeroT w) (rT_mk _) (keyOf_st s hs)
  obtain ⟨t, rfl, he⟩ := rT_inv hv
  rw [txOf_eq (Prod.mk.inj he).1]
  exact hrun
set_option maxRecDepth 100000 in
theorem look_fl {w : World} {b n : Nat} {E : DataW Unit} {s : St} (h : BMap w b n E) (hs : okS s) : (Instr.lookup 148 (.map (some b)) (stV s) false).run Tryz.prog w = .ok (.bool (flS E s)) w := by
  have hz : plainElem (H := Unit) Tryz.prog 4 (.bool false) = some (.lit (.bool false), []) := plainElem_bool Tryz.underlying4 false
  obtain ⟨v, ps, hrun, hv⟩ := h.lookup lawS Tryz.underlying148 (zeroBool w) hz (keyOf_st s hs)
  obtain ⟨t, rfl, he⟩ := plainElem_bool_inv Tryz.underlying4 hv
  have hfx : flS E s = t := by unfold flS; rw [(Prod.mk.inj he).1]
  rw [hfx]
  exact hrun
set_option maxRecDepth 100000 in
theorem has_put_kL {D : DataW Unit} (hD : IsMap D) {n m : St} (hn : okS n) (hm : okS m) (d : DataW Unit) : has (D.put (kL n) d) (kL m) = (decide (m = n) || has D (kL m)) := by
  by_cases e : m = n
  · subst e; rw [has_put_same hD (kL_key hn)]; simp
  · rw [has_put_other (fun h => e (kL_inj hm hn h))]; simp [e]
set_option maxRecDepth 100000 in
theorem txOf_put_same {D : DataW Unit} (hD : IsMap D) {n : St} (hn : okS n) (t : Tx) : txOf (D.put (kL n) (txD t)) n = t := txOf_eq (atKey_put_same hD (kL_key hn) _ _)
set_option maxRecDepth 100000 in
theorem txOf_put_other {D : DataW Unit} {n m : St} (hn : okS n) (hm : okS m) (h : m ≠ n) (d : DataW Unit) : txOf (D.put (kL n) d) m = txOf D m := by
  unfold txOf; rw [atKey_put_other (fun e => h (kL_inj hm hn e))]
set_option maxRecDepth 100000 in
theorem flS_put {E : DataW Unit} (hE : IsMap E) {n m : St} (hn : okS n) (hm : okS m) : flS (E.put (kL n) (.lit (.bool true))) m = (decide (m = n) || flS E m) := by
  unfold flS
  by_cases e : m = n
  · subst e; rw [atKey_put_same hE (kL_key hn)]; simp
  · rw [atKey_put_other (fun h => e (kL_inj hm hn h))]; simp [e]
theorem befI_neg (t u : Tx) : befI t.1 t.2 u.1 u.2 < 0 ↔ t.1.toList < u.1.toList ∨ (t.1 = u.1 ∧ t.2.toList < u.2.toList) := by
  unfold befI
  rw [orI_neg, cmpS_neg, cmpS_zero, cmpS_neg]
  constructor
  · rintro (h | ⟨h1, h2⟩)
    · exact .inl h
    · rw [Lib.toList_data, Lib.toList_data] at h1
      exact .inr ⟨ByteArray.ext (Array.toList_inj.1 h1), h2⟩
  · rintro (h | ⟨h1, h2⟩)
    · exact .inl h
    · exact .inr ⟨by rw [h1], h2⟩
def bef (t u : Tx) : Prop := befI t.1 t.2 u.1 u.2 < 0
theorem bef_irrefl (t : Tx) : ¬ bef t t := by
  unfold bef; rw [befI_neg]
  rintro (h | ⟨_, h⟩)
  · exact List.lt_irrefl _ h
  · exact List.lt_irrefl _ h
theorem bef_trans {t u v : Tx} (h1 : bef t u) (h2 : bef u v) : bef t v := by
  unfold bef at *
  rw [befI_neg] at *
  rcases h1 with h1 | ⟨e1, h1⟩
  · rcases h2 with h2 | ⟨e2, _⟩
    · exact .inl (List.lt_trans h1 h2)
    · exact .inl (by rw [← e2]; exact h1)
  · rcases h2 with h2 | ⟨e2, h2⟩
    · exact .inl (by rw [e1]; exact h2)
    · exact .inr ⟨e1.trans e2, List.lt_trans h1 h2⟩
theorem bef_total {t u : Tx} (h : ¬ bef t u) : t = u ∨ bef u t := by
  unfold bef at *
  rw [befI_neg] at *
  by_cases h1 : t.1.toList < u.1.toList
  · exact absurd (.inl h1) h
  by_cases h2 : u.1.toList < t.1.toList
  · exact .inr (.inl h2)
  have e1 := List.le_antisymm (List.not_lt.1 h2) (List.not_lt.1 h1)
  rw [Lib.toList_data, Lib.toList_data] at e1
  have e1 : t.1 = u.1 := ByteArray.ext (Array.toList_inj.1 e1)
  by_cases h3 : t.2.toList < u.2.toList
  · exact absurd (.inr ⟨e1, h3⟩) h
  by_cases h4 : u.2.toList < t.2.toList
  · exact .inr (.inr ⟨e1.symm, h4⟩)
  have e2 := List.le_antisymm (List.not_lt.1 h4) (List.not_lt.1 h3)
  rw [Lib.toList_data, Lib.toList_data] at e2
  have e2 : t.2 = u.2 := ByteArray.ext (Array.toList_inj.1 e2)
  exact .inl (Prod.ext e1 e2)
theorem nb_trans {t u v : Tx} (h1 : ¬ bef u t) (h2 : ¬ bef v u) : ¬ bef v t := by
  intro h
  rcases bef_total h1 with rfl | h3
  · exact h2 h
  · exact h2 (bef_trans h h3)
def sgn (j : Nat) : Int := if j = 0 then 45 else 46
def sgT (j : Nat) : ByteArray := if j = 0 then dashS else dotS
def nextI (ws : List ByteArray) (p : St × Tx) (i : Nat) : List (St × Tx) :=
  if i / 2 ≠ i % 2 ∧ p.1.2.2 = true then [] else
    (onL (onW ws p.1.1) (sgn (i / 2))).flatMap (fun x => (onL (onW ws p.1.2.1) (sgn (i % 2))).map (fun y => ((x, y, p.1.2.2 || decide (i / 2 ≠ i % 2)), (p.2.1 ++ sgT (i / 2), p.2.2 ++ sgT (i % 2)))))
def nexts (ws : List ByteArray) (p : St × Tx) : List (St × Tx) := (List.range 4).flatMap (nextI ws p)
def fin0 : St := (⟨#[]⟩, ⟨#[]⟩, false)
def fin1 : St := (⟨#[]⟩, ⟨#[]⟩, true)
def pathsL (ws : List ByteArray) : Nat → List (St × Tx)
  | 0 => [(fin0, (⟨#[]⟩, ⟨#[]⟩))]
  | r + 1 => (pathsL ws r).flatMap (nexts ws)
noncomputable def putS (E : DataW Unit) (D : DataW Unit) (p : St × Tx) : DataW Unit :=
  if flS E p.1 = false ∧ (has D (kL p.1) = false ∨ befI p.2.1 p.2.2 (txOf D p.1).1 (txOf D p.1).2 < 0) then D.put (kL p.1) (txD p.2) else D
structure Got (E : DataW Unit) (C : List (St × Tx)) (D : DataW Unit) : Prop where
  mapD : IsMap D
  from_ : ∀ n, okS n → has D (kL n) = true → flS E n = false ∧ (n, txOf D n) ∈ C
  all_ : ∀ p ∈ C, flS E p.1 = false → has D (kL p.1) = true ∧ ¬ bef p.2 (txOf D p.1)
  keys : ∀ kl, has D kl = true → ∃ p ∈ C, kl = kL p.1
theorem got_nil (E : DataW Unit) : Got E [] (.map []) := ⟨isMap_empty, fun _ _ h => (by cases h), fun _ h => (by cases h), fun _ h => (by cases h)⟩
set_option maxRecDepth 100000 in
theorem got_put {E D : DataW Unit} {C : List (St × Tx)} (G : Got E C D) (hC : ∀ p ∈ C, okS p.1) (p : St × Tx) (hp : okS p.1) : Got E (C ++ [p]) (putS E D p) := by
  unfold putS
  split
  · rename_i h
    refine ⟨isMap_put G.mapD _ _, fun n hn hh => ?_, fun q hq hf => ?_, fun kl hk => ?_⟩
    · by_cases e : n = p.1
      · subst e
        rw [txOf_put_same G.mapD hp]
        exact ⟨h.1, by simp⟩
      · rw [has_put_kL G.mapD hp hn] at hh
        simp [e] at hh
        rw [txOf_put_other hp hn e]
        have := G.from_ n hn hh
        exact ⟨this.1, by simp [this.2]⟩
    · have hq1 : okS q.1 := by
        rcases List.mem_append.1 hq with hq | hq
        · exact hC q hq
        · rw [List.mem_singleton] at hq; rw [hq]; exact hp
      by_cases e : q.1 = p.1
      · rw [e, txOf_put_same G.mapD hp, has_put_kL G.mapD hp hp]
        refine ⟨by simp, ?_⟩
        rcases List.mem_append.1 hq with hq | hq
        · have hg := G.all_ q hq hf
          rw [e] at hg
          rcases h.2 with h2 | h2
          · rw [h2] at hg; cases hg.1
          · intro hb
            exact hg.2 (bef_trans hb h2)
        · rw [List.mem_singleton] at hq; rw [hq]; exact bef_irrefl _
      · rcases List.mem_append.1 hq with hq | hq
        · have hg := G.all_ q hq hf
          rw [has_put_kL G.mapD hp hq1, txOf_put_other hp hq1 e]
          exact ⟨by simp [hg.1], hg.2⟩
        · rw [List.mem_singleton] at hq; exact absurd (by rw [hq]) e
    · by_cases e : kl = kL p.1
      · exact ⟨p, by simp, e⟩
      · rw [has_put_other e] at hk
        obtain ⟨q, hq, e2⟩ := G.keys kl hk
        exact ⟨q, by simp [hq], e2⟩
  · rename_i h
    refine ⟨G.mapD, fun n hn hh => ?_, fun q hq hf => ?_, fun kl hk => ?_⟩
    · have := G.from_ n hn hh
      exact ⟨this.1, by simp [this.2]⟩
    · rcases List.mem_append.1 hq with hq | hq
      · exact G.all_ q hq hf
      · rw [List.mem_singleton] at hq
        subst hq
        have h2 : ¬ (has D (kL q.1) = false ∨ befI q.2.1 q.2.2 (txOf D q.1).1 (txOf D q.1).2 < 0) := fun h2 => h ⟨hf, h2⟩
        have h3 : has D (kL q.1) = true := by
          cases hh : has D (kL q.1)
          · exact absurd (.inl hh) h2
          · rfl
        exact ⟨h3, fun hb => h2 (.inr hb)⟩
    · obtain ⟨q, hq, e2⟩ := G.keys kl hk
      exact ⟨q, by simp [hq], e2⟩
theorem got_all (E : DataW Unit) : ∀ (C' C : List (St × Tx)) (D : DataW Unit), Got E C D → (∀ p ∈ C, okS p.1) → (∀ p ∈ C', okS p.1) → Got E (C ++ C') (C'.foldl (putS E) D)
  | [], C, D, h, _, _ => by simpa using h
  | p :: C', C, D, h, h1, h2 => by
    have := got_all E C' (C ++ [p]) (putS E D p) (got_put h h1 p (h2 p (by simp))) (fun q hq => by
      rcases List.mem_append.1 hq with hq | hq
      · exact h1 q hq
      · rw [List.mem_singleton] at hq; rw [hq]; exact h2 p (by simp)) (fun q hq => h2 q (by simp [hq]))
    simpa using this
end Go.Proofs.YtfnibmcenjiodaaGreatDoor.M
namespace Go.Proofs.YtfnibmcenjiodaaGreatDoor.M
open Go.Sort Go.Shelf Go.RowKit Go.Maps Go.Proofs.YtfnibmcenjiodaaGreatDoorW.PrintWords Go.Proofs.YtfnibmcenjiodaaGreatDoorW.PrintLast Go.Proofs.YtfnibmcenjiodaaGreatDoorW.PrintMore
def lefts (ws : List ByteArray) : List ByteArray := ⟨#[]⟩ :: sufs ws
def allSt (ws : List ByteArray) : List St := (lefts ws).flatMap (fun x => (lefts ws).flatMap (fun y => [(x, y, false), (x, y, true)]))
theorem mem_allSt {ws : List ByteArray} {s : St} : s ∈ allSt ws ↔ s.1 ∈ lefts ws ∧ s.2.1 ∈ lefts ws := by
  unfold allSt
  obtain ⟨x, y, b⟩ := s
  simp only [List.mem_flatMap, List.mem_cons, Prod.mk.injEq, List.not_mem_nil, or_false]
  constructor
  · rintro ⟨x', hx, y', hy, ⟨rfl, rfl, rfl⟩ | ⟨rfl, rfl, rfl⟩⟩ <;> exact ⟨hx, hy⟩
  · rintro ⟨hx, hy⟩
    refine ⟨x, hx, y, hy, ?_⟩
    cases b <;> simp
theorem onL_left {ws : List ByteArray} {left x : ByteArray} {a : Int} (_ : ∀ w ∈ ws, 0 < w.size) (hl : left ∈ lefts ws) (h : x ∈ onL (onW ws left) a) : x ∈ lefts ws := by
  unfold onL at h
  obtain ⟨y, hy, rfl⟩ := List.mem_map.1 h
  have hy1 := (List.mem_filter.1 hy).1
  have hys : y ∈ sufs ws := by
    unfold onW at hy1
    split at hy1
    · exact sufs_self hy1
    · rename_i hne
      rw [List.mem_singleton] at hy1
      subst hy1
      rcases List.mem_cons.1 hl with h | h
      · exact absurd h hne
      · exact h
  rcases Nat.eq_zero_or_pos y.size with h0 | h0
  · have : y = ⟨#[]⟩ := ByteArray.ext (Array.eq_empty_of_size_eq_zero h0)
    subst this
    exact List.mem_cons.2 (.inl rfl)
  · obtain ⟨w, hw1, i, hi, rfl⟩ := mem_sufs.1 hys
    refine List.mem_cons.2 (.inr (mem_sufs.2 ⟨w, hw1, i + 1, ?_, ?_⟩))
    · have e : (⟨(w.data.toList.drop i).toArray⟩ : ByteArray).size = w.size - i := by
        show (w.data.toList.drop i).toArray.size = _
        rw [List.size_toArray, List.length_drop, data_length]
      omega
    · apply ByteArray.ext; apply Array.toList_inj.1
      rw [ByteArray.data_extract, Array.toList_extract, List.extract_eq_take_drop]
      simp only [List.drop_drop]
      have : (w.data.toList.drop i).toArray.size = (w.data.toList.drop i).length := List.size_toArray ..
      show List.take ((w.data.toList.drop i).toArray.size - 1) _ = _
      rw [this, List.take_of_length_le (by simp only [List.length_drop]; omega)]
theorem nexts_all {ws : List ByteArray} (hw : ∀ w ∈ ws, 0 < w.size) {p q : St × Tx} (hp : p.1 ∈ allSt ws) (hq : q ∈ nexts ws p) : q.1 ∈ allSt ws := by
  unfold nexts at hq
  obtain ⟨i, _, hq⟩ := List.mem_flatMap.1 hq
  unfold nextI at hq
  split at hq
  · cases hq
  · obtain ⟨x, hx, hq⟩ := List.mem_flatMap.1 hq
    obtain ⟨y, hy, rfl⟩ := List.mem_map.1 hq
    have h := mem_allSt.1 hp
    exact mem_allSt.2 ⟨onL_left hw h.1 hx, onL_left hw h.2 hy⟩
theorem paths_all {ws : List ByteArray} (hw : ∀ w ∈ ws, 0 < w.size) : ∀ (r : Nat) (p : St × Tx), p ∈ pathsL ws r → p.1 ∈ allSt ws
  | 0, p, h => by
    unfold pathsL at h
    rw [List.mem_singleton] at h
    subst h
    exact mem_allSt.2 ⟨List.mem_cons.2 (.inl rfl), List.mem_cons.2 (.inl rfl)⟩
  | r + 1, p, h => by
    unfold pathsL at h
    obtain ⟨q, hq, h⟩ := List.mem_flatMap.1 h
    exact nexts_all hw (paths_all hw r q hq) h
theorem sgT_size (j : Nat) : (sgT j).size = 1 := by unfold sgT; split <;> rfl
theorem cat_size (a b : ByteArray) : (a ++ b).size = a.size + b.size := ByteArray.size_append
theorem nexts_size {ws : List ByteArray} {p q : St × Tx} (h : q ∈ nexts ws p) : q.2.1.size = p.2.1.size + 1 ∧ q.2.2.size = p.2.2.size + 1 := by
  unfold nexts at h
  obtain ⟨i, _, h⟩ := List.mem_flatMap.1 h
  unfold nextI at h
  split at h
  · cases h
  · obtain ⟨x, hx, h⟩ := List.mem_flatMap.1 h
    obtain ⟨y, hy, rfl⟩ := List.mem_map.1 h
    dsimp only
    rw [cat_size, cat_size, sgT_size, sgT_size]
    exact ⟨rfl, rfl⟩
theorem paths_size {ws : List ByteArray} : ∀ (r : Nat) (p : St × Tx), p ∈ pathsL ws r → p.2.1.size = r ∧ p.2.2.size = r
  | 0, p, h => by
    unfold pathsL at h
    rw [List.mem_singleton] at h
    subst h
    exact ⟨rfl, rfl⟩
  | r + 1, p, h => by
    unfold pathsL at h
    obtain ⟨q, hq, h⟩ := List.mem_flatMap.1 h
    have h1 := paths_size r q hq
    have h2 := nexts_size h
    exact ⟨by rw [h2.1, h1.1], by rw [h2.2, h1.2]⟩
structure SlipI (ws : List ByteArray) (r : Nat) (E D : DataW Unit) : Prop where
  mapD : IsMap D
  mapE : IsMap E
  sound : ∀ n, okS n → has D (kL n) = true → (n, txOf D n) ∈ pathsL ws r
  keys : ∀ kl, has D kl = true → ∃ n ∈ allSt ws, kl = kL n
  compl : ∀ p ∈ pathsL ws r, (has D (kL p.1) = true ∧ ¬ bef p.2 (txOf D p.1)) ∨ (flS E p.1 = true ∧ has D (kL p.1) = false)
  closed : ∀ n, okS n → flS E n = true → has D (kL n) = false → ∀ t, ∀ p ∈ nexts ws (n, t), flS E p.1 = true
  keysE : ∀ n, okS n → flS E n = true → n ∈ allSt ws
  fin : flS E fin1 = false
  none_ : ∀ r', r' ≤ r → ∀ t, (fin1, t) ∉ pathsL ws r'
theorem okS_fin1 : okS fin1 := ⟨by decide, by decide⟩
theorem okS_fin0 : okS fin0 := ⟨by decide, by decide⟩
set_option maxRecDepth 100000 in
theorem slip_start (ws : List ByteArray) : SlipI ws 0 (.map []) ((DataW.map []).put (kL fin0) (txD (⟨#[]⟩, ⟨#[]⟩))) := by
  have hm : IsMap (.map [] : DataW Unit) := isMap_empty
  refine ⟨isMap_put hm _ _, hm, fun n hn h => ?_, fun kl h => ?_, fun p hp => ?_, fun n hn h => (by cases h), fun n hn h => (by cases h), rfl, fun r' hr t h => ?_⟩
  · rw [has_put_kL hm okS_fin0 hn] at h
    have e : n = fin0 := by simpa [has] using h
    subst e
    rw [txOf_put_same hm okS_fin0]
    simp [pathsL]
  · by_cases e : kl = kL fin0
    · exact ⟨fin0, mem_allSt.2 ⟨List.mem_cons.2 (.inl rfl), List.mem_cons.2 (.inl rfl)⟩, e⟩
    · rw [has_put_other e] at h; cases h
  · simp only [pathsL, List.mem_singleton] at hp
    subst hp
    refine .inl ⟨?_, ?_⟩
    · rw [has_put_kL hm okS_fin0 okS_fin0]; simp
    · rw [txOf_put_same hm okS_fin0]; exact bef_irrefl _
  · obtain rfl : r' = 0 := by omega
    simp [pathsL, fin1, fin0] at h
theorem append_lt {a b c : List UInt8} (hl : a.length = b.length) (h : a < b) (d : List UInt8) : a ++ c < b ++ d := by
  induction a generalizing b with
  | nil => cases b with
    | nil => exact absurd h (List.lt_irrefl _)
    | cons y b => cases hl
  | cons x a ih => cases b with
    | nil => cases hl
    | cons y b =>
      rw [List.cons_append, List.cons_append]
      rcases List.cons_lt_cons_iff.1 h with h1 | ⟨h1, h2⟩
      · exact List.cons_lt_cons_iff.2 (.inl h1)
      · exact List.cons_lt_cons_iff.2 (.inr ⟨h1, ih (by simpa using hl) h2⟩)
theorem toList_cat (a b : ByteArray) : (a ++ b).toList = a.toList ++ b.toList := by
  rw [Lib.toList_data, Lib.toList_data, Lib.toList_data, ByteArray.data_append, Array.toList_append]
theorem toList_len (a : ByteArray) : a.toList.length = a.size := by rw [Lib.toList_data]; exact data_length a
theorem bef_step {t u : Tx} (h1 : t.1.size = u.1.size) (h2 : t.2.size = u.2.size) (c d : ByteArray) (h : ¬ bef t u) : ¬ bef (t.1 ++ c, t.2 ++ d) (u.1 ++ c, u.2 ++ d) := by
  rcases bef_total h with rfl | h
  · exact bef_irrefl _
  · have : bef (u.1 ++ c, u.2 ++ d) (t.1 ++ c, t.2 ++ d) := by
      unfold bef at *
      rw [befI_neg] at *
      dsimp only
      rcases h with h | ⟨e, h⟩
      · refine .inl ?_
        rw [toList_cat, toList_cat]
        exact append_lt (by rw [toList_len, toList_len]; exact h1.symm) h _
      · refine .inr ⟨by rw [e], ?_⟩
        rw [toList_cat, toList_cat]
        exact append_lt (by rw [toList_len, toList_len]; exact h2.symm) h _
    intro h3
    exact bef_irrefl _ (bef_trans this h3)
theorem nexts_step {ws : List ByteArray} {n : St} {t u : Tx} {p : St × Tx} (h : p ∈ nexts ws (n, t)) : ∃ c d, p.2 = (t.1 ++ c, t.2 ++ d) ∧ (p.1, ((u.1 ++ c, u.2 ++ d) : Tx)) ∈ nexts ws (n, u) := by
  unfold nexts at h ⊢
  obtain ⟨i, hi, h⟩ := List.mem_flatMap.1 h
  unfold nextI at h
  split at h
  · cases h
  · rename_i hc
    obtain ⟨x, hx, h⟩ := List.mem_flatMap.1 h
    obtain ⟨y, hy, rfl⟩ := List.mem_map.1 h
    refine ⟨_, _, rfl, List.mem_flatMap.2 ⟨i, hi, ?_⟩⟩
    unfold nextI
    rw [if_neg hc]
    exact List.mem_flatMap.2 ⟨x, hx, List.mem_map.2 ⟨y, hy, rfl⟩⟩
def Done (ws : List ByteArray) (D : DataW Unit) (done : List (St × Tx)) : Prop := (∀ p ∈ done, p.1 ∈ allSt ws ∧ has D (kL p.1) = true ∧ p.2 = txOf D p.1) ∧ ∀ n, okS n → has D (kL n) = true → (n, txOf D n) ∈ done
noncomputable def roundD (ws : List ByteArray) (E : DataW Unit) (done : List (St × Tx)) : DataW Unit := (done.flatMap (nexts ws)).foldl (putS E) (.map [])
theorem round_got {ws : List ByteArray} (hok : ∀ n ∈ allSt ws, okS n) (hw : ∀ w ∈ ws, 0 < w.size) (E : DataW Unit) (done : List (St × Tx)) (hd : ∀ p ∈ done, p.1 ∈ allSt ws) : Got E (done.flatMap (nexts ws)) (roundD ws E done) := by
  have := got_all E (done.flatMap (nexts ws)) [] (.map []) (got_nil E) (fun _ h => (by cases h)) (fun p hp => by
    obtain ⟨q, hq, h⟩ := List.mem_flatMap.1 hp
    exact hok _ (nexts_all hw (hd q hq) h))
  simpa [roundD] using this
theorem slip_round {ws : List ByteArray} (hok : ∀ n ∈ allSt ws, okS n) (hw : ∀ w ∈ ws, 0 < w.size) {r : Nat} {E D : DataW Unit} {done : List (St × Tx)} (S : SlipI ws r E D) (hd : Done ws D done) :
    (∀ n, okS n → has (roundD ws E done) (kL n) = true → (n, txOf (roundD ws E done) n) ∈ pathsL ws (r + 1)) ∧
    (∀ p ∈ pathsL ws (r + 1), (has (roundD ws E done) (kL p.1) = true ∧ ¬ bef p.2 (txOf (roundD ws E done) p.1)) ∨ (flS E p.1 = true ∧ has (roundD ws E done) (kL p.1) = false)) := by
  have G := round_got hok hw E done (fun p hp => (hd.1 p hp).1)
  refine ⟨fun n hn h => ?_, fun p hp => ?_⟩
  · obtain ⟨_, h2⟩ := G.from_ n hn h
    obtain ⟨q, hq, h3⟩ := List.mem_flatMap.1 h2
    obtain ⟨h4, h5, h6⟩ := hd.1 q hq
    have h7 := S.sound q.1 (hok _ h4) h5
    rw [← h6] at h7
    exact List.mem_flatMap.2 ⟨q, h7, h3⟩
  · obtain ⟨q, hq, h⟩ := List.mem_flatMap.1 hp
    have hqa := paths_all hw r q hq
    have hpa := nexts_all hw hqa h
    by_cases hf : flS E p.1 = true
    · right
      refine ⟨hf, ?_⟩
      cases hh : has (roundD ws E done) (kL p.1)
      · rfl
      · have := (G.from_ p.1 (hok _ hpa) hh).1
        rw [hf] at this; cases this
    · have hf' : flS E p.1 = false := by simpa using hf
      left
      rcases S.compl q hq with ⟨h1, h2⟩ | ⟨h1, h2⟩
      · obtain ⟨c, d, e, hm⟩ := nexts_step (u := txOf D q.1) (show p ∈ nexts ws (q.1, q.2) from h)
        have hg := G.all_ _ (List.mem_flatMap.2 ⟨_, hd.2 q.1 (hok _ hqa) h1, hm⟩) hf'
        refine ⟨hg.1, nb_trans hg.2 ?_⟩
        rw [e]
        have s1 := paths_size r q hq
        have s2 := paths_size r _ (S.sound q.1 (hok _ hqa) h1)
        exact bef_step (by rw [s1.1]; exact s2.1.symm) (by rw [s1.2]; exact s2.2.symm) c d h2
      · exact absurd (S.closed q.1 (hok _ hqa) h1 h2 q.2 p h) hf
set_option maxRecDepth 100000 in
theorem slip_on {ws : List ByteArray} (hok : ∀ n ∈ allSt ws, okS n) (hw : ∀ w ∈ ws, 0 < w.size) {r : Nat} {E E' D : DataW Unit} {done : List (St × Tx)} (S : SlipI ws r E D) (hd : Done ws D done)
    (hE : IsMap E') (hf : ∀ n, okS n → flS E' n = (flS E n || has (roundD ws E done) (kL n))) (hfin : has (roundD ws E done) (kL fin1) = false) : SlipI ws (r + 1) E' (roundD ws E done) := by
  have G := round_got hok hw E done (fun p hp => (hd.1 p hp).1)
  obtain ⟨h1, h2⟩ := slip_round hok hw S hd
  have hfin' : flS E' fin1 = false := by rw [hf _ okS_fin1, S.fin, hfin]; rfl
  refine ⟨G.mapD, hE, h1, fun kl h => ?_, fun p hp => ?_, fun n hn h3 h4 t p hp => ?_, fun n hn h3 => ?_, hfin', fun r' hr t ht => ?_⟩
  · obtain ⟨p, hp, e⟩ := G.keys kl h
    obtain ⟨q, hq, h⟩ := List.mem_flatMap.1 hp
    exact ⟨p.1, nexts_all hw (hd.1 q hq).1 h, e⟩
  · rcases h2 p hp with h | ⟨h3, h4⟩
    · exact .inl h
    · exact .inr ⟨by rw [hf _ (hok _ (paths_all hw _ p hp)), h3]; rfl, h4⟩
  · rw [hf n hn, h4, Bool.or_false] at h3
    cases hD : has D (kL n)
    · have := S.closed n hn h3 hD t p hp
      have hpo : okS p.1 := hok _ (nexts_all hw (show (n, t).1 ∈ allSt ws from S.keysE n hn h3) hp)
      rw [hf _ hpo, this]; rfl
    · obtain ⟨c, d, e, hm⟩ := nexts_step (u := txOf D n) hp
      have hin := hd.2 n hn hD
      have hpa := nexts_all hw (hd.1 _ hin).1 hm
      rw [hf _ (hok _ hpa)]
      cases hfe : flS E p.1
      · have hg := G.all_ _ (List.mem_flatMap.2 ⟨_, hin, hm⟩) hfe
        rw [hg.1]; rfl
      · rfl
  · rw [hf n hn, Bool.or_eq_true] at h3
    rcases h3 with h3 | h3
    · exact S.keysE n hn h3
    · obtain ⟨p, hp, e⟩ := G.keys _ h3
      obtain ⟨q, hq, h⟩ := List.mem_flatMap.1 hp
      have hpa := nexts_all hw (hd.1 q hq).1 h
      rw [kL_inj hn (hok _ hpa) e]
      exact hpa
  · rcases Nat.lt_or_ge r' (r + 1) with h | h
    · exact S.none_ r' (by omega) t ht
    · obtain rfl : r' = r + 1 := by omega
      rcases h2 _ ht with ⟨h3, _⟩ | ⟨h3, _⟩
      · rw [hfin] at h3; cases h3
      · rw [S.fin] at h3; cases h3
theorem slip_never {ws : List ByteArray} (hok : ∀ n ∈ allSt ws, okS n) (hw : ∀ w ∈ ws, 0 < w.size) {r : Nat} {E D : DataW Unit} (S : SlipI ws r E D) (h0 : ∀ n, okS n → has D (kL n) = false) : ∀ k t, (fin1, t) ∉ pathsL ws k := by
  have key : ∀ j, ∀ p ∈ pathsL ws (r + j), flS E p.1 = true := by
    intro j
    induction j with
    | zero =>
      intro p hp
      rcases S.compl p hp with ⟨h1, _⟩ | ⟨h1, _⟩
      · rw [h0 _ (hok _ (paths_all hw _ p hp))] at h1; cases h1
      · exact h1
    | succ j ih =>
      intro p hp
      obtain ⟨q, hq, h⟩ := List.mem_flatMap.1 hp
      have hqo := hok _ (paths_all hw _ q hq)
      exact S.closed q.1 hqo (ih q hq) (h0 _ hqo) q.2 p h
  intro k t h
  rcases Nat.lt_or_ge k r with hk | hk
  · exact S.none_ k (by omega) t h
  · obtain ⟨j, rfl⟩ : ∃ j, k = r + j := ⟨k - r, by omega⟩
    have := key j _ h
    rw [S.fin] at this; cases this
theorem slip_found {ws : List ByteArray} (hok : ∀ n ∈ allSt ws, okS n) (hw : ∀ w ∈ ws, 0 < w.size) {r : Nat} {E D : DataW Unit} {done : List (St × Tx)} (S : SlipI ws r E D) (hd : Done ws D done) (h : has (roundD ws E done) (kL fin1) = true) :
    (fin1, txOf (roundD ws E done) fin1) ∈ pathsL ws (r + 1) ∧ (∀ u, (fin1, u) ∈ pathsL ws (r + 1) → ¬ bef u (txOf (roundD ws E done) fin1)) ∧ ∀ r', r' ≤ r → ∀ u, (fin1, u) ∉ pathsL ws r' := by
  obtain ⟨h1, h2⟩ := slip_round hok hw S hd
  refine ⟨h1 _ okS_fin1 h, fun u hu => ?_, S.none_⟩
  rcases h2 _ hu with ⟨_, h3⟩ | ⟨_, h3⟩
  · exact h3
  · rw [h] at h3; cases h3
def SlipIs (ws : List ByteArray) (t : Tx) (e : Int) : Prop :=
  (codeOk ws = false ∧ t = (⟨#[]⟩, ⟨#[]⟩) ∧ e = 110) ∨ (codeOk ws = true ∧
    ((e = 0 ∧ ∃ r, r ≤ 1000001 ∧ (fin1, t) ∈ pathsL ws r ∧ (∀ u, (fin1, u) ∈ pathsL ws r → ¬ bef u t) ∧ ∀ r', r' < r → ∀ u, (fin1, u) ∉ pathsL ws r') ∨ (e = 6 ∧ t = (⟨#[]⟩, ⟨#[]⟩) ∧ ∀ r u, (fin1, u) ∉ pathsL ws r)))
noncomputable def openS (ws : List ByteArray) (E : DataW Unit) : Nat := ((allSt ws).filter (fun n => !flS E n)).length
theorem openS_le (ws : List ByteArray) (E : DataW Unit) : openS ws E ≤ (allSt ws).length := List.length_filter_le _ _
theorem openS_lt {ws : List ByteArray} (hok : ∀ n ∈ allSt ws, okS n) {E E' : DataW Unit} {n : St} (hn : n ∈ allSt ws) (h1 : flS E n = false) (h2 : flS E' n = true) (hm : ∀ m, okS m → flS E m = true → flS E' m = true) : openS ws E' < openS ws E := by
  unfold openS
  have key : ∀ (l : List St), (∀ m ∈ l, okS m) → (l.filter (fun n => !flS E' n)).length ≤ (l.filter (fun n => !flS E n)).length ∧ (n ∈ l → (l.filter (fun n => !flS E' n)).length < (l.filter (fun n => !flS E n)).length) := by
    intro l
    induction l with
    | nil => intro _; exact ⟨Nat.le_refl _, fun h => (by cases h)⟩
    | cons m l ih =>
      intro ho
      obtain ⟨i1, i2⟩ := ih (fun x hx => ho x (by simp [hx]))
      have hmo := hm m (ho m (by simp))
      rw [List.filter_cons, List.filter_cons]
      refine ⟨?_, fun hmem => ?_⟩
      · cases h3 : flS E m
        · cases h4 : flS E' m
          · simp; exact i1
          · simp; omega
        · rw [hmo h3]; simp; exact i1
      · by_cases e : n = m
        · subst e
          rw [h1, h2]; simp; omega
        · have hl : n ∈ l := by
            rcases List.mem_cons.1 hmem with h | h
            · exact absurd h e
            · exact h
          have := i2 hl
          cases h3 : flS E m
          · cases h4 : flS E' m
            · simp; exact this
            · simp; omega
          · rw [hmo h3]; simp; exact this
  exact (key _ hok).2 hn
theorem size_keys {D : DataW Unit} (hT : Tidy D) (L : List Lit) (h : ∀ kl, has D kl = true → kl ∈ L) (hk : ∀ es, D = .map es → ∀ p ∈ es, WideAt.IsKeyLit p.1) : Maps.size D ≤ L.length := by
  classical
  obtain ⟨es, rfl, hp⟩ := hT
  have hin : ∀ p ∈ es, p.1 ∈ L := fun p hp' => h p.1 (by
    rw [has_eq, List.any_eq_true]
    exact ⟨p, hp', WideAt.sameKey_self (hk es rfl p hp')⟩)
  have key : ∀ (es : List (Lit × DataW Unit)) (L : List Lit), es.Pairwise (fun p q => p.1 ≠ q.1) → (∀ p ∈ es, p.1 ∈ L) → es.length ≤ L.length := by
    intro es
    induction es with
    | nil => intro L _ _; exact Nat.zero_le _
    | cons p es ih =>
      intro L hp hin
      obtain ⟨h1, h2⟩ := List.pairwise_cons.1 hp
      have hm := hin p (by simp)
      have := ih (L.erase p.1) h2 (fun q hq => (List.mem_erase_of_ne (h1 q hq).symm).2 (hin q (by simp [hq])))
      rw [List.length_erase_of_mem hm] at this
      have hl : 0 < L.length := List.length_pos_of_mem hm
      simp only [List.length_cons]
      omega
  exact key es L hp hin
theorem has_of_size {D : DataW Unit} (hD : IsMap D) (h : Maps.size D ≠ 0) (hk : ∀ es, D = .map es → ∀ p ∈ es, WideAt.IsKeyLit p.1) : ∃ kl, has D kl = true := by
  obtain ⟨es, rfl⟩ := hD
  cases es with
  | nil => exact absurd rfl h
  | cons p es =>
    refine ⟨p.1, ?_⟩
    rw [has_eq, List.any_eq_true]
    exact ⟨p, by simp, WideAt.sameKey_self (hk _ rfl p (by simp))⟩
set_option maxRecDepth 100000 in
theorem keys_lit {w : World} {R : Value → Option (DataW Unit × List MemPlace)} {b n : Nat} {D : DataW Unit} (h : w.ownsMap Tryz.prog 150 R b n D) : ∀ es, D = .map es → ∀ p ∈ es, WideAt.IsKeyLit p.1 := by
  obtain ⟨es, clock, hb, F, hs, hD⟩ := h
  intro es' e p hp
  rw [hD] at e
  have e := DataW.map.inj e
  rw [← e] at hp
  have hp := (WideShapes.sorted_perm _).mem_iff.1 hp
  obtain ⟨x, hx, rfl⟩ := List.mem_map.1 hp
  obtain ⟨y, hy⟩ := F.reads x hx
  rw [WideElems.rg_of hy]
  exact lawS.key (WideElems.rd_key hy)
theorem map_tight {w : World} {R : Value → Option (DataW Unit × List MemPlace)} {b n : Nat} {D : DataW Unit} (h : w.ownsMap Tryz.prog 150 R b n D) : w.ownsMap Tryz.prog 150 R b (Maps.size D) D := by
  obtain ⟨es, clock, hb, F, hs, hD⟩ := h
  have e1 : Maps.size D = es.size := by rw [hD]; simp [Maps.size, length_sorted]
  exact ⟨es, clock, hb, F, by omega, hD⟩
end Go.Proofs.YtfnibmcenjiodaaGreatDoor.M
namespace Go.Proofs.YtfnibmcenjiodaaGreatDoor.M
open Go.Sort Go.Shelf Go.RowKit Go.Maps Go.Proofs.YtfnibmcenjiodaaGreatDoorW.PrintWords Go.Proofs.YtfnibmcenjiodaaGreatDoorW.PrintLast Go.Proofs.YtfnibmcenjiodaaGreatDoorW.PrintMore
def diffs : List UInt8 → List UInt8 → Nat
  | a :: s, b :: t => (if a = b then 0 else 1) + diffs s t
  | _, _ => 0
theorem diffs_snoc : ∀ (s t : List UInt8) (a b : UInt8), s.length = t.length → diffs (s ++ [a]) (t ++ [b]) = diffs s t + (if a = b then 0 else 1)
  | [], [], a, b, _ => by simp [diffs]
  | [], _ :: _, _, _, h => by cases h
  | _ :: _, [], _, _, h => by cases h
  | x :: s, y :: t, a, b, h => by
    show (if x = y then 0 else 1) + diffs (s ++ [a]) (t ++ [b]) = _
    rw [diffs_snoc s t a b (by simpa using h)]
    show _ = (if x = y then 0 else 1) + diffs s t + _
    omega
def OnR (ws : List ByteArray) : List UInt8 → ByteArray → Prop
  | [], x => x = ⟨#[]⟩
  | a :: t, x => ∃ left, OnR ws t left ∧ x ∈ onL (onW ws left) (a.toNat : Int)
theorem head_byte {w : ByteArray} (h : 0 < w.size) : ∃ b : UInt8, w.data[0]?.getD 0 = b ∧ w.data.toList = b :: (w.extract 1 w.size).data.toList := by
  have e : (w.extract 1 w.size).data.toList = w.data.toList.drop 1 := by
    rw [ByteArray.data_extract, Array.toList_extract]
    show List.take (w.size - 1) (List.drop 1 w.data.toList) = _
    apply List.take_of_length_le
    rw [List.length_drop, data_length]; exact Nat.le_refl _
  cases hd : w.data.toList with
  | nil => rw [← data_length, hd] at h; cases h
  | cons b l =>
    refine ⟨b, ?_, ?_⟩
    · rw [← Array.getElem?_toList, hd]; rfl
    · rw [e, hd]; rfl
theorem mem_onL {xs : List ByteArray} (hx : ∀ w ∈ xs, 0 < w.size) {x : ByteArray} {a : UInt8} : x ∈ onL xs (a.toNat : Int) ↔ ∃ w ∈ xs, w.data.toList = a :: x.data.toList := by
  unfold onL
  rw [List.mem_map]
  constructor
  · rintro ⟨w, hw, rfl⟩
    obtain ⟨h1, h2⟩ := List.mem_filter.1 hw
    obtain ⟨b, hb, e⟩ := head_byte (hx w h1)
    rw [hb] at h2
    have h3 := of_decide_eq_true h2
    obtain rfl : b = a := UInt8.toNat_inj.1 (by omega)
    exact ⟨w, h1, e⟩
  · rintro ⟨w, hw, e⟩
    obtain ⟨b, hb, e2⟩ := head_byte (hx w hw)
    rw [e] at e2
    obtain ⟨rfl, e3⟩ := List.cons.inj e2
    exact ⟨w, List.mem_filter.2 ⟨hw, by rw [hb]; simp⟩, ByteArray.ext (Array.toList_inj.1 e3.symm)⟩
theorem onW_pos {ws : List ByteArray} (hw : ∀ w ∈ ws, 0 < w.size) (left : ByteArray) : ∀ w ∈ onW ws left, 0 < w.size := by
  intro w h
  unfold onW at h
  split at h
  · exact hw w h
  · rename_i hne
    rw [List.mem_singleton] at h
    subst h
    rcases Nat.eq_zero_or_pos w.size with h0 | h0
    · exact absurd (ByteArray.ext (Array.eq_empty_of_size_eq_zero h0)) hne
    · exact h0
theorem onR_rows {ws : List ByteArray} (hw : ∀ w ∈ ws, 0 < w.size) : ∀ (t : List UInt8) (x : ByteArray), OnR ws t x → ∃ xs : List ByteArray, (∀ z ∈ xs, z ∈ ws) ∧ t.reverse ++ x.data.toList = catW xs
  | [], x, h => ⟨[], by simp, by rw [show x = ⟨#[]⟩ from h]; rfl⟩
  | a :: t, x, h => by
    obtain ⟨left, h1, h2⟩ := h
    obtain ⟨xs, h3, h4⟩ := onR_rows hw t left h1
    obtain ⟨w, h5, h6⟩ := (mem_onL (onW_pos hw left)).1 h2
    unfold onW at h5
    split at h5
    · rename_i h0
      refine ⟨xs ++ [w], fun z hz => ?_, ?_⟩
      · rcases List.mem_append.1 hz with hz | hz
        · exact h3 z hz
        · rw [List.mem_singleton] at hz; rw [hz]; exact h5
      · rw [h0] at h4
        have h4' : t.reverse = catW xs := by simpa using h4
        have : catW (xs ++ [w]) = catW xs ++ w.data.toList := by simp [catW]
        rw [this, ← h4', h6]; simp
    · rw [List.mem_singleton] at h5
      subst h5
      exact ⟨xs, h3, by rw [← h4, h6]; simp⟩
theorem onR_in {ws : List ByteArray} (hw : ∀ w ∈ ws, 0 < w.size) : ∀ (l : List UInt8) (t : List UInt8) (left : ByteArray), OnR ws t left → left.data.toList = l → OnR ws (l.reverse ++ t) ⟨#[]⟩
  | [], t, left, h, e => by
    have : left = ⟨#[]⟩ := ByteArray.ext (Array.toList_inj.1 e)
    rw [this] at h; exact h
  | a :: l, t, left, h, e => by
    have hne : left ≠ ⟨#[]⟩ := by rintro rfl; cases e
    have := onR_in hw l (a :: t) ⟨l.toArray⟩ ⟨left, h, (mem_onL (onW_pos hw left)).2 ⟨left, by unfold onW; rw [if_neg hne]; simp, by rw [e]⟩⟩ rfl
    rw [List.reverse_cons, List.append_assoc]
    exact this
theorem onR_word {ws : List ByteArray} (hw : ∀ w ∈ ws, 0 < w.size) {t : List UInt8} (h : OnR ws t ⟨#[]⟩) {w : ByteArray} (hm : w ∈ ws) : OnR ws (w.data.toList.reverse ++ t) ⟨#[]⟩ := by
  cases e : w.data.toList with
  | nil => have := hw w hm; rw [← data_length, e] at this; cases this
  | cons a l =>
    have := onR_in hw l (a :: t) ⟨l.toArray⟩ ⟨_, h, (mem_onL (onW_pos hw _)).2 ⟨w, by unfold onW; rw [if_pos rfl]; exact hm, by rw [e]⟩⟩ rfl
    rw [List.reverse_cons, List.append_assoc]
    exact this
theorem rows_onR {ws : List ByteArray} (hw : ∀ w ∈ ws, 0 < w.size) : ∀ (xs : List ByteArray) (t : List UInt8), OnR ws t ⟨#[]⟩ → (∀ z ∈ xs, z ∈ ws) → OnR ws ((catW xs).reverse ++ t) ⟨#[]⟩
  | [], t, h, _ => h
  | x :: xs, t, h, hx => by
    have := rows_onR hw xs _ (onR_word hw h (hx x (List.mem_cons_self ..))) (fun z hz => hx z (List.mem_cons_of_mem _ hz))
    rw [catW_cons, List.reverse_append, List.append_assoc]
    exact this
theorem onR_ways {ws : List ByteArray} (hw : ∀ w ∈ ws, 1 ≤ w.size) (s : ByteArray) : OnR ws s.data.toList.reverse ⟨#[]⟩ ↔ 0 < waysV ws s := by
  rw [ways_pos hw]
  constructor
  · intro h
    obtain ⟨xs, h1, h2⟩ := onR_rows hw _ _ h
    obtain ⟨o, o1, o2⟩ := row_orders xs h1
    exact ⟨o, o1, by rw [spell_cat, o2, ← h2]; simp⟩
  · rintro ⟨o, o1, o2⟩
    have := rows_onR hw (o.map (wordAt ws)) [] rfl (fun z hz => by obtain ⟨n, hn, rfl⟩ := List.mem_map.1 hz; exact wordAt_mem (o1 n hn).1 (o1 n hn).2)
    rw [← spell_cat, o2] at this
    simpa using this
theorem sgT_data (j : Nat) : (sgT j).data.toList = [if j = 0 then (45 : UInt8) else 46] := by unfold sgT; split <;> rfl
theorem sgn_byte (j : Nat) : sgn j = ((if j = 0 then (45 : UInt8) else 46).toNat : Int) := by unfold sgn; split <;> rfl
theorem cat_data (a b : ByteArray) : (a ++ b).data.toList = a.data.toList ++ b.data.toList := by simp
theorem signs_mem {s : ByteArray} (h : isSigns s = true) {b : UInt8} (hb : b ∈ s.data.toList) : b = 45 ∨ b = 46 := by
  obtain ⟨i, hi, e⟩ := List.getElem_of_mem hb
  have := signs_at h i (by rw [data_length] at hi; exact hi)
  rw [← e]
  simpa using this
theorem onR_sign {ws : List ByteArray} (hw : ∀ w ∈ ws, 0 < w.size) (hs : ∀ w ∈ ws, isSigns w = true) : ∀ (t : List UInt8) (x : ByteArray), OnR ws t x → ∀ b ∈ t, b = 45 ∨ b = 46 := by
  intro t x h b hb
  obtain ⟨xs, h1, h2⟩ := onR_rows hw t x h
  have : b ∈ catW xs := by rw [← h2]; simp [hb]
  obtain ⟨w, hw1, hw2⟩ := List.mem_flatMap.1 this
  exact signs_mem (hs w (h1 w hw1)) hw2
theorem paths_iff {ws : List ByteArray} (hw : ∀ w ∈ ws, 0 < w.size) (hs : ∀ w ∈ ws, isSigns w = true) : ∀ (r : Nat) (s : St) (t : Tx), (s, t) ∈ pathsL ws r ↔ t.1.size = r ∧ t.2.size = r ∧ OnR ws t.1.data.toList.reverse s.1 ∧ OnR ws t.2.data.toList.reverse s.2.1 ∧ diffs t.1.data.toList t.2.data.toList = if s.2.2 then 1 else 0
  | 0, s, t => by
    unfold pathsL
    rw [List.mem_singleton]
    constructor
    · intro h
      obtain ⟨rfl, rfl⟩ := Prod.mk.inj h
      exact ⟨rfl, rfl, rfl, rfl, rfl⟩
    · rintro ⟨h1, h2, h3, h4, h5⟩
      have e1 : t.1 = ⟨#[]⟩ := ByteArray.ext (Array.eq_empty_of_size_eq_zero h1)
      have e2 : t.2 = ⟨#[]⟩ := ByteArray.ext (Array.eq_empty_of_size_eq_zero h2)
      rw [e1] at h3 h5
      rw [e2] at h4 h5
      obtain ⟨a, b, c⟩ := s
      obtain ⟨u, v⟩ := t
      have h3' : a = ⟨#[]⟩ := h3
      have h4' : b = ⟨#[]⟩ := h4
      have h5' : c = false := by
        cases c
        · rfl
        · simp [diffs] at h5
      dsimp only at e1 e2
      rw [e1, e2, h3', h4', h5']; rfl
  | r + 1, s, t => by
    unfold pathsL
    rw [List.mem_flatMap]
    constructor
    · rintro ⟨⟨s', t'⟩, hp, hq⟩
      obtain ⟨h1, h2, h3, h4, h5⟩ := (paths_iff hw hs r s' t').1 hp
      unfold nexts at hq
      obtain ⟨i, hi, hq⟩ := List.mem_flatMap.1 hq
      have hi := List.mem_range.1 hi
      unfold nextI at hq
      split at hq
      · cases hq
      · rename_i hc
        obtain ⟨x, hx, hq⟩ := List.mem_flatMap.1 hq
        obtain ⟨y, hy, e⟩ := List.mem_map.1 hq
        obtain ⟨rfl, rfl⟩ := Prod.mk.inj e
        dsimp only at *
        refine ⟨by rw [cat_size, sgT_size, h1], by rw [cat_size, sgT_size, h2], ?_, ?_, ?_⟩
        · rw [cat_data, sgT_data, List.reverse_append]
          exact ⟨_, h3, by rw [← sgn_byte]; exact hx⟩
        · rw [cat_data, sgT_data, List.reverse_append]
          exact ⟨_, h4, by rw [← sgn_byte]; exact hy⟩
        · rw [cat_data, cat_data, sgT_data, sgT_data, diffs_snoc _ _ _ _ (by rw [data_length, data_length, h1, h2]), h5]
          have hi2 : i = 0 ∨ i = 1 ∨ i = 2 ∨ i = 3 := by omega
          cases hb : s'.2.2
          · rcases hi2 with rfl | rfl | rfl | rfl <;> simp
          · rw [hb] at hc
            have : i / 2 = i % 2 := by
              by_cases e : i / 2 = i % 2
              · exact e
              · exact absurd ⟨e, rfl⟩ hc
            rw [this]; simp
    · rintro ⟨h1, h2, h3, h4, h5⟩
      have snoc : ∀ u : ByteArray, u.size = r + 1 → ∃ (u' : ByteArray) (a : UInt8), u'.size = r ∧ u.data.toList = u'.data.toList ++ [a] := fun u hu => by
        have hne : u.data.toList ≠ [] := by intro e; rw [← data_length, e] at hu; cases hu
        refine ⟨⟨u.data.toList.dropLast.toArray⟩, u.data.toList.getLast hne, ?_, ?_⟩
        · show u.data.toList.dropLast.toArray.size = _
          rw [List.size_toArray, List.length_dropLast, data_length, hu]; rfl
        · exact (List.dropLast_concat_getLast hne).symm
      obtain ⟨t1, a, e1, e2⟩ := snoc t.1 h1
      obtain ⟨t2, b, e3, e4⟩ := snoc t.2 h2
      have ha := onR_sign hw hs _ _ h3 a (by rw [e2]; simp)
      have hb := onR_sign hw hs _ _ h4 b (by rw [e4]; simp)
      rw [e2, List.reverse_append] at h3
      rw [e4, List.reverse_append] at h4
      rw [e2, e4, diffs_snoc _ _ _ _ (by rw [data_length, data_length, e1, e3])] at h5
      obtain ⟨l1, h6, h7⟩ := h3
      obtain ⟨l2, h8, h9⟩ := h4
      obtain ⟨ja, hja, ka⟩ : ∃ j, j < 2 ∧ a = if j = 0 then (45 : UInt8) else 46 := by
        rcases ha with rfl | rfl
        · exact ⟨0, by omega, rfl⟩
        · exact ⟨1, by omega, rfl⟩
      obtain ⟨jb, hjb, kb⟩ : ∃ j, j < 2 ∧ b = if j = 0 then (45 : UInt8) else 46 := by
        rcases hb with rfl | rfl
        · exact ⟨0, by omega, rfl⟩
        · exact ⟨1, by omega, rfl⟩
      have hab : a = b ↔ ja = jb := by
        have h2 : ja = 0 ∨ ja = 1 := by omega
        have h3 : jb = 0 ∨ jb = 1 := by omega
        rcases h2 with rfl | rfl <;> rcases h3 with rfl | rfl <;> subst ka kb <;> simp
      -- whether a sign was wrong before
      obtain ⟨wr, hwr, hwr2, hwr3⟩ : ∃ wr : Bool, diffs t1.data.toList t2.data.toList = (if wr then 1 else 0) ∧ (ja ≠ jb → wr = false) ∧ s.2.2 = (wr || decide (ja ≠ jb)) := by
        by_cases e : ja = jb
        · rw [if_pos (hab.2 e)] at h5
          exact ⟨s.2.2, by simpa using h5, fun h => absurd e h, by simp [e]⟩
        · rw [if_neg (fun h => e (hab.1 h))] at h5
          cases hc : s.2.2
          · rw [hc] at h5; simp at h5
          · rw [hc] at h5
            exact ⟨false, by simp at h5 ⊢; exact h5, fun _ => rfl, by simp [e]⟩
      refine ⟨((l1, l2, wr), (t1, t2)), (paths_iff hw hs r _ _).2 ⟨e1, e3, h6, h8, hwr⟩, ?_⟩
      unfold nexts
      refine List.mem_flatMap.2 ⟨2 * ja + jb, List.mem_range.2 (by omega), ?_⟩
      have d1 : (2 * ja + jb) / 2 = ja := by omega
      have d2 : (2 * ja + jb) % 2 = jb := by omega
      unfold nextI
      rw [d1, d2, if_neg (by rintro ⟨h, h'⟩; rw [hwr2 h] at h'; cases h')]
      refine List.mem_flatMap.2 ⟨s.1, by rw [sgn_byte, ← ka]; exact h7, List.mem_map.2 ⟨s.2.1, by rw [sgn_byte, ← kb]; exact h9, ?_⟩⟩
      dsimp only
      refine Prod.ext (Prod.ext rfl (Prod.ext rfl hwr3.symm)) (Prod.ext ?_ ?_)
      · refine ByteArray.ext (Array.toList_inj.1 ?_)
        rw [cat_data, sgT_data, ← ka, e2]
      · refine ByteArray.ext (Array.toList_inj.1 ?_)
        rw [cat_data, sgT_data, ← kb, e4]
def Pair (ws : List ByteArray) (t : Tx) : Prop := t.1.size = t.2.size ∧ 0 < waysV ws t.1 ∧ 0 < waysV ws t.2 ∧ diffs t.1.data.toList t.2.data.toList = 1
theorem fin_iff {ws : List ByteArray} (hw : ∀ w ∈ ws, 0 < w.size) (hs : ∀ w ∈ ws, isSigns w = true) (r : Nat) (t : Tx) : (fin1, t) ∈ pathsL ws r ↔ t.1.size = r ∧ Pair ws t := by
  rw [paths_iff hw hs]
  unfold Pair
  rw [show fin1.1 = ⟨#[]⟩ from rfl, show fin1.2.1 = ⟨#[]⟩ from rfl, show fin1.2.2 = true from rfl, onR_ways hw, onR_ways hw, if_pos rfl]
  constructor
  · rintro ⟨h1, h2, h3, h4, h5⟩; exact ⟨h1, h1.trans h2.symm, h3, h4, h5⟩
  · rintro ⟨h1, h2, h3, h4, h5⟩; exact ⟨h1, h2.symm.trans h1, h3, h4, h5⟩
def LeastP (ws : List ByteArray) (t : Tx) : Prop := Pair ws t ∧ ∀ u, Pair ws u → t.1.size ≤ u.1.size ∧ (u.1.size = t.1.size → ¬ bef u t)
theorem leastP_eq {ws : List ByteArray} {t u : Tx} (h : LeastP ws t) (k : LeastP ws u) : t = u := by
  have h1 := h.2 u k.1
  have h2 := k.2 t h.1
  have e : t.1.size = u.1.size := by omega
  rcases bef_total (h1.2 e.symm) with e2 | e2
  · exact e2.symm
  · exact absurd e2 (h2.2 e)
open Classical in
noncomputable def slipR (l : List ByteArray) : ByteArray × ByteArray × Int :=
  if codeOk l = true then (if h : ∃ t, LeastP l t then ((Classical.choose h).1, (Classical.choose h).2, 0) else (⟨#[]⟩, ⟨#[]⟩, 6)) else (⟨#[]⟩, ⟨#[]⟩, 110)
theorem slip_bad {l : List ByteArray} (h : codeOk l = false) : slipR l = (⟨#[]⟩, ⟨#[]⟩, 110) := by
  unfold slipR; rw [if_neg (by rw [h]; decide)]
theorem slip_some {l : List ByteArray} (h : codeOk l = true) {t : Tx} (k : LeastP l t) : slipR l = (t.1, t.2, 0) := by
  unfold slipR
  have hx : ∃ t, LeastP l t := ⟨t, k⟩
  rw [if_pos h, dif_pos hx, leastP_eq (Classical.choose_spec hx) k]
theorem slip_none {l : List ByteArray} (h : codeOk l = true) (k : ∀ t, ¬ Pair l t) : slipR l = (⟨#[]⟩, ⟨#[]⟩, 6) := by
  unfold slipR
  rw [if_pos h, dif_neg]
  rintro ⟨t, ht, _⟩
  exact k t ht
theorem codeOk_signs {l : List ByteArray} (h : codeOk l = true) : ∀ x ∈ l, isSigns x = true := by
  simp only [codeOk, Bool.and_eq_true, List.all_eq_true] at h
  intro x hx
  have := h.1.2 x hx
  simp only [wordOk, Bool.and_eq_true] at this
  exact this.2
theorem slip_eq {l : List ByteArray} {t : Tx} {n : Int} (h : SlipIs l t n) : slipR l = (t.1, t.2, n) := by
  rcases h with ⟨h1, rfl, rfl⟩ | ⟨h1, hh⟩
  · exact slip_bad h1
  · have hw := codeOk_pos h1
    have hs := codeOk_signs h1
    rcases hh with ⟨rfl, r, _, h2, h3, h4⟩ | ⟨rfl, rfl, h2⟩
    · obtain ⟨h5, h6⟩ := (fin_iff hw hs r t).1 h2
      refine slip_some h1 ⟨h6, fun u hu => ⟨?_, fun e => h3 u ((fin_iff hw hs r u).2 ⟨by omega, hu⟩)⟩⟩
      rcases Nat.lt_or_ge u.1.size t.1.size with h | h
      · exact absurd ((fin_iff hw hs _ u).2 ⟨rfl, hu⟩) (h4 u.1.size (by omega) u)
      · exact h
    · exact slip_none h1 (fun t ht => h2 _ t ((fin_iff hw hs _ t).2 ⟨rfl, ht⟩))
theorem slip_bound {l : List ByteArray} {t : Tx} {n : Int} (h : SlipIs l t n) : t.1.size ≤ 1000001 := by
  rcases h with ⟨_, rfl, _⟩ | ⟨h1, ⟨_, r, hr, h2, _⟩ | ⟨_, rfl, _⟩⟩
  · decide
  · have := ((fin_iff (codeOk_pos h1) (codeOk_signs h1) r t).1 h2).1
    omega
  · decide
theorem leastP_exists {l : List ByteArray} {t : Tx} (h : Pair l t) : ∃ r, LeastP l r := by
  have key : ∀ n, (∃ t : Tx, t.1.size = n ∧ Pair l t) → ∃ t : Tx, Pair l t ∧ ∀ u, Pair l u → t.1.size ≤ u.1.size := by
    intro n
    induction n using Nat.strongRecOn with
    | ind n ih =>
      rintro ⟨s, e, h⟩
      by_cases hc : ∃ t, Pair l t ∧ t.1.size < n
      · obtain ⟨t, h1, h2⟩ := hc
        exact ih t.1.size h2 ⟨t, rfl, h1⟩
      · refine ⟨s, h, fun t ht => ?_⟩
        rcases Nat.lt_or_ge t.1.size s.1.size with h3 | h3
        · exact absurd ⟨t, ht, by omega⟩ hc
        · exact h3
  obtain ⟨s, h1, h2⟩ := key _ ⟨t, rfl, h⟩
  obtain ⟨m, h3, h4, h5⟩ := lex_min (s.1.size + s.1.size) (fun d => ∃ u : Tx, Pair l u ∧ u.1.size = s.1.size ∧ u.1.data.toList ++ u.2.data.toList = d) ⟨s.1.data.toList ++ s.2.data.toList, by rw [List.length_append, data_length, data_length, h1.1], s, h1, rfl, rfl⟩
  obtain ⟨u, k1, k2, k3⟩ := h4
  refine ⟨u, k1, fun v hv => ⟨by rw [k2]; exact h2 v hv, fun e hb => ?_⟩⟩
  have h6 := h5 (v.1.data.toList ++ v.2.data.toList) (by rw [List.length_append, data_length, data_length, ← hv.1]; omega) ⟨v, hv, by omega, rfl⟩
  rw [← k3] at h6
  unfold bef at hb
  rw [befI_neg] at hb
  simp only [Lib.toList_data] at hb
  have h7 : v.1.data.toList ++ v.2.data.toList < u.1.data.toList ++ u.2.data.toList := by
    rcases hb with hb | ⟨e1, hb⟩
    · exact append_lt (by rw [data_length, data_length, e]) hb _
    · rw [e1]; exact List.append_left_lt hb
  exact absurd h7 (List.not_lt.2 h6)
theorem slip_cases {l : List ByteArray} (h : codeOk l = true) : (∃ t, LeastP l t ∧ slipR l = (t.1, t.2, 0)) ∨ ((∀ t, ¬ Pair l t) ∧ slipR l = (⟨#[]⟩, ⟨#[]⟩, 6)) := by
  by_cases hx : ∃ t, Pair l t
  · obtain ⟨t, ht⟩ := hx
    obtain ⟨r, hr⟩ := leastP_exists ht
    exact .inl ⟨r, hr, slip_some h hr⟩
  · exact .inr ⟨fun t ht => hx ⟨t, ht⟩, slip_none h (fun t ht => hx ⟨t, ht⟩)⟩
end Go.Proofs.YtfnibmcenjiodaaGreatDoor.M
namespace Go.Proofs.YtfnibmcenjiodaaGreatDoor.M
open Go.Sort Go.Shelf Go.RowKit Go.Proofs.YtfnibmcenjiodaaGreatDoorW.PrintWords Go.Proofs.YtfnibmcenjiodaaGreatDoorW.PrintLast Go.Proofs.YtfnibmcenjiodaaGreatDoorW.PrintMore
attribute [local go_sem] Oper.semAt_some
def ordW (l : List ByteArray) : List ByteArray := (sortB l).map (fun x => ⟨x.toArray⟩)
def freeAt (ss : List ByteArray) (i : Nat) : Bool := i == 0 || !Lib.hasPrefix (rdOf ByteArray.empty ss i).data.toList (rdOf ByteArray.empty ss (i - 1 : Int)).data.toList
def freeB (l : List ByteArray) : Bool := (List.range l.length).all (freeAt (ordW l))
set_option maxRecDepth 100000 in
set_option maxHeartbeats 1000000 in
theorem free_calls (A : Option Addr) (c : Nat) (l : List ByteArray) (w : World) (hr : Kd.C Kd.string w A l.length l) (hl : l.length ≤ 1000000000) :
    Calls Tryz.prog 80 #[.slice A l.length c] w fun e w' => e = .returned (.bool (freeB l)) ∧ Below w.heap.size w w' := by
  go_enter Tryz.func80, Tryz.ntmps80
  go_wp2_with fail
  go_step3
  go_wp2_with fail
  refine (values_calls A c l.length _).mono ?_
  rintro e w1 ⟨rfl, rfl⟩
  go_wp2_with fail
  refine (sorted_calls 183 _ (enters_of Tryz.func183 (by kernel_rfl) rfl) _ _ l.length hl _ (values_stops 8 (by decide) w.heap.size A c l _ (Kd.C_alloc hr _) (by simp) (box_cell (blk_new w _))) (fun xs h => by rw [h]; exact Nat.le_refl _)).mono ?_
  rintro e w2 ⟨v, xs, rfl, rfl, hrow, hnil, hb⟩
  clear hnil
  have hbw := below_step (below1 w (.cells #[.slice A xs.length c] 22)) hb
  have hlen : (ordW xs).length = xs.length := by simp [ordW, sortB]
  have hmap : (sortB xs).map encStr = (ordW xs).map Value.string := by unfold ordW; rw [List.map_map]; rfl
  rw [hmap, ← hlen] at hrow
  have hR : Kd.string.R 9 w2 _ (fun _ => True) v (ordW xs) := Kd.R_of_own hrow (fun _ _ => trivial)
  obtain ⟨A2, c2, rfl, hc2, hC2⟩ := Kd.R_reads hR
  have hmax := Kd.C_max hC2
  have HC := Lib.hid hC2
  have HB := Lib.hid hbw
  obtain ⟨o, ho⟩ : ∃ o, o = ordW xs := ⟨_, rfl⟩
  rw [← ho] at HC hc2 hmax hlen
  rw [← ho]
  have Ho := Lib.hid ho
  clear hb hrow hR hC2 hbw hmap ho
  go_wp2_with fail
  go_step3
  go_wp2_with fail
  go_loopw [11] (fun iv wr => ∃ i : Nat, i ≤ o.length ∧ iv = .int .i64 i ∧ Hid ((List.range i).all (freeAt o) = true) ∧ wr = w2) (fun iv _ => o.length - (intOf iv).toNat)
  case atStart => exact ⟨0, by omega, rfl, Lib.hid rfl, rfl⟩
  case round =>
    obtain ⟨i, hi, rfl, HA, rfl⟩ := hrel
    by_cases hlt : i < o.length
    · obtain ⟨ad, rfl, hcell⟩ := Kd.at_string HC.out i (by omega) (by omega)
      rw [show ((i : Int).toNat) = i from by omega] at hcell
      by_cases h0 : i = 0
      · have hfa : Hid (freeAt o i = true) := Lib.hid (by rw [h0]; rfl)
        have hbq : ((i : Int) == 0) = true := by rw [h0]; rfl
        clear h0
        go_wp2
        go_roundw
        case rel => exact ⟨i + 1, by omega, by go_num, Lib.hid (by rw [List.range_succ, List.all_append, HA.out]; simp [hfa.out]), by first | rfl | trivial⟩
        case measure => simp [intOf]; omega
      · have h0i : ¬ (i : Int) = 0 := by omega
        obtain ⟨ad', e, hcell'⟩ := Kd.at_string HC.out (i - 1 : Int) (by omega) (by omega)
        cases e
        obtain ⟨x, hx⟩ : ∃ x, x = rdOf ByteArray.empty o i := ⟨_, rfl⟩
        obtain ⟨p, hp⟩ : ∃ p, p = rdOf ByteArray.empty o (i - 1 : Int) := ⟨_, rfl⟩
        rw [← hx] at hcell
        rw [← hp, show ((i : Int) - 1).toNat = i - 1 from by omega] at hcell'
        have hfa : Hid (freeAt o i = !Lib.hasPrefix x.data.toList p.data.toList) := Lib.hid (by unfold freeAt; rw [← hx, ← hp]; simp [h0])
        clear hx hp
        go_wp2_with fail
        refine (Tryz.strings_HasPrefix x p _).mono ?_
        rintro e w3 ⟨rfl, rfl⟩
        cases hh : Lib.hasPrefix x.data.toList p.data.toList
        · rw [hh] at hfa
          go_wp2
          go_roundw
          case rel => exact ⟨i + 1, by omega, by go_num, Lib.hid (by rw [List.range_succ, List.all_append, HA.out]; simp [hfa.out]), by first | rfl | trivial⟩
          case measure => simp [intOf]; omega
        · rw [hh] at hfa
          go_wp2
          rw [Exit.noGoto_ret]
          go_ret
          have hF : freeB xs = false := by
            unfold freeB
            rw [← Ho.out, ← hlen]
            rw [Bool.eq_false_iff]
            intro h
            have := List.all_eq_true.1 h i (List.mem_range.2 hlt)
            rw [hfa.out] at this
            simp at this
          exact ⟨by rw [hF]; rfl, HB.out⟩
    · obtain rfl : i = o.length := by omega
      have hF : Hid (freeB xs = true) := Lib.hid (by unfold freeB; rw [← Ho.out, ← hlen]; exact HA.out)
      go_wp2
      rw [Exit.noGoto_ret]
      go_ret
      exact ⟨by rw [hF.out]; rfl, HB.out⟩
end Go.Proofs.YtfnibmcenjiodaaGreatDoor.M
namespace Go.Proofs.YtfnibmcenjiodaaGreatDoor.M
open Go.Sort Go.Shelf Go.RowKit Go.Maps Go.Proofs.YtfnibmcenjiodaaGreatDoorW.PrintWords Go.Proofs.YtfnibmcenjiodaaGreatDoorW.PrintLast Go.Proofs.YtfnibmcenjiodaaGreatDoorW.PrintMore
attribute [local go_sem] Oper.semAt_some
def exts : Nat → ByteArray → List ByteArray
  | 0, w => [w]
  | k + 1, w => exts k (w ++ ⟨#[45]⟩) ++ exts k (w ++ ⟨#[46]⟩)
theorem exts_length : ∀ (k : Nat) (w : ByteArray), (exts k w).length = 2 ^ k
  | 0, _ => rfl
  | k + 1, w => by rw [exts, List.length_append, exts_length k, exts_length k, Nat.pow_succ]; omega
theorem yield_deep {m : Nat} (m' : Nat) {P : Program} {l : Nat} {args : Array Value} {W : World} {R : Ending → World → Prop} (h : YieldAt Fence.wide m P l args W R) : YieldAt Fence.wide m' P l args W R := by
  obtain ⟨fn, tmps, assign, body, hy, hR⟩ := h
  exact ⟨fn, tmps, assign, body, hy, hR.1, fun c cs _ => hR.2 c cs (room_wide _)⟩
theorem callsIn_deep {m : Nat} (m' : Nat) {P : Program} {f : FuncId} {args : Array Value} {W : World} {R : Ending → World → Prop} (h : CallsIn Fence.wide m P f args W R) : CallsIn Fence.wide m' P f args W R := callsIn_wide.2 (callsIn_wide.1 h)
def KeepsB (W W' : World) : Prop := W.heap.size ≤ W'.heap.size ∧ ∀ (k : Nat) (v : Value) (t : TypeId), W.heap[k]? = some (.cells #[v] t (0, 0)) → t = 146 ∨ t = 3 → W'.heap[k]? = some (.cells #[v] t (0, 0))
theorem KeepsB.trans {A B C : World} (h : KeepsB A B) (k : KeepsB B C) : KeepsB A C := ⟨Nat.le_trans h.1 k.1, fun i v t hi ht => k.2 i v t (h.2 i v t hi ht) ht⟩
theorem KeepsB.put {W : World} {l : Nat} {o o' : Obj} (h : W.heap[l]? = some o) (ho : o.isCells = false) : KeepsB W (W.putObj l o') :=
  ⟨by simp [World.putObj], fun k v t hk _ => (World.putObj_heap_other (by rintro rfl; rw [h] at hk; cases hk; cases ho)).trans hk⟩
structure Bx (l bn by' bs nn : Nat) (W : World) : Prop where
  n : W.heap[bn]? = some (.cells #[.int .i64 nn] 3 (0, 0))
  y : W.heap[by']? = some (.cells #[.func (.yield l) #[] #[]] 146 (0, 0))
  s : W.heap[bs]? = some (.cells #[.func (.func 124) #[] #[.pointer (some ⟨bn, 0, none⟩), .pointer (some ⟨by', 0, none⟩), .pointer (some ⟨bs, 0, none⟩)]] 146 (0, 0))
theorem Bx.keep {l bn by' bs nn : Nat} {W W' : World} (h : Bx l bn by' bs nn W) (k : KeepsB W W') : Bx l bn by' bs nn W' := ⟨k.2 _ _ _ h.n (.inr rfl), k.2 _ _ _ h.y (.inl rfl), k.2 _ _ _ h.s (.inl rfl)⟩
set_option maxRecDepth 100000 in
set_option maxHeartbeats 400000 in
theorem spellA_in (l bn by' bs nn N : Nat) (hnn : nn ≤ 100) (J Jx : List ByteArray → World → Prop)
    (hY : ∀ pre x W, J pre W → pre.length < N → YieldAt Fence.wide 9 Tryz.prog l #[.string x] W fun e W' => (e = .returned (.bool true) ∧ J (pre ++ [x]) W' ∧ KeepsB W W') ∨ (e = .returned (.bool false) ∧ Jx (pre ++ [x]) W')) :
    ∀ (k : Nat) (w : ByteArray) (pre : List ByteArray) (W : World), w.size + k = nn → Bx l bn by' bs nn W → J pre W → pre.length + 2 ^ k ≤ N →
      CallsIn Fence.wide 10 Tryz.prog 124 #[.string w, .pointer (some ⟨bn, 0, none⟩), .pointer (some ⟨by', 0, none⟩), .pointer (some ⟨bs, 0, none⟩)] W fun e W' =>
        (e = .returned (.bool true) ∧ J (pre ++ exts k w) W' ∧ Bx l bn by' bs nn W') ∨ (e = .returned (.bool false) ∧ ∃ p, p <+: pre ++ exts k w ∧ Jx p W') := by
  intro k
  induction k with
  | zero =>
    intro w pre W hw hB hJ hN
    have hwi : (w.size : Int) = nn := by omega
    have cn := box_cell hB.n
    have cy := box_cell hB.y
    obtain ⟨fn, tmps, assign, body, hy, hR⟩ := hY pre w W hJ (by have := hN; simp at this; omega)
    have HB := Lib.hid hB
    have HJ := Lib.hid hJ
    clear hB hJ hY
    refine callsIn_of_wp Tryz.func124 rfl trivial ?_ rfl
    simp only [Tryz.ntmps124, List.size_toArray, List.length_cons, List.length_nil, Nat.reduceAdd, Nat.reduceSub, Array.replicate_succ, Array.replicate_zero, List.push_toArray, List.append_toArray, List.nil_append, List.cons_append]
    gi_wp2
    refine hR.mono ?_
    rintro e W3 (⟨rfl, hJ3, hk3⟩ | ⟨rfl, hJx3⟩)
    · gi_wp2
      go_ret
      exact .inl ⟨rfl, hJ3, HB.out.keep hk3⟩
    · gi_wp2
      go_ret
      exact .inr ⟨rfl, _, List.prefix_refl _, hJx3⟩
  | succ k ih =>
    intro w pre W hw hB hJ hN
    have hwi : ¬ (w.size : Int) = nn := by omega
    have hws : ¬ 9223372036854775807 < w.size + 1 := by omega
    have cn := box_cell hB.n
    have cs := box_cell hB.s
    have HB := Lib.hid hB
    have HJ := Lib.hid hJ
    have IH := Lib.hid ih
    clear hB hJ hY ih
    refine callsIn_of_wp Tryz.func124 rfl trivial ?_ rfl
    simp only [Tryz.ntmps124, List.size_toArray, List.length_cons, List.length_nil, Nat.reduceAdd, Nat.reduceSub, Array.replicate_succ, Array.replicate_zero, List.push_toArray, List.append_toArray, List.nil_append, List.cons_append]
    gi_wp2_with fail
    refine ⟨trivial, ?_⟩
    have hz45 : (w ++ ByteArray.mk #[45]).size + k = nn := by
      have h1 : (ByteArray.mk #[45]).size = 1 := rfl
      rw [ByteArray.size_append, h1]; omega
    have hz46 : (w ++ ByteArray.mk #[46]).size + k = nn := by
      have h1 : (ByteArray.mk #[46]).size = 1 := rfl
      rw [ByteArray.size_append, h1]; omega
    have h2 : 2 ^ (k + 1) = 2 ^ k + 2 ^ k := by rw [Nat.pow_succ]; omega
    rw [h2] at hN
    obtain ⟨P, hP⟩ : ∃ P, P = 2 ^ k := ⟨_, rfl⟩
    rw [← hP] at hN
    have hn1 : pre.length + 2 ^ k ≤ N := by rw [← hP]; omega
    have c1 := callsIn_deep 9 (IH.out (w ++ ByteArray.mk #[45]) pre W hz45 HB.out HJ.out hn1)
    refine c1.mono ?_
    clear c1
    rintro e W3 (⟨rfl, hJ3, hB3⟩ | ⟨rfl, hJx3⟩)
    · have cs3 := box_cell hB3.s
      have HB3 := Lib.hid hB3
      have HJ3 := Lib.hid hJ3
      clear hB3 hJ3 cs cn
      dsimp only
      gi_wp2_with fail
      refine ⟨trivial, ?_⟩
      have hn2 : (pre ++ exts k (w ++ ByteArray.mk #[45])).length + 2 ^ k ≤ N := by rw [List.length_append, exts_length, ← hP]; omega
      have c2 := callsIn_deep 9 (IH.out (w ++ ByteArray.mk #[46]) (pre ++ exts k (w ++ ByteArray.mk #[45])) W3 hz46 HB3.out HJ3.out hn2)
      refine c2.mono ?_
      clear c2
      rintro e W4 (⟨rfl, hJ4, hB4⟩ | ⟨rfl, hJx4⟩)
      · dsimp only
        gi_wp2
        go_ret
        refine .inl ⟨rfl, ?_, hB4⟩
        rw [exts, ← List.append_assoc]; exact hJ4
      · dsimp only
        gi_wp2
        go_ret
        obtain ⟨p, hp, hx⟩ := hJx4
        refine .inr ⟨rfl, p, ?_, hx⟩
        rw [exts, ← List.append_assoc]; exact hp
    · dsimp only
      gi_wp2
      refine ⟨fun _ h => (by cases h), ?_⟩
      gi_wp2
      go_ret
      obtain ⟨p, hp, hx⟩ := hJx3
      refine .inr ⟨rfl, p, ?_, hx⟩
      rw [exts, ← List.append_assoc]; exact hp.trans (List.prefix_append _ _)
theorem all_calls (n : Nat) (w : World) : Calls Tryz.prog 78 #[.int .i64 n] w fun e w' => e = .returned (.func (.func 123) #[] #[.pointer (some ⟨w.heap.size, 0, none⟩)]) ∧ w' = w.alloc (.cells #[.int .i64 n] 3) := by
  go_enter Tryz.func78, Tryz.ntmps78
  go_wp2
  go_ret
  exact ⟨rfl, rfl⟩
set_option maxRecDepth 100000 in
set_option maxHeartbeats 400000 in
theorem all_stops (bn nn : Nat) (hnn : nn ≤ 100) (w : World) (hb : w.heap[bn]? = some (.cells #[.int .i64 nn] 3 (0, 0))) :
    SeqStopsK Fence.wide 11 Tryz.prog 123 #[.pointer (some ⟨bn, 0, none⟩)] (fun x : ByteArray => #[.string x]) KeepsB (fun xs => xs = exts nn ⟨#[]⟩) (fun p => p <+: exts nn ⟨#[]⟩) (2 ^ nn) w := by
  intro l J Jx W hW hJa _ hY h0
  have hbW := (hW.block _ (blk_lt hb)).trans hb
  have HY := Lib.hid (spellA_in l bn W.heap.size (W.heap.size + 1) nn (2 ^ nn) hnn J Jx (fun pre x W1 hJ hl => yield_deep 9 (hY pre x W1 hJ hl)))
  obtain ⟨W2, hW2⟩ : ∃ W2, W2 = (W.alloc (.cells #[.func (.yield l) #[] #[]] 146)).alloc (.cells #[.func (.func 124) #[] #[.pointer (some ⟨bn, 0, none⟩), .pointer (some ⟨W.heap.size, 0, none⟩), .pointer (some ⟨W.heap.size + 1, 0, none⟩)]] 146) := ⟨_, rfl⟩
  have hBx : Bx l bn W.heap.size (W.heap.size + 1) nn W2 := by
    rw [hW2]
    exact ⟨blk_alloc (blk_alloc hbW _) _, blk_alloc (blk_new W _) _, blk_new1 W _ _⟩
  have hJ2 : J [] W2 := by
    rw [hW2]
    exact hJa _ _ _ none (hJa _ _ _ none h0 (World.grownBy_alloc _ _ _) (fun r e => by cases e)) (World.grownBy_alloc _ _ _) (fun r e => by cases e)
  have HB := Lib.hid hBx
  have HJ := Lib.hid hJ2
  clear hJ2 hBx h0 hY
  refine callsIn_of_wp Tryz.func123 rfl trivial ?_ rfl
  simp only [Tryz.ntmps123, List.size_toArray, List.length_cons, List.length_nil, Nat.reduceAdd, Nat.reduceSub, Array.replicate_succ, Array.replicate_zero, List.push_toArray, List.append_toArray, List.nil_append, List.cons_append]
  have hnil : ((W.alloc (.cells #[.func (.yield l) #[] #[]] 146)).alloc (.cells #[.nilFunc] 146)).heap[W.heap.size + 1]? = some (.cells #[.nilFunc] 146 (0, 0)) := blk_new1 W _ _
  have cnil := box_cell hnil
  have fnil := box_free hnil
  clear hnil
  gi_wp2_with fail
  rw [← hW2]
  refine ⟨trivial, ?_⟩
  have c1 := HY.out nn ⟨#[]⟩ [] W2 (by show 0 + nn = nn; omega) HB.out HJ.out (by simp)
  refine c1.mono ?_
  clear c1
  rintro e W3 (⟨rfl, hJ3, hB3⟩ | ⟨rfl, p, hp, hJx3⟩)
  · dsimp only
    gi_wp2
    go_end0
    exact ⟨⟨_, rfl⟩, .inl ⟨_, rfl, hJ3⟩⟩
  · dsimp only
    gi_wp2
    go_end0
    exact ⟨⟨_, rfl⟩, .inr ⟨p, hp, hJx3⟩⟩
end Go.Proofs.YtfnibmcenjiodaaGreatDoor.M
namespace Go.Proofs.YtfnibmcenjiodaaGreatDoor.M
def digsF : Nat → Nat → List UInt8
  | 0, _ => []
  | f + 1, n => if n = 0 then [] else digsF f (n / 2) ++ [if n % 2 = 1 then 45 else 46]
abbrev digs (n : Nat) : List UInt8 := digsF (n + 1) n
theorem digsF_eq : ∀ f g n, n < f → n < g → digsF f n = digsF g n
  | 0, _, _, h, _ => by omega
  | _, 0, _, _, h => by omega
  | f + 1, g + 1, n, hf, hg => by
    unfold digsF
    split
    · rfl
    · rw [digsF_eq f g (n / 2) (by omega) (by omega)]
theorem digs_pos {n : Nat} (h : n ≠ 0) : digs n = digs (n / 2) ++ [if n % 2 = 1 then 45 else 46] := by
  show (if n = 0 then [] else digsF n (n / 2) ++ [if n % 2 = 1 then 45 else 46]) = _
  rw [if_neg h, digsF_eq n (n / 2 + 1) (n / 2) (by omega) (by omega)]
def valF (k : Nat) (d : List UInt8) : Nat := d.foldl (fun k c => if c = 45 then 2 * k + 1 else 2 * k) k
theorem digs_head : ∀ n, n ≠ 0 → ∃ d, digs n = 45 :: d := by
  intro n
  induction n using Nat.strongRecOn with
  | _ n ih =>
    intro h
    rw [digs_pos h]
    by_cases h2 : n / 2 = 0
    · rw [h2]
      have : n = 1 := by omega
      subst this
      exact ⟨[], rfl⟩
    · obtain ⟨d, hd⟩ := ih (n / 2) (by omega) h2
      exact ⟨d ++ [if n % 2 = 1 then 45 else 46], by rw [hd]; rfl⟩
theorem digs_length : ∀ n b, n < 2 ^ b → (digs n).length ≤ b := by
  intro n
  induction n using Nat.strongRecOn with
  | _ n ih =>
    intro b hb
    by_cases h : n = 0
    · subst h; exact Nat.zero_le _
    · rw [digs_pos h, List.length_append]
      cases b with
      | zero => simp at hb; omega
      | succ b =>
        have := ih (n / 2) (by omega) b (by rw [Nat.pow_succ] at hb; omega)
        simp only [List.length_cons, List.length_nil]; omega
def numB (n : Nat) : List UInt8 := List.replicate ((digs (n + 1)).length - 1) 46 ++ digs (n + 1)
def fileB (l : List Int) : List UInt8 := l.flatMap (fun n => numB n.toNat)
def takeB (s : List UInt8) : Option (Nat × List UInt8) :=
  let n := (s.takeWhile (fun c => c != 45)).length
  if 2 * n < s.length then
    let k := valF 0 ((s.drop n).take (n + 1))
    if k ≤ 1048576 then some (k - 1, s.drop (2 * n + 1)) else none
  else none
def openF : Nat → List UInt8 → Option (List Int)
  | 0, _ => none
  | f + 1, s => if s = [] then some [] else match takeB s with
    | none => none
    | some (k, r) => (openF f r).map (fun l => (k : Int) :: l)
theorem valF_app (k : Nat) (d e : List UInt8) : valF k (d ++ e) = valF (valF k d) e := by unfold valF; rw [List.foldl_append]
theorem valF_pos : ∀ (d : List UInt8) (k : Nat), k ≠ 0 → valF k d ≠ 0
  | [], k, h => h
  | c :: d, k, h => by
    show valF (if c = 45 then 2 * k + 1 else 2 * k) d ≠ 0
    exact valF_pos d _ (by split <;> omega)
theorem digs_val (d : List UInt8) : ∀ e : List UInt8, e.reverse = d → (∀ c ∈ e, c = 45 ∨ c = 46) → digs (valF 0 (45 :: e)) = 45 :: e := by
  induction d with
  | nil =>
    intro e he _
    obtain rfl : e = [] := by simpa using he
    rfl
  | cons c d ih =>
    intro e he hs
    have e1 : e = d.reverse ++ [c] := by rw [← List.reverse_reverse e, he]; simp
    subst e1
    have ih' := ih d.reverse (by simp) (fun x hx => hs x (by simp [List.mem_reverse] at hx ⊢; exact .inl hx))
    have hp : valF 0 (45 :: d.reverse) ≠ 0 := valF_pos d.reverse 1 (by decide)
    have e2 : valF 0 (45 :: (d.reverse ++ [c])) = if c = 45 then 2 * valF 0 (45 :: d.reverse) + 1 else 2 * valF 0 (45 :: d.reverse) := by
      rw [← List.cons_append, valF_app]; rfl
    generalize hv : valF 0 (45 :: d.reverse) = v at *
    rw [e2]
    rcases hs c (by simp) with rfl | rfl
    · rw [if_pos rfl, digs_pos (by omega), show (2 * v + 1) / 2 = v from by omega, ih', if_pos (by omega)]; rfl
    · rw [if_neg (by decide), digs_pos (by omega), show (2 * v) / 2 = v from by omega, ih', if_neg (by omega)]; rfl
theorem takeWhile_split (s : List UInt8) (hs : ∀ c ∈ s, c = 45 ∨ c = 46) : s = List.replicate (s.takeWhile (fun c => c != 45)).length 46 ++ s.drop (s.takeWhile (fun c => c != 45)).length ∧ (s.drop (s.takeWhile (fun c => c != 45)).length = [] ∨ ∃ r, s.drop (s.takeWhile (fun c => c != 45)).length = 45 :: r) := by
  induction s with
  | nil => exact ⟨rfl, .inl rfl⟩
  | cons c s ih =>
    rcases hs c (by simp) with rfl | rfl
    · rw [List.takeWhile_cons, if_neg (by decide)]
      exact ⟨rfl, .inr ⟨s, rfl⟩⟩
    · rw [List.takeWhile_cons, if_pos (by decide)]
      obtain ⟨h1, h2⟩ := ih (fun x hx => hs x (by simp [hx]))
      simp only [List.length_cons, List.replicate_succ, List.drop_succ_cons, List.cons_append, List.cons.injEq, true_and]
      exact ⟨h1, h2⟩
theorem takeB_inv {s r : List UInt8} {n : Nat} (hs : ∀ c ∈ s, c = 45 ∨ c = 46) (h : takeB s = some (n, r)) : s = numB n ++ r ∧ n ≤ 1048575 := by
  obtain ⟨h1, h2⟩ := takeWhile_split s hs
  unfold takeB at h
  generalize hm : (s.takeWhile (fun c => c != 45)).length = m at *
  simp only at h
  split at h
  · rename_i hlt
    split at h
    · rename_i hk
      obtain ⟨rfl, rfl⟩ : valF 0 ((s.drop m).take (m + 1)) - 1 = n ∧ s.drop (2 * m + 1) = r := by simpa using h
      have hl := congrArg List.length h1
      rw [List.length_append, List.length_replicate, List.length_drop] at hl
      rcases h2 with h2 | ⟨t, h2⟩
      · rw [h2] at h1; rw [h1] at hlt; simp at hlt; omega
      · rw [h2]
        have ht : t.length = s.length - m - 1 := by have := congrArg List.length h2; rw [List.length_drop] at this; simp at this; omega
        have hd : List.take (m + 1) (45 :: t) = 45 :: t.take m := by simp
        have hts : ∀ c ∈ t.take m, c = 45 ∨ c = 46 := fun c hc => hs c (by rw [h1, h2]; simp [List.mem_of_mem_take hc])
        have hdv := digs_val (t.take m).reverse (t.take m) (by simp) hts
        rw [h2, hd] at hk
        rw [hd]
        have hp : valF 0 (45 :: t.take m) ≠ 0 := valF_pos (t.take m) 1 (by decide)
        generalize hv : valF 0 (45 :: t.take m) = v at *
        refine ⟨?_, by omega⟩
        have hvv : v - 1 + 1 = v := by omega
        unfold numB
        rw [hvv, hdv]
        have hlen : (45 :: t.take m : List UInt8).length - 1 = m := by simp; omega
        rw [hlen]
        have e3 : s.drop (2 * m + 1) = t.drop m := by
          rw [show 2 * m + 1 = m + (m + 1) from by omega, ← List.drop_drop, h2]; rfl
        rw [e3]
        conv => lhs; rw [h1, h2]
        simp
    · cases h
  · cases h
theorem fileB_append (l m : List Int) : fileB (l ++ m) = fileB l ++ fileB m := by unfold fileB; rw [List.flatMap_append]
end Go.Proofs.YtfnibmcenjiodaaGreatDoor.M
namespace Go.Proofs.YtfnibmcenjiodaaGreatDoor.M
open Go.Shelf Go.RowKit Go.Maps Go.Proofs.YtfnibmcenjiodaaGreatDoorW.PrintWords Go.Proofs.YtfnibmcenjiodaaGreatDoorW.PrintLast Go.Proofs.YtfnibmcenjiodaaGreatDoorW.PrintMore
attribute [local go_sem] Oper.semAt_some
abbrev tornV : Value := .iface 218 (.agg #[.int .i64 114])
abbrev torn1 : List PanicEntry := [{ v := tornV, recovered := false }]
theorem must_calls (b : Bool) (w : World) : Calls Tryz.prog 91 #[.bool b] w fun e w' => e = (if b = true then .returned (.tuple #[]) else .panicked torn1) ∧ w' = w := by
  cases b
  · go_enter Tryz.func91, Tryz.ntmps91
    go_wp2
    exact ⟨rfl, rfl, rfl⟩
  · go_enter Tryz.func91, Tryz.ntmps91
    go_wp2
    go_end0
    exact ⟨rfl, rfl⟩
set_option maxRecDepth 100000 in
set_option maxHeartbeats 1000000 in
theorem caught_panicking (b : Nat) (x : Int) (older : List PanicEntry) (w : World) (hb : w.heap[b]? = some (.cells #[.int .i64 x] 28 (0, 0))) :
    CallsD Tryz.prog 86 #[.pointer (some ⟨b, 0, none⟩)] (.panicking ({ v := tornV, recovered := false } :: older)) w fun e u' w' =>
      e = .returned (.tuple #[]) ∧ u' = .panicking ({ v := tornV, recovered := true } :: older) ∧ w'.heap[b]? = some (.cells #[.int .i64 114] 28 (0, 0)) ∧ (∀ B, B ≤ b → B ≤ w.heap.size → Below B w w') := by
  have hlt := blk_lt hb
  have hc := box_cell (blk_alloc hb (.cells #[.int .i64 114] 218))
  have hz := box_free (blk_alloc hb (.cells #[.int .i64 114] 218))
  have H := Lib.hid hb
  clear hb
  refine callsD_of_wpS Tryz.func86 rfl fun c₀ cs hu => ?_
  apply wpS_seq
  apply wpS_region
  simp [wpOpsS, go_sem, recoverD, hu, Tryz.ntmps86, Exit.thenS]
  refine wpS_of_wp ?_
  simp only [Array.replicate_succ, Array.replicate_zero, List.push_toArray, List.append_toArray, List.nil_append, List.cons_append, List.setIfInBounds_toArray, List.set_cons_succ, List.set_cons_zero]
  have hta : ∀ w : World, (Instr.typeAssert tornV 20 218 true).run Tryz.prog w = .ok (.tuple #[.agg #[.int .i64 114], .bool true]) w := fun w => by kernel_rfl
  go_wp2
  have hs : (w.setCell ⟨b, 0, none⟩ (.int .i64 114)).heap[b]? = some (.cells #[.int .i64 114] 28 (0, 0)) := box_put H.out _
  refine ⟨rfl, _, rfl, .tuple #[], ?_, rfl, rfl, blk_alloc hs _, fun B h1 h2 => ((Below.refl B w).setCell h1 _).alloc (by simpa using h2) _⟩
  simp [results, Tryz.results86]
theorem caught_idle (p : Addr) (w : World) :
    CallsD Tryz.prog 86 #[.pointer (some p)] .returning w fun e u' w' => e = .returned (.tuple #[]) ∧ u' = .returning ∧ w' = w := by
  refine callsD_of_wpS Tryz.func86 rfl fun c₀ cs hu => ?_
  apply wpS_seq
  apply wpS_region
  simp [wpOpsS, go_sem, recoverD, hu, Tryz.ntmps86, Exit.thenS]
  refine wpS_of_wp ?_
  simp only [Array.replicate_succ, Array.replicate_zero, List.push_toArray, List.append_toArray, List.nil_append, List.cons_append, List.setIfInBounds_toArray, List.set_cons_succ, List.set_cons_zero]
  go_wp2
  cases c₀
  simp_all [bodyPostS, results, Tryz.results86]
def ent (k : Int) (c : UInt8) (t : Nat) : MapEntry := { key := .int .i64 k, val := .string ⟨#[c]⟩, born := t }
theorem ins_first (k : Int) (c : UInt8) {W : World} {b : Nat} (hm : W.heap[b]? = some (.map #[] 0)) : (Instr.mapUpdate 276 (.map (some b)) (.int .i64 k) (.string ⟨#[c]⟩)).run Tryz.prog W = .ok () (W.putObj b (.map #[ent k c 0] 1)) := by
  unfold Instr.mapUpdate
  have hk : MapKept.IsKey (.int .i64) (.int .i64 k) := rfl
  simp only [Sem.run_bind, run_underlying Tryz.underlying276, Result.andThen, getObj_map hm, MapKept.run_checkKey Tryz.underlying3 hk, MapKept.run_findKey (l := []) Tryz.underlying3 (show Instr.findNow (.int .i64) (.int .i64 k) [] 0 = some none from rfl), setObj_map _ hm]
  rfl
theorem ins_next (k k' : Int) (c c' : UInt8) (hne : k' ≠ k) {W : World} {b : Nat} (hm : W.heap[b]? = some (.map #[ent k c 0] 1)) : (Instr.mapUpdate 276 (.map (some b)) (.int .i64 k') (.string ⟨#[c']⟩)).run Tryz.prog W = .ok () (W.putObj b (.map #[ent k c 0, ent k' c' 1] 2)) := by
  unfold Instr.mapUpdate
  have hk : MapKept.IsKey (.int .i64) (.int .i64 k') := rfl
  have hf : Instr.findNow (.int .i64) (.int .i64 k') [ent k c 0] 0 = some none := by
    rcases MapKept.findNow_spec hk [ent k c 0] 0 (fun x hx => by rw [List.mem_singleton] at hx; subst hx; exact rfl) with ⟨h, _⟩ | ⟨j, e, h, hj, he⟩
    · exact h
    · exfalso
      match j with
      | 0 => cases hj; injection he with _ h2; exact hne h2.symm
      | j + 1 => simp at hj
  simp only [Sem.run_bind, run_underlying Tryz.underlying276, Result.andThen, getObj_map hm, MapKept.run_checkKey Tryz.underlying3 hk, MapKept.run_findKey Tryz.underlying3 hf, setObj_map _ hm]
  rfl
theorem look_ent (n : Int) (es : Array MapEntry) (ck : Nat) (c : UInt8) (hf : ∃ j, Instr.findNow (.int .i64) (.int .i64 n) es.toList 0 = some (some (j, .string ⟨#[c]⟩))) {W : World} {b : Nat} (hm : W.heap[b]? = some (.map es ck)) :
    (Instr.lookup 276 (.map (some b)) (.int .i64 n) false).run Tryz.prog W = .ok (.string ⟨#[c]⟩) W := by
  obtain ⟨j, hf⟩ := hf
  have hk : MapKept.IsKey (.int .i64) (.int .i64 n) := rfl
  unfold Instr.lookup
  simp [run_underlying Tryz.underlying276, Result.andThen, getObj_map hm, MapKept.run_checkKey Tryz.underlying3 hk, MapKept.run_findKey Tryz.underlying3 hf]
theorem putObj_twice (W : World) (b : Nat) (o o' : Obj) : (W.putObj b o).putObj b o' = W.putObj b o' := by simp [World.putObj]
theorem push_set' (a : Array Obj) (o o' : Obj) : (a.push o).setIfInBounds a.size o' = a.push o' := by
  apply Array.ext_getElem?
  intro i
  rw [Array.getElem?_setIfInBounds, Array.getElem?_push, Array.getElem?_push]
  by_cases h : a.size = i
  · subst h; simp
  · rw [if_neg h, if_neg (Ne.symm h), if_neg (Ne.symm h)]
theorem putObj_alloc' (W : World) (o o' : Obj) : (W.alloc o).putObj W.heap.size o' = W.alloc o' := by
  show ({ W with heap := (W.heap.push o).setIfInBounds W.heap.size o' } : World) = { W with heap := W.heap.push o' }
  rw [push_set']
theorem below_put' {B l : Nat} {w W : World} {o : Obj} (h : Below B w W) (hl : B ≤ l) : Below B w (W.putObj l o) := ⟨h.os, h.tape, h.output, by have := h.size; simp [World.putObj]; omega, fun k hk => (World.putObj_heap_other (by omega)).trans (h.block k hk)⟩
theorem heap_put {W : World} {b : Nat} {o o' : Obj} (h : W.heap[b]? = some o') : (W.putObj b o).heap[b]? = some o := by
  have hb : b < W.heap.size := blk_lt h
  simp [World.putObj, hb]
set_option maxRecDepth 100000 in
set_option maxHeartbeats 40000000 in
theorem digits_calls (n : Nat) : ∀ w : World, n ≤ 1048576 → Calls Tryz.prog 130 #[.int .i64 n] w fun e w' => e = .returned (.string ⟨(digs n).toArray⟩) ∧ Below w.heap.size w w' := by
  induction n using Nat.strongRecOn with
  | _ n ih =>
    intro w hn
    by_cases h : n = 0
    · subst h
      go_enter Tryz.func130, Tryz.ntmps130
      go_wp2
      go_ret
      exact ⟨rfl, Below.refl _ _⟩
    · have hmm := @run_makeMap Tryz.prog
      have h0 : ¬ (n : Int) = 0 := by omega
      obtain ⟨q, hq⟩ : ∃ q : Nat, q = n / 2 := ⟨_, rfl⟩
      obtain ⟨dq, hdq⟩ : ∃ dq : ByteArray, dq = ⟨(digs q).toArray⟩ := ⟨_, rfl⟩
      have hds : dq.size ≤ 40 := by
        have := digs_length q 30 (by omega)
        rw [hdq]
        show (digs q).toArray.size ≤ 40
        rw [List.size_toArray]; omega
      have hs1 : ¬ 9223372036854775807 < dq.size + 1 := by omega
      have hs2 : dq.size + 1 ≤ 9223372036854775807 := by omega
      have IH : Hid (∀ w : World, Calls Tryz.prog 130 #[.int .i64 q] w fun e w' => e = .returned (.string dq) ∧ Below w.heap.size w w') := Lib.hid (fun w => by rw [hdq]; exact hq ▸ ih (n / 2) (by omega) w (by omega))
      obtain ⟨c, hc⟩ : ∃ c : UInt8, c = if n % 2 = 1 then 45 else 46 := ⟨_, rfl⟩
      have hD : Hid ((⟨(digs n).toArray⟩ : ByteArray) = dq ++ ⟨#[c]⟩) := Lib.hid (by rw [digs_pos h, hdq, hq, ← hc]; apply ByteArray.ext; simp)
      have e1 : (n : Int).tdiv 2 = (q : Int) := by rw [hq]; exact (Int.ofNat_tdiv n 2).symm
      have e2 : IntKind.i64.wrap (q : Int) = (q : Int) := (by rw [IntKind.wrap_i64]; omega)
      obtain ⟨m, hm⟩ : ∃ m : Nat, m = n % 2 := ⟨_, rfl⟩
      have e3 : (n : Int).tmod 2 = (m : Int) := by rw [hm]; exact (Int.ofNat_tmod n 2).symm
      have hA1 : ∀ X : World, (Instr.mapUpdate 276 (.map (some X.heap.size)) (.int .i64 1) (.string ⟨#[45]⟩)).run Tryz.prog (X.alloc (.map #[] 0)) = .ok () (X.alloc (.map #[ent 1 45 0] 1)) := fun X => by rw [ins_first 1 45 (blk_new X _), putObj_alloc']
      have hA0 : ∀ X : World, (Instr.mapUpdate 276 (.map (some X.heap.size)) (.int .i64 0) (.string ⟨#[46]⟩)).run Tryz.prog (X.alloc (.map #[] 0)) = .ok () (X.alloc (.map #[ent 0 46 0] 1)) := fun X => by rw [ins_first 0 46 (blk_new X _), putObj_alloc']
      have hA10 : ∀ X : World, (Instr.mapUpdate 276 (.map (some X.heap.size)) (.int .i64 0) (.string ⟨#[46]⟩)).run Tryz.prog (X.alloc (.map #[ent 1 45 0] 1)) = .ok () (X.alloc (.map #[ent 1 45 0, ent 0 46 1] 2)) := fun X => by rw [ins_next 1 0 45 46 (by decide) (blk_new X _), putObj_alloc']
      have hA01 : ∀ X : World, (Instr.mapUpdate 276 (.map (some X.heap.size)) (.int .i64 1) (.string ⟨#[45]⟩)).run Tryz.prog (X.alloc (.map #[ent 0 46 0] 1)) = .ok () (X.alloc (.map #[ent 0 46 0, ent 1 45 1] 2)) := fun X => by rw [ins_next 0 1 46 45 (by decide) (blk_new X _), putObj_alloc']
      have hfc : (n % 2 = 1 ∧ c = 45) ∨ (n % 2 = 0 ∧ c = 46) := by
        by_cases h1 : n % 2 = 1
        · exact .inl ⟨h1, by rw [hc, if_pos h1]⟩
        · exact .inr ⟨by omega, by rw [hc, if_neg h1]⟩
      have f10 : ∃ j, Instr.findNow (.int .i64) (.int .i64 (m : Int)) (#[ent 1 45 0, ent 0 46 1] : Array MapEntry).toList 0 = some (some (j, .string ⟨#[c]⟩)) := by
        rcases hfc with ⟨h1, rfl⟩ | ⟨h1, rfl⟩ <;> rw [hm, h1]
        · exact ⟨0, rfl⟩
        · exact ⟨1, rfl⟩
      have f01 : ∃ j, Instr.findNow (.int .i64) (.int .i64 (m : Int)) (#[ent 0 46 0, ent 1 45 1] : Array MapEntry).toList 0 = some (some (j, .string ⟨#[c]⟩)) := by
        rcases hfc with ⟨h1, rfl⟩ | ⟨h1, rfl⟩ <;> rw [hm, h1]
        · exact ⟨1, rfl⟩
        · exact ⟨0, rfl⟩
      have F10 := Lib.hid f10
      have F01 := Lib.hid f01
      clear f10 f01
      have hL10 : ∀ X : World, (Instr.lookup 276 (.map (some X.heap.size)) (.int .i64 (m : Int)) false).run Tryz.prog (X.alloc (.map #[ent 1 45 0, ent 0 46 1] 2)) = .ok (.string ⟨#[c]⟩) (X.alloc (.map #[ent 1 45 0, ent 0 46 1] 2)) := fun X => look_ent _ _ _ c F10.out (blk_new X _)
      have hL01 : ∀ X : World, (Instr.lookup 276 (.map (some X.heap.size)) (.int .i64 (m : Int)) false).run Tryz.prog (X.alloc (.map #[ent 0 46 0, ent 1 45 1] 2)) = .ok (.string ⟨#[c]⟩) (X.alloc (.map #[ent 0 46 0, ent 1 45 1] 2)) := fun X => look_ent _ _ _ c F01.out (blk_new X _)
      have hA1d : ∀ X : World, (Instr.mapUpdate 276 (.map (some X.heap.size)) (.int .i64 1) (.string ⟨#[45]⟩)).run Tryz.prog (X.alloc (.map #[] 0)).drew = .ok () (X.alloc (.map #[ent 1 45 0] 1)).drew := fun X => hA1 X.drew
      have hA0d : ∀ X : World, (Instr.mapUpdate 276 (.map (some X.heap.size)) (.int .i64 0) (.string ⟨#[46]⟩)).run Tryz.prog (X.alloc (.map #[] 0)).drew = .ok () (X.alloc (.map #[ent 0 46 0] 1)).drew := fun X => hA0 X.drew
      have hA10d : ∀ X : World, (Instr.mapUpdate 276 (.map (some X.heap.size)) (.int .i64 0) (.string ⟨#[46]⟩)).run Tryz.prog (X.alloc (.map #[ent 1 45 0] 1)).drew = .ok () (X.alloc (.map #[ent 1 45 0, ent 0 46 1] 2)).drew := fun X => hA10 X.drew
      have hA01d : ∀ X : World, (Instr.mapUpdate 276 (.map (some X.heap.size)) (.int .i64 1) (.string ⟨#[45]⟩)).run Tryz.prog (X.alloc (.map #[ent 0 46 0] 1)).drew = .ok () (X.alloc (.map #[ent 0 46 0, ent 1 45 1] 2)).drew := fun X => hA01 X.drew
      have hL10d : ∀ X : World, (Instr.lookup 276 (.map (some X.heap.size)) (.int .i64 (m : Int)) false).run Tryz.prog (X.alloc (.map #[ent 1 45 0, ent 0 46 1] 2)).drew = .ok (.string ⟨#[c]⟩) (X.alloc (.map #[ent 1 45 0, ent 0 46 1] 2)).drew := fun X => hL10 X.drew
      have hL01d : ∀ X : World, (Instr.lookup 276 (.map (some X.heap.size)) (.int .i64 (m : Int)) false).run Tryz.prog (X.alloc (.map #[ent 0 46 0, ent 1 45 1] 2)).drew = .ok (.string ⟨#[c]⟩) (X.alloc (.map #[ent 0 46 0, ent 1 45 1] 2)).drew := fun X => hL01 X.drew
      have hB1 : Hid (∀ (Y : World) (b : Nat), Y.heap[b]? = some (.map #[] 0) → (Instr.mapUpdate 276 (.map (some b)) (.int .i64 1) (.string ⟨#[45]⟩)).run Tryz.prog Y = .ok () (Y.putObj b (.map #[ent 1 45 0] 1))) := Lib.hid (fun Y b hY => ins_first 1 45 hY)
      have hB0 : Hid (∀ (Y : World) (b : Nat), Y.heap[b]? = some (.map #[] 0) → (Instr.mapUpdate 276 (.map (some b)) (.int .i64 0) (.string ⟨#[46]⟩)).run Tryz.prog Y = .ok () (Y.putObj b (.map #[ent 0 46 0] 1))) := Lib.hid (fun Y b hY => ins_first 0 46 hY)
      have hB10 : Hid (∀ (Y : World) (b : Nat), Y.heap[b]? = some (.map #[] 0) → (Instr.mapUpdate 276 (.map (some b)) (.int .i64 0) (.string ⟨#[46]⟩)).run Tryz.prog (Y.putObj b (.map #[ent 1 45 0] 1)) = .ok () (Y.putObj b (.map #[ent 1 45 0, ent 0 46 1] 2))) := Lib.hid (fun Y b hY => by rw [ins_next 1 0 45 46 (by decide) (heap_put hY), putObj_twice])
      have hB01 : Hid (∀ (Y : World) (b : Nat), Y.heap[b]? = some (.map #[] 0) → (Instr.mapUpdate 276 (.map (some b)) (.int .i64 1) (.string ⟨#[45]⟩)).run Tryz.prog (Y.putObj b (.map #[ent 0 46 0] 1)) = .ok () (Y.putObj b (.map #[ent 0 46 0, ent 1 45 1] 2))) := Lib.hid (fun Y b hY => by rw [ins_next 0 1 46 45 (by decide) (heap_put hY), putObj_twice])
      have hC10 : Hid (∀ (Y : World) (b : Nat), Y.heap[b]? = some (.map #[ent 1 45 0] 1) → (Instr.mapUpdate 276 (.map (some b)) (.int .i64 0) (.string ⟨#[46]⟩)).run Tryz.prog Y = .ok () (Y.putObj b (.map #[ent 1 45 0, ent 0 46 1] 2))) := Lib.hid (fun Y b hY => ins_next 1 0 45 46 (by decide) hY)
      have hC01 : Hid (∀ (Y : World) (b : Nat), Y.heap[b]? = some (.map #[ent 0 46 0] 1) → (Instr.mapUpdate 276 (.map (some b)) (.int .i64 1) (.string ⟨#[45]⟩)).run Tryz.prog Y = .ok () (Y.putObj b (.map #[ent 0 46 0, ent 1 45 1] 2))) := Lib.hid (fun Y b hY => ins_next 0 1 46 45 (by decide) hY)
      have hM10 : Hid (∀ (Y : World) (b : Nat) (es : Array MapEntry) (ck : Nat), Y.heap[b]? = some (.map es ck) → (Instr.lookup 276 (.map (some b)) (.int .i64 (m : Int)) false).run Tryz.prog (Y.putObj b (.map #[ent 1 45 0, ent 0 46 1] 2)) = .ok (.string ⟨#[c]⟩) (Y.putObj b (.map #[ent 1 45 0, ent 0 46 1] 2))) := Lib.hid (fun Y b es ck hY => look_ent _ _ _ c F10.out (heap_put hY))
      have hM01 : Hid (∀ (Y : World) (b : Nat) (es : Array MapEntry) (ck : Nat), Y.heap[b]? = some (.map es ck) → (Instr.lookup 276 (.map (some b)) (.int .i64 (m : Int)) false).run Tryz.prog (Y.putObj b (.map #[ent 0 46 0, ent 1 45 1] 2)) = .ok (.string ⟨#[c]⟩) (Y.putObj b (.map #[ent 0 46 0, ent 1 45 1] 2))) := Lib.hid (fun Y b es ck hY => look_ent _ _ _ c F01.out (heap_put hY))
      have hN10 : Hid (∀ (Y : World) (b : Nat), Y.heap[b]? = some (.map #[ent 1 45 0, ent 0 46 1] 2) → (Instr.lookup 276 (.map (some b)) (.int .i64 (m : Int)) false).run Tryz.prog Y = .ok (.string ⟨#[c]⟩) Y) := Lib.hid (fun Y b hY => look_ent _ _ _ c F10.out hY)
      have hN01 : Hid (∀ (Y : World) (b : Nat), Y.heap[b]? = some (.map #[ent 0 46 0, ent 1 45 1] 2) → (Instr.lookup 276 (.map (some b)) (.int .i64 (m : Int)) false).run Tryz.prog Y = .ok (.string ⟨#[c]⟩) Y) := Lib.hid (fun Y b hY => look_ent _ _ _ c F01.out hY)
      clear ih hq hfc hc hdq hds hm
      go_enter Tryz.func130, Tryz.ntmps130
      go_wp2_with fail
      go_region_held3 (fun _ => True) (trivial) (first | (go_at_call 130; refine (IH.out _).mono ?_; rintro e w1 ⟨rfl, hb1⟩; first | (have hY0 := hb1.block w.heap.size (Nat.lt_of_lt_of_eq (Nat.lt_succ_self w.heap.size) (World.size_alloc _ _).symm); first | (have hY : w1.heap[w.heap.size]? = some (.map #[] 0) := hY0.trans (blk_new _ _); have j0 := hB1.out w1 _ hY; have j1 := hB0.out w1 _ hY; have j2 := hB10.out w1 _ hY; have j3 := hB01.out w1 _ hY; have j4 := hM10.out w1 _ _ _ hY; have j5 := hM01.out w1 _ _ _ hY; clear hY0 hY) | (have hY : w1.heap[w.heap.size]? = some (.map #[ent 1 45 0] 1) := hY0.trans (blk_new _ _); have j0 := hC10.out w1 _ hY; have j1 := hM10.out w1 _ _ _ hY; clear hY0 hY) | (have hY : w1.heap[w.heap.size]? = some (.map #[ent 0 46 0] 1) := hY0.trans (blk_new _ _); have j0 := hC01.out w1 _ hY; have j1 := hM01.out w1 _ _ _ hY; clear hY0 hY) | (have hY : w1.heap[w.heap.size]? = some (.map #[ent 1 45 0, ent 0 46 1] 2) := hY0.trans (blk_new _ _); have j0 := hN10.out w1 _ hY; clear hY0 hY) | (have hY : w1.heap[w.heap.size]? = some (.map #[ent 0 46 0, ent 1 45 1] 2) := hY0.trans (blk_new _ _); have j0 := hN01.out w1 _ hY; clear hY0 hY)) | skip) | fail)
      all_goals
        have hbw : Below w.heap.size w w1 := by
          first
            | exact ⟨hb1.os, hb1.tape, hb1.output, hb1.size, hb1.block⟩
            | exact ((below1 w _).drew).trans (hb1.mono (by simp))
        go_wp2
        go_ret
        refine ⟨by rw [hD.out]; rfl, ?_⟩
        first
          | exact below_alloc hbw _
          | exact below_put' hbw (Nat.le_refl _)
          | exact hbw
end Go.Proofs.YtfnibmcenjiodaaGreatDoor.M
namespace Go.Proofs.YtfnibmcenjiodaaGreatDoor.M
open Go.Shelf Go.RowKit Go.Maps Go.Proofs.YtfnibmcenjiodaaGreatDoorW.PrintWords Go.Proofs.YtfnibmcenjiodaaGreatDoorW.PrintLast Go.Proofs.YtfnibmcenjiodaaGreatDoorW.PrintMore
attribute [local go_sem] Oper.semAt_some
abbrev zeros7 : List Int := [0, 0, 0, 0, 0, 0, 0]
def vs (s : List Int) : Array Value := (s.map (Value.int .i64)).toArray
def settleF (l : List Int) : Nat → List Int × Int → List Int → Nat → Int → Int → List Int × Int
  | 0, bl, s, _, cost, _ => if bl.1 ≠ zeros7 ∧ bl.2 ≤ cost then bl else (s, cost)
  | f + 1, bl, s, i, cost, left => if bl.1 ≠ zeros7 ∧ bl.2 ≤ cost then bl else
      (List.range 6).foldl (fun bl (n : Nat) => if ((32 / 2 ^ n : Nat) : Int) ≤ left then settleF l f bl (s.set i ((n : Int) + 1)) (i + 1) (cost + rd l i * ((n : Int) + 1)) (left - ((32 / 2 ^ n : Nat) : Int)) else bl) bl
structure SB (l : List Int) (A : Option Addr) (c : Nat) (w0 : World) (b4 b5 b6 b7 : Nat) (bl : List Int × Int) (W : World) : Prop where
  best : W.heap[b4]? = some (.cells (vs bl.1) 138 (0, 0))
  least : W.heap[b5]? = some (.cells #[.int .i64 bl.2] 3 (0, 0))
  often : W.heap[b6]? = some (.cells #[.slice A l.length c] 25 (0, 0))
  self : W.heap[b7]? = some (.cells #[.func (.func 76) #[] #[.pointer (some ⟨b4, 0, none⟩), .pointer (some ⟨b5, 0, none⟩), .pointer (some ⟨b6, 0, none⟩), .pointer (some ⟨b7, 0, none⟩)]] 139 (0, 0))
  below : Below w0.heap.size w0 W
  lo4 : w0.heap.size ≤ b4
  lo5 : w0.heap.size ≤ b5
  good : bl.1.length = 7 ∧ (bl.1 = zeros7 ∨ ∃ k t, bl.1 = ((k : Nat) : Int) :: t ∧ 1 ≤ k ∧ k ≤ 6)
structure Keep2 (b4 b5 : Nat) (w w' : World) : Prop where
  os : w'.os = w.os
  tape : w'.tape = w.tape
  output : w'.output = w.output
  size : w.heap.size ≤ w'.heap.size
  block : ∀ k, k < w.heap.size → k ≠ b4 → k ≠ b5 → w'.heap[k]? = w.heap[k]?
theorem Keep2.trans {b4 b5 : Nat} {w w1 w2 : World} (h : Keep2 b4 b5 w w1) (k : Keep2 b4 b5 w1 w2) : Keep2 b4 b5 w w2 :=
  ⟨k.os.trans h.os, k.tape.trans h.tape, k.output.trans h.output, Nat.le_trans h.size k.size, fun i hi h4 h5 => (k.block i (Nat.lt_of_lt_of_le hi h.size) h4 h5).trans (h.block i hi h4 h5)⟩
theorem Keep2.of_below {b4 b5 : Nat} {w w1 : World} (h : Below w.heap.size w w1) : Keep2 b4 b5 w w1 := ⟨h.os, h.tape, h.output, h.size, fun i hi _ _ => h.block i hi⟩
theorem SB.carry {l : List Int} {A : Option Addr} {c : Nat} {w0 : World} {b4 b5 b6 b7 : Nat} {bl : List Int × Int} {W W' : World} (h : SB l A c w0 b4 b5 b6 b7 bl W) (hb : Below W.heap.size W W') : SB l A c w0 b4 b5 b6 b7 bl W' :=
  ⟨(hb.block _ (blk_lt h.best)).trans h.best, (hb.block _ (blk_lt h.least)).trans h.least, (hb.block _ (blk_lt h.often)).trans h.often, (hb.block _ (blk_lt h.self)).trans h.self, h.below.trans (hb.mono h.below.size), h.lo4, h.lo5, h.good⟩
theorem cells_ne {W : World} {a b : Nat} {x y : Array Value} {t u : TypeId} {f g : Nat × Nat} (ha : W.heap[a]? = some (.cells x t f)) (hb : W.heap[b]? = some (.cells y u g)) (h : t ≠ u) : a ≠ b := by
  rintro rfl
  rw [ha] at hb
  injection hb with hb
  injection hb with _ h2 _
  exact h h2
theorem SB.ne {l : List Int} {A : Option Addr} {c : Nat} {w0 : World} {b4 b5 b6 b7 : Nat} {bl : List Int × Int} {W : World} (h : SB l A c w0 b4 b5 b6 b7 bl W) : b4 ≠ b5 ∧ b6 ≠ b4 ∧ b6 ≠ b5 ∧ b7 ≠ b4 ∧ b7 ≠ b5 :=
  ⟨cells_ne h.best h.least (by decide), cells_ne h.often h.best (by decide), cells_ne h.often h.least (by decide), cells_ne h.self h.best (by decide), cells_ne h.self h.least (by decide)⟩
theorem setCell_other {W : World} {b j k : Nat} {v : Value} (h : k ≠ b) : (W.setCell ⟨b, j, none⟩ v).heap[k]? = W.heap[k]? := Below.heap_setCell _ _ _ _ (by intro e; apply h; first | exact e | exact e.symm)
set_option maxHeartbeats 1000000 in
theorem SB.laid {l : List Int} {A : Option Addr} {c : Nat} {w0 : World} {b4 b5 b6 b7 : Nat} {c0 c1 c2 c3 c4 c5 c6 least : Int} {W : World} (h : SB l A c w0 b4 b5 b6 b7 ([c0, c1, c2, c3, c4, c5, c6], least) W) (s0 s1 s2 s3 s4 s5 s6 cost : Int) (hg : ∃ k t, [s0, s1, s2, s3, s4, s5, s6] = ((k : Nat) : Int) :: t ∧ 1 ≤ k ∧ k ≤ 6) {W' : World}
    (hW : W' = (((((((W.setCell ⟨b4, 0, none⟩ (.int .i64 s0)).setCell ⟨b4, 1, none⟩ (.int .i64 s1)).setCell ⟨b4, 2, none⟩ (.int .i64 s2)).setCell ⟨b4, 3, none⟩ (.int .i64 s3)).setCell ⟨b4, 4, none⟩ (.int .i64 s4)).setCell ⟨b4, 5, none⟩ (.int .i64 s5)).setCell ⟨b4, 6, none⟩ (.int .i64 s6)).setCell ⟨b5, 0, none⟩ (.int .i64 cost)) :
    SB l A c w0 b4 b5 b6 b7 ([s0, s1, s2, s3, s4, s5, s6], cost) W' ∧ Keep2 b4 b5 W W' := by
  obtain ⟨n45, n64, n65, n74, n75⟩ := h.ne
  have hob : ∀ k, k ≠ b4 → k ≠ b5 → W'.heap[k]? = W.heap[k]? := fun k h4 h5 => by
    rw [hW, setCell_other h5, setCell_other h4, setCell_other h4, setCell_other h4, setCell_other h4, setCell_other h4, setCell_other h4, setCell_other h4]
  have hz : Below 0 W W' := by rw [hW]; exact (((((((((Below.refl 0 W).setCell (p := ⟨b4, 0, none⟩) (Nat.zero_le _) _).setCell (p := ⟨b4, 1, none⟩) (Nat.zero_le _) _).setCell (p := ⟨b4, 2, none⟩) (Nat.zero_le _) _).setCell (p := ⟨b4, 3, none⟩) (Nat.zero_le _) _).setCell (p := ⟨b4, 4, none⟩) (Nat.zero_le _) _).setCell (p := ⟨b4, 5, none⟩) (Nat.zero_le _) _).setCell (p := ⟨b4, 6, none⟩) (Nat.zero_le _) _).setCell (p := ⟨b5, 0, none⟩) (Nat.zero_le _) _)
  have hb := h.best
  refine ⟨⟨?_, ?_, (hob _ n64 n65).trans h.often, (hob _ n74 n75).trans h.self, ?_, h.lo4, h.lo5, rfl, .inr hg⟩, ⟨hz.os, hz.tape, hz.output, hz.size, fun k _ h4 h5 => hob k h4 h5⟩⟩
  · rw [hW, setCell_other n45]
    simp [World.setCell, Array.getElem?_modify, hb, vs]
  · rw [hW]
    exact box_put (v := .int .i64 least) (by rw [setCell_other n45.symm, setCell_other n45.symm, setCell_other n45.symm, setCell_other n45.symm, setCell_other n45.symm, setCell_other n45.symm, setCell_other n45.symm]; exact h.least) _
  · rw [hW]
    have l4 := h.lo4
    exact (((((((h.below.setCell (p := ⟨b4, 0, none⟩) l4 _).setCell (p := ⟨b4, 1, none⟩) l4 _).setCell (p := ⟨b4, 2, none⟩) l4 _).setCell (p := ⟨b4, 3, none⟩) l4 _).setCell (p := ⟨b4, 4, none⟩) l4 _).setCell (p := ⟨b4, 5, none⟩) l4 _).setCell (p := ⟨b4, 6, none⟩) l4 _).setCell (p := ⟨b5, 0, none⟩) h.lo5 _
theorem cell_arr {W : World} {b : Nat} {c0 c1 c2 c3 c4 c5 c6 : Int} (h : W.heap[b]? = some (.cells (vs [c0, c1, c2, c3, c4, c5, c6]) 138 (0, 0))) :
    W.cell? ⟨b, 0, none⟩ = some (.int .i64 c0) ∧ W.cell? ⟨b, 1, none⟩ = some (.int .i64 c1) ∧ W.cell? ⟨b, 2, none⟩ = some (.int .i64 c2) ∧ W.cell? ⟨b, 3, none⟩ = some (.int .i64 c3) ∧ W.cell? ⟨b, 4, none⟩ = some (.int .i64 c4) ∧ W.cell? ⟨b, 5, none⟩ = some (.int .i64 c5) ∧ W.cell? ⟨b, 6, none⟩ = some (.int .i64 c6) := by
  refine ⟨?_, ?_, ?_, ?_, ?_, ?_, ?_⟩ <;> simp [World.cell?, h, vs]
theorem free_arr {W : World} {b : Nat} {cs : Array Value} (h : W.heap[b]? = some (.cells cs 138 (0, 0))) (j : Nat) : W.frozen? ⟨b, j, none⟩ = false := by simp [World.frozen?, h]
theorem frees_arr {W : World} {b : Nat} {cs : Array Value} (h : W.heap[b]? = some (.cells cs 138 (0, 0))) : W.frozen? ⟨b, 0, none⟩ = false ∧ W.frozen? ⟨b, 1, none⟩ = false ∧ W.frozen? ⟨b, 2, none⟩ = false ∧ W.frozen? ⟨b, 3, none⟩ = false ∧ W.frozen? ⟨b, 4, none⟩ = false ∧ W.frozen? ⟨b, 5, none⟩ = false ∧ W.frozen? ⟨b, 6, none⟩ = false :=
  ⟨free_arr h 0, free_arr h 1, free_arr h 2, free_arr h 3, free_arr h 4, free_arr h 5, free_arr h 6⟩
theorem seven {s : List Int} (h : s.length = 7) : ∃ c0 c1 c2 c3 c4 c5 c6, s = [c0, c1, c2, c3, c4, c5, c6] := by
  match s, h with
  | [a, b, c, d, e, f, g], _ => exact ⟨a, b, c, d, e, f, g, rfl⟩
abbrev zerosV : Value := .agg #[.int .i64 0, .int .i64 0, .int .i64 0, .int .i64 0, .int .i64 0, .int .i64 0, .int .i64 0]
theorem eq_yes (W : World) : (Op.equalIn 10000 138 zerosV zerosV).run Tryz.prog W = .ok true W := by kernel_rfl
theorem eqc_1 (c1 c2 c3 c4 c5 c6 : Int) (W : World) : (Op.equalIn 10000 138 (.agg #[.int .i64 ((1 : Nat) : Int), .int .i64 c1, .int .i64 c2, .int .i64 c3, .int .i64 c4, .int .i64 c5, .int .i64 c6]) (.agg #[.int .i64 0, .int .i64 0, .int .i64 0, .int .i64 0, .int .i64 0, .int .i64 0, .int .i64 0])).run Tryz.prog W = .ok false W := by kernel_rfl
theorem eqc_2 (c1 c2 c3 c4 c5 c6 : Int) (W : World) : (Op.equalIn 10000 138 (.agg #[.int .i64 ((2 : Nat) : Int), .int .i64 c1, .int .i64 c2, .int .i64 c3, .int .i64 c4, .int .i64 c5, .int .i64 c6]) (.agg #[.int .i64 0, .int .i64 0, .int .i64 0, .int .i64 0, .int .i64 0, .int .i64 0, .int .i64 0])).run Tryz.prog W = .ok false W := by kernel_rfl
theorem eqc_3 (c1 c2 c3 c4 c5 c6 : Int) (W : World) : (Op.equalIn 10000 138 (.agg #[.int .i64 ((3 : Nat) : Int), .int .i64 c1, .int .i64 c2, .int .i64 c3, .int .i64 c4, .int .i64 c5, .int .i64 c6]) (.agg #[.int .i64 0, .int .i64 0, .int .i64 0, .int .i64 0, .int .i64 0, .int .i64 0, .int .i64 0])).run Tryz.prog W = .ok false W := by kernel_rfl
theorem eqc_4 (c1 c2 c3 c4 c5 c6 : Int) (W : World) : (Op.equalIn 10000 138 (.agg #[.int .i64 ((4 : Nat) : Int), .int .i64 c1, .int .i64 c2, .int .i64 c3, .int .i64 c4, .int .i64 c5, .int .i64 c6]) (.agg #[.int .i64 0, .int .i64 0, .int .i64 0, .int .i64 0, .int .i64 0, .int .i64 0, .int .i64 0])).run Tryz.prog W = .ok false W := by kernel_rfl
theorem eqc_5 (c1 c2 c3 c4 c5 c6 : Int) (W : World) : (Op.equalIn 10000 138 (.agg #[.int .i64 ((5 : Nat) : Int), .int .i64 c1, .int .i64 c2, .int .i64 c3, .int .i64 c4, .int .i64 c5, .int .i64 c6]) (.agg #[.int .i64 0, .int .i64 0, .int .i64 0, .int .i64 0, .int .i64 0, .int .i64 0, .int .i64 0])).run Tryz.prog W = .ok false W := by kernel_rfl
theorem eqc_6 (c1 c2 c3 c4 c5 c6 : Int) (W : World) : (Op.equalIn 10000 138 (.agg #[.int .i64 ((6 : Nat) : Int), .int .i64 c1, .int .i64 c2, .int .i64 c3, .int .i64 c4, .int .i64 c5, .int .i64 c6]) (.agg #[.int .i64 0, .int .i64 0, .int .i64 0, .int .i64 0, .int .i64 0, .int .i64 0, .int .i64 0])).run Tryz.prog W = .ok false W := by kernel_rfl
theorem eq_no (k : Nat) (h1 : 1 ≤ k) (h6 : k ≤ 6) (c1 c2 c3 c4 c5 c6 : Int) (W : World) : (Op.equalIn 10000 138 (.agg #[.int .i64 (k : Int), .int .i64 c1, .int .i64 c2, .int .i64 c3, .int .i64 c4, .int .i64 c5, .int .i64 c6]) zerosV).run Tryz.prog W = .ok false W := by
  match k, h1, h6 with
  | 1, _, _ => exact eqc_1 c1 c2 c3 c4 c5 c6 W
  | 2, _, _ => exact eqc_2 c1 c2 c3 c4 c5 c6 W
  | 3, _, _ => exact eqc_3 c1 c2 c3 c4 c5 c6 W
  | 4, _, _ => exact eqc_4 c1 c2 c3 c4 c5 c6 W
  | 5, _, _ => exact eqc_5 c1 c2 c3 c4 c5 c6 W
  | 6, _, _ => exact eqc_6 c1 c2 c3 c4 c5 c6 W
theorem settle_none {l : List Int} {f i : Nat} {bl : List Int × Int} {s : List Int} {cost left : Int} (h1 : bl.1 ≠ zeros7) (h2 : bl.2 ≤ cost) : settleF l f bl s i cost left = bl := by
  cases f <;> (unfold settleF; rw [if_pos ⟨h1, h2⟩])
set_option maxRecDepth 100000 in
set_option maxHeartbeats 1000000 in
theorem settle_end (l : List Int) (A : Option Addr) (c : Nat) (w0 : World) (b4 b5 b6 b7 : Nat) (bl : List Int × Int) (s0 s1 s2 s3 s4 s5 s6 : Int) (cost left : Int) (w : World) (hg : ∃ k t, [s0, s1, s2, s3, s4, s5, s6] = ((k : Nat) : Int) :: t ∧ 1 ≤ k ∧ k ≤ 6) (hB : SB l A c w0 b4 b5 b6 b7 bl w) :
    Calls Tryz.prog 76 #[.agg (vs [s0, s1, s2, s3, s4, s5, s6]), .int .i64 l.length, .int .i64 cost, .int .i64 left, .pointer (some ⟨b4, 0, none⟩), .pointer (some ⟨b5, 0, none⟩), .pointer (some ⟨b6, 0, none⟩), .pointer (some ⟨b7, 0, none⟩)] w fun e w' =>
      e = .returned (.tuple #[]) ∧ SB l A c w0 b4 b5 b6 b7 (settleF l 0 bl [s0, s1, s2, s3, s4, s5, s6] l.length cost left) w' ∧ Keep2 b4 b5 w w' := by
  have HB := Lib.hid hB
  have hw1 := hB.carry (below1 w (.cells (vs [s0, s1, s2, s3, s4, s5, s6]) 138))
  obtain ⟨b, least⟩ := bl
  have hgd := hB.good
  dsimp only at hgd
  obtain ⟨hg7, hgd⟩ := hgd
  obtain ⟨c0, c1, c2, c3, c4, c5, c6, rfl⟩ := seven hg7
  have vse : vs [s0, s1, s2, s3, s4, s5, s6] = #[.int .i64 s0, .int .i64 s1, .int .i64 s2, .int .i64 s3, .int .i64 s4, .int .i64 s5, .int .i64 s6] := rfl
  obtain ⟨q0, q1, q2, q3, q4, q5, q6⟩ := cell_arr hw1.best
  have hle := box_cell hw1.least
  have hof := box_cell hw1.often
  obtain ⟨f0, f1, f2, f3, f4, f5, f6⟩ := frees_arr hw1.best
  have ff := box_free hw1.least
  have h4 := blk_lt HB.out.best
  have h5 := blk_lt HB.out.least
  obtain ⟨p0, p1, p2, p3, p4, p5, p6⟩ := cell_arr HB.out.best
  obtain ⟨g0, g1, g2, g3, g4, g5, g6⟩ := frees_arr HB.out.best
  have pl := box_cell HB.out.least
  have gl := box_free HB.out.least
  dsimp only at pl
  have n45 := hB.ne.1
  have n54 : b5 ≠ b4 := n45.symm
  have n4 : b4 ≠ w.heap.size := by omega
  have n5 : b5 ≠ w.heap.size := by omega
  have n4' : w.heap.size ≠ b4 := by omega
  have n5' : w.heap.size ≠ b5 := by omega
  have HW := Lib.hid hw1
  rw [vse] at q0 q1 q2 q3 q4 q5 q6 hle hof f0 f1 f2 f3 f4 f5 f6 ff
  have Hg := Lib.hid hg
  clear hw1 hB hg
  have fin : Hid (∀ W' : World, W' = ((((((((w.setCell ⟨b4, 0, none⟩ (.int .i64 s0)).setCell ⟨b4, 1, none⟩ (.int .i64 s1)).setCell ⟨b4, 2, none⟩ (.int .i64 s2)).setCell ⟨b4, 3, none⟩ (.int .i64 s3)).setCell ⟨b4, 4, none⟩ (.int .i64 s4)).setCell ⟨b4, 5, none⟩ (.int .i64 s5)).setCell ⟨b4, 6, none⟩ (.int .i64 s6)).setCell ⟨b5, 0, none⟩ (.int .i64 cost)).alloc (.cells (vs [s0, s1, s2, s3, s4, s5, s6]) 138) → SB l A c w0 b4 b5 b6 b7 ([s0, s1, s2, s3, s4, s5, s6], cost) W' ∧ Keep2 b4 b5 w W') := Lib.hid (fun W' e => by
    obtain ⟨h1, h2⟩ := HB.out.laid s0 s1 s2 s3 s4 s5 s6 cost Hg.out rfl
    rw [e]
    exact ⟨h1.carry (below1 _ _), h2.trans (.of_below (below1 _ _))⟩)
  rw [vse]
  rcases hgd with hz | ⟨k, t, hk, hk1, hk6⟩
  · injection hz with z0 hz; injection hz with z1 hz; injection hz with z2 hz; injection hz with z3 hz; injection hz with z4 hz; injection hz with z5 hz; injection hz with z6 hz
    subst z0 z1 z2 z3 z4 z5 z6
    clear hz
    have hy := eq_yes
    have hr : Hid (settleF l 0 ([0, 0, 0, 0, 0, 0, 0], least) [s0, s1, s2, s3, s4, s5, s6] l.length cost left = ([s0, s1, s2, s3, s4, s5, s6], cost)) := Lib.hid (by unfold settleF; rw [if_neg (fun h => h.1 rfl)])
    go_enter Tryz.func76, Tryz.ntmps76
    go_wp2_with fail
    refine bodyPost_ret (results_none rfl _ _ _) rfl ?_
    rw [hr.out]
    exact ⟨rfl, fin.out _ rfl⟩
  · injection hk with z0 hk
    subst z0
    have hn := eq_no k hk1 hk6 c1 c2 c3 c4 c5 c6
    have hnz : Hid (((k : Int) :: [c1, c2, c3, c4, c5, c6] = zeros7) → False) := Lib.hid (fun h => by injection h with h _; omega)
    by_cases hlc : least ≤ cost
    · have hr : Hid (settleF l 0 ([(k : Int), c1, c2, c3, c4, c5, c6], least) [s0, s1, s2, s3, s4, s5, s6] l.length cost left = ([(k : Int), c1, c2, c3, c4, c5, c6], least)) := Lib.hid (settle_none hnz.out hlc)
      clear hk
      go_enter Tryz.func76, Tryz.ntmps76
      go_wp2_with fail
      refine bodyPost_ret (results_none rfl _ _ _) rfl ?_
      rw [hr.out]
      exact ⟨rfl, HW.out, .of_below (below1 _ _)⟩
    · have hr : Hid (settleF l 0 ([(k : Int), c1, c2, c3, c4, c5, c6], least) [s0, s1, s2, s3, s4, s5, s6] l.length cost left = ([s0, s1, s2, s3, s4, s5, s6], cost)) := Lib.hid (by unfold settleF; rw [if_neg (fun h => hlc h.2)])
      clear hk
      go_enter Tryz.func76, Tryz.ntmps76
      go_wp2_with fail
      refine bodyPost_ret (results_none rfl _ _ _) rfl ?_
      rw [hr.out]
      exact ⟨rfl, fin.out _ rfl⟩
end Go.Proofs.YtfnibmcenjiodaaGreatDoor.M
