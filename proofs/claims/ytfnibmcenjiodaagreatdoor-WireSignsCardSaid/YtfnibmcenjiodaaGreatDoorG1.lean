/- The reference's Turned, walked by hand (the print's own walk of it does not end). No statement of the seat is proved here. -/
import Derived.Test.YtfnibmcenjiodaaGreatDoorM11
import Derived.Deep.QuietTactic
import Derived.BigQuiet
namespace Go.Proofs.YtfnibmcenjiodaaGreatDoor.R
open Go.Sort Go.Shelf Go.RowKit Go.Proofs.YtfnibmcenjiodaaGreatDoorW.PrintWords Go.Proofs.YtfnibmcenjiodaaGreatDoorW.PrintLast Go.Proofs.YtfnibmcenjiodaaGreatDoorW.PrintMore
open Go.Proofs.YtfnibmcenjiodaaGreatDoor.M

def gTurned.f (a0 : ByteArray) (a1 : Int) : Option ByteArray := if 0 ≤ a1 ∧ a1 < (a0.size : Int) ∧ a0.size ≤ 1099511627776 then some (turnAt a0 a1.toNat) else none
set_option maxRecDepth 100000 in
set_option maxHeartbeats 4000000 in
theorem gTurned.calls (a0 : ByteArray) (a1 : Int) (r : ByteArray) (w : World) (h : gTurned.f a0 a1 = some r) :
    Calls Tryz.prog 36 #[.string a0, .int .i64 a1] w fun e w' => e = .returned (.string r) ∧ Drawn0 w w' := by
  unfold gTurned.f at h
  split at h
  · rename_i hc
    obtain ⟨h0, h1, hs⟩ := hc
    obtain ⟨i, rfl⟩ := Int.eq_ofNat_of_zero_le h0
    simp only [Int.toNat_natCast, Option.some.injEq] at h
    have hi : i < a0.size := by omega
    subst h
    have k0 : (0 : Int) ≤ (i : Int) := by omega
    have k1 : (i : Int) ≤ (a0.size : Int) := by omega
    have k3 : (i : Int) + 1 ≤ (a0.size : Int) := by omega
    have k4 : (0 : Int) ≤ (i : Int) + 1 := by omega
    have k5 : IntKind.i64.wrap ((i : Int) + 1) = (i : Int) + 1 := IntWalk.i64_in _ (by omega)
    have k6 : ((i : Int) + 1).toNat = i + 1 := by omega
    have f1 : ¬ 9223372036854775807 < min i a0.size + 1 := by omega
    have f2 : ¬ 9223372036854775807 < min i a0.size + 1 + (a0.size - (i + 1)) := by omega
    by_cases hd : a0.data[i]'hi = 45
    · have ht : turnAt a0 i = a0.extract 0 i ++ dotS ++ a0.extract (i + 1) a0.size := by unfold turnAt; rw [show a0.data.getD i 0 = 45 by rw [← hd]; simp only [Array.getD]; exact dif_pos hi]; rfl
      have hb : (((a0[i]'hi).toNat : Int) == 45) = true := by rw [show a0[i]'hi = 45 from hd]; rfl
      go_enter Tryz.func36, Tryz.ntmps36
      go_wp2
      go_region_held3 (fun w' => True) (trivial) (fail)
      go_wp2
      go_ret
      exact ⟨by rw [ht]; rfl, ⟨⟨1, rfl⟩⟩⟩
    · have hne : a0.data[i]'hi = a0[i]'hi := rfl
      have ht : turnAt a0 i = a0.extract 0 i ++ dashS ++ a0.extract (i + 1) a0.size := by
        unfold turnAt
        rw [show a0.data.getD i 0 = a0.data[i]'hi by simp only [Array.getD]; exact dif_pos hi]
        unfold flipB
        rw [if_neg hd]
      have hb : (((a0[i]'hi).toNat : Int) == 45) = false := by
        rw [beq_eq_false_iff_ne]
        intro e
        apply hd
        rw [hne]
        apply UInt8.toNat_inj.1
        have : (45 : UInt8).toNat = 45 := rfl
        omega
      clear hne hd
      go_enter Tryz.func36, Tryz.ntmps36
      go_wp2
      go_region_held3 (fun w' => True) (trivial) (fail)
      go_wp2
      go_ret
      exact ⟨by rw [ht]; rfl, ⟨⟨1, rfl⟩⟩⟩
  · cases h
end Go.Proofs.YtfnibmcenjiodaaGreatDoor.R
