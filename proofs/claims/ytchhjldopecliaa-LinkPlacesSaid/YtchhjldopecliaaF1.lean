/-
What the reference's isName computes. Condition: the text is one that a machine can hold.
-/
import Derived.Test.YtchhjldopecliaaL1
namespace Go.Proofs.Ytchhjldopecliaa
open Go.RowKit

set_option maxRecDepth 100000 in
set_option maxHeartbeats 1000000 in
theorem r_isName (s : ByteArray) (w : World) (hs : s.size ≤ 140737488351232) :
    Calls Try.prog 99 #[.string s] w fun e w' => e = .returned (.bool (nameOk s)) ∧ w = w' := by
  by_cases h1 : 1 ≤ s.size
  case neg =>
    have HF : Box (nameOk s = false) := ⟨by simp [nameOk, h1]⟩
    go_enter Try.func99, Try.ntmps99
    go_wp2_with fail
    go_ret
    exact ⟨rb (by rw [HF.out]), rfl⟩
  case pos =>
  by_cases h10 : s.size ≤ 10
  case neg =>
    have HF : Box (nameOk s = false) := ⟨by simp [nameOk, h10]⟩
    go_enter Try.func99, Try.ntmps99
    go_wp2_with fail
    go_ret
    exact ⟨rb (by rw [HF.out]), rfl⟩
  case pos =>
  go_enter Try.func99, Try.ntmps99
  go_wp2_with fail
  go_loop [3, 4, 5] (fun i _ _ => ∃ k : Nat, k ≤ s.size ∧ i = .int .i64 k ∧ Box (∀ j, j < k → badc j (bAt s j) = false)) (fun i _ _ => s.size - (intOf i).toNat)
  case atStart => exact ⟨0, Nat.zero_le _, rfl, ⟨fun j hj => by omega⟩⟩
  case round =>
    obtain ⟨k, hk, rfl, HK⟩ := hrel
    by_cases hlt : k < s.size
    · have hx := bAt_lt s k
      have hg := bAt_get s k hlt
      generalize hv : bAt s k = v at hx hg
      have HV := Box.mk hv
      clear hv
      go_upto_region 7 with fail
      clear hg
      go_cut [4, 5] (fun t4 t5 w' => t4 = .int .u8 v ∧ t5 = .bool (letr v) ∧ w' = w)
      case first =>
        go_wp2
        all_goals (go_meet; exact ⟨rfl, vb (by simp [letr]; omega), rfl⟩)
      case rest =>
        obtain ⟨rfl, rfl, rfl⟩ := hcut
        generalize hL : letr v = L
        have HL := Box.mk hL
        clear hL
        obtain ⟨z, hz⟩ : ∃ z, ((k : Int) == 0) = z := ⟨_, rfl⟩
        have HE : Box (badc k v = (!L && (z || (v != 95 && (decide (v < 48) || decide (57 < v)))))) := ⟨by
          rw [← hz, ← HL.out]; unfold badc
          have : ((k : Int) == 0) = (k == 0) := by rw [Bool.eq_iff_iff]; simp
          rw [this]⟩
        go_upto_region 8 with fail
        go_cut [4, 54] (fun t4 t45 w' => t4 = .int .u8 v ∧ t45 = .bool (badc k v) ∧ w' = wc)
        case first =>
          cases L <;> cases z
          all_goals go_wp2
          all_goals (go_meet; exact ⟨vi (by omega), vb (by rw [HE.out]; simp <;> omega), rfl⟩)
        case rest =>
          obtain ⟨rfl, rfl, rfl⟩ := hcut
          clear hz
          generalize hL : badc k v = L
          have HL := Box.mk hL
          clear hL
          cases L
          · go_wp2
            go_round
            case rel =>
              refine ⟨k + 1, by omega, by go_num, ⟨fun j hj => ?_⟩⟩
              rcases Nat.lt_or_ge j k with h | h
              · exact HK.out j h
              · obtain rfl : j = k := by omega
                rw [HV.out]
                exact HL.out
            case measure => simp [intOf]; omega
          · go_wp2
            go_ret
            refine ⟨rb ?_, rfl⟩
            rw [nameOk_false hlt (by rw [HV.out]; exact HL.out)]
    · obtain rfl : k = s.size := by omega
      go_wp2_with fail
      go_ret
      refine ⟨rb ?_, rfl⟩
      rw [nameOk_end HK.out]
      simp
      omega
end Go.Proofs.Ytchhjldopecliaa
