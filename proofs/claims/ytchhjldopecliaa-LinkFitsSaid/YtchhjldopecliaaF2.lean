/-
What the reference's isLarge computes. Condition: the argument is a slice of modules.
-/
import Derived.Test.YtchhjldopecliaaF1
import Derived.Test.YtchhjldopecliaaL16
namespace Go.Proofs.Ytchhjldopecliaa
open Go.RowKit

set_option maxRecDepth 100000 in
set_option maxHeartbeats 2000000 in
theorem r_isLarge (A : Option Addr) (n c : Nat) (ms : List Md) (w : World) (h : SlR w 5 RMd A n c ms) :
    Calls Try.prog 60 #[.slice A n c] w fun e w' => e = .returned (.bool (largeB ms)) ∧ w = w' := by
  have hlim := h.lim
  have HLE : Box (∀ m ∈ ms, m.pr.length ≤ 140737488351232) := ⟨fun m hm => by
    obtain ⟨i, hi⟩ := List.mem_iff_getElem?.1 hm
    have hlt : i < n := by rw [← h.len]; exact (List.getElem?_eq_some_iff.1 hi).1
    obtain ⟨b, off, m', A1, n1, c1, A2, n2, c2, A3, n3, c3, _, _, hm', hM, _⟩ := h.md_at i hlt
    rw [hi] at hm'
    injection hm' with hm'
    subst hm'
    have := hM.pr.lim
    rw [hM.pr.len]
    exact this⟩
  have H := Box.mk h
  clear h
  go_enter Try.func60, Try.ntmps60
  go_wp2_with fail
  go_loop [3, 4, 5] (fun t i _ => ∃ k : Nat, k ≤ n ∧ i = .int .i64 k ∧ (∃ z, t = .int .i64 z ∧ Box (k ≤ 32 → z = sumL (ms.take k))) ∧ Box ((ms.take k).any longC = false)) (fun _ i _ => n - (intOf i).toNat)
  case atStart => exact ⟨0, Nat.zero_le _, rfl, ⟨_, rfl, ⟨fun _ => by simp [sumL]⟩⟩, ⟨by simp⟩⟩
  case round =>
    obtain ⟨k, hk, rfl, ⟨z, rfl, HZ⟩, HA⟩ := hrel
    by_cases hlt : k < n
    · obtain ⟨b, off, m, A1, n1, c1, A2, n2, c2, A3, n3, c3, rfl, hb, hm, hM, h0, h1, h2, h3, h4⟩ := H.out.md_at k hlt
      have HM := Box.mk hM
      have HX := Box.mk hm
      have hn1 := hM.pr.lim
      have hn3 := hM.cl.lim
      have HN1 := Box.mk hM.pr.len
      clear hM hm
      go_wp2_with fail
      go_loop [5] (fun i => ∃ j : Nat, j ≤ n3 ∧ i = .int .i64 j ∧ Box ((m.cl.take j).any (fun l => decide (100 < l.length)) = false)) (fun i => n3 - (intOf i).toNat)
      case atStart => exact ⟨0, Nat.zero_le _, rfl, ⟨by simp⟩⟩
      case round =>
        obtain ⟨j, hj, rfl, HJ⟩ := hrel
        by_cases hjl : j < n3
        · obtain ⟨b6, o6, l, A6, n6, c6, rfl, hb6, hx6, hc6, hl6⟩ := HM.out.cl.sl_at j hjl
          have HX6 := Box.mk hx6
          have hn6 := hl6.lim
          have HL6 := Box.mk hl6.len
          clear hx6 hl6
          by_cases h100 : n6 ≤ 100
          · have hlf : decide (100 < l.length) = false := by rw [HL6.out]; simpa using h100
            have HLF := Box.mk hlf
            clear hlf
            go_wp2_with fail
            go_round
            case rel => exact ⟨j + 1, by omega, by go_num, ⟨anyTake_succ HX6.out HJ.out HLF.out⟩⟩
            case measure => simp [intOf]; omega
          · have hlf : decide (100 < l.length) = true := by rw [HL6.out]; simpa using h100
            have HLF : Box (longC m = true) := ⟨any_of_at HX6.out hlf⟩
            clear hlf
            go_wp2_with fail
            go_ret
            refine ⟨rb ?_, rfl⟩
            simp [largeB, any_of_at HX.out HLF.out]
        · obtain rfl : j = n3 := by omega
          have HLF : Box (longC m = false) := ⟨by
            have := HJ.out
            rwa [List.take_of_length_le (by rw [HM.out.cl.len]; exact Nat.le_refl _)] at this⟩
          go_wp2_with fail
          go_round
          case rel =>
            refine ⟨k + 1, by omega, by go_num, ⟨_, rfl, ⟨fun h32 => ?_⟩⟩, ⟨anyTake_succ HX.out HA.out HLF.out⟩⟩
            have e1 := HZ.out (by omega)
            have e2 := sumL_le (ms := ms) (k := k) (by omega) HLE.out
            rw [sumL_take HX.out, HN1.out, e1]
            unfold wrap64
            omega
          case measure => simp [intOf]; omega
    · obtain rfl : k = n := by omega
      by_cases h32 : 32 < k
      · have HF : Box (largeB ms = true) := ⟨by simp [largeB, H.out.len, h32]⟩
        go_wp2_with fail
        go_ret
        exact ⟨rb (by rw [HF.out]), rfl⟩
      · have hz : z = sumL ms := by
          have := HZ.out (by omega)
          rwa [List.take_of_length_le (by rw [H.out.len]; exact Nat.le_refl _)] at this
        have HF : Box (largeB ms = decide (100 < sumL ms)) := ⟨by
          have := HA.out
          rw [List.take_of_length_le (by rw [H.out.len]; exact Nat.le_refl _)] at this
          simp [largeB, this, H.out.len, h32]⟩
        subst hz
        go_wp2_with fail
        go_ret
        exact ⟨rb (by rw [HF.out]; simp; try omega), rfl⟩
end Go.Proofs.Ytchhjldopecliaa
