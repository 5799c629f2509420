/-
What the reference's isModule computes. Condition: the argument is a module.
-/
import Derived.Test.YtchhjldopecliaaF2
namespace Go.Proofs.Ytchhjldopecliaa
open Go.RowKit

theorem rightB_split (m : Md) : rightB m = true ↔ nameOk m.nm = true ∧ 0 ≤ m.ov ∧ m.ov ≤ 15 ∧ m.pr.any badN = false ∧ m.sz.any badSz = false ∧ (m.cl.any fun l => l.any badN) = false := by
  unfold rightB
  simp only [Bool.and_eq_true, decide_eq_true_eq, Bool.not_eq_true']
  constructor
  · rintro ⟨h1, h2, h3, h4, h5, h6⟩
    exact ⟨h2, h3, h4, h5, h6, h1⟩
  · rintro ⟨h1, h2, h3, h4, h5, h6⟩
    exact ⟨h6, h1, h2, h3, h4, h5⟩

set_option maxRecDepth 100000 in
set_option maxHeartbeats 4000000 in
theorem r_isModule (m : Md) (A1 : Option Addr) (n1 c1 : Nat) (A2 : Option Addr) (n2 c2 : Nat) (A3 : Option Addr) (n3 c3 : Nat) (w : World) (h : MdIs w m A1 n1 c1 A2 n2 c2 A3 n3 c3) :
    Calls Try.prog 61 #[.agg #[.string m.nm, .int .i64 m.ov, .slice A1 n1 c1, .slice A2 n2 c2, .slice A3 n3 c3]] w fun e w' => e = .returned (.bool (rightB m)) ∧ Below w.heap.size w w' := by
  have hlim1 := h.pr.lim
  have hlim2 := h.sz.lim
  have hlim3 := h.cl.lim
  have hnm := h.nm
  have H := Box.mk (h.below (bel_alloc w (.cells #[.string m.nm, .int .i64 m.ov, .slice A1 n1 c1, .slice A2 n2 c2, .slice A3 n3 c3] 33)))
  clear h
  go_enter Try.func61, Try.ntmps61
  have HB : Box (Below w.heap.size w (w.alloc (.cells #[.string m.nm, .int .i64 m.ov, .slice A1 n1 c1, .slice A2 n2 c2, .slice A3 n3 c3] 33))) := ⟨bel_alloc _ _⟩
  have d0 : (w.alloc (.cells #[.string m.nm, .int .i64 m.ov, .slice A1 n1 c1, .slice A2 n2 c2, .slice A3 n3 c3] 33)).cell? ⟨w.heap.size, 0, none⟩ = some (.string m.nm) := by simp
  have d1 : (w.alloc (.cells #[.string m.nm, .int .i64 m.ov, .slice A1 n1 c1, .slice A2 n2 c2, .slice A3 n3 c3] 33)).cell? ⟨w.heap.size, 1, none⟩ = some (.int .i64 m.ov) := by simp
  have d2 : (w.alloc (.cells #[.string m.nm, .int .i64 m.ov, .slice A1 n1 c1, .slice A2 n2 c2, .slice A3 n3 c3] 33)).cell? ⟨w.heap.size, 2, none⟩ = some (.slice A1 n1 c1) := by simp
  have d3 : (w.alloc (.cells #[.string m.nm, .int .i64 m.ov, .slice A1 n1 c1, .slice A2 n2 c2, .slice A3 n3 c3] 33)).cell? ⟨w.heap.size, 3, none⟩ = some (.slice A2 n2 c2) := by simp
  have d4 : (w.alloc (.cells #[.string m.nm, .int .i64 m.ov, .slice A1 n1 c1, .slice A2 n2 c2, .slice A3 n3 c3] 33)).cell? ⟨w.heap.size, 4, none⟩ = some (.slice A3 n3 c3) := by simp
  go_upto_region 1 with fail
  generalize (w.alloc (.cells #[.string m.nm, .int .i64 m.ov, .slice A1 n1 c1, .slice A2 n2 c2, .slice A3 n3 c3] 33)) = W at *
  go_wp2_with fail
  refine (r_isName m.nm W (by rw [← LIM_eq]; exact hnm)).mono ?_
  rintro e w1 ⟨rfl, rfl⟩
  generalize hq : nameOk m.nm = Q at *
  have HQ := Box.mk hq
  clear hq
  cases Q
  case false =>
    have HF : Box (rightB m = false) := ⟨by rw [Bool.eq_false_iff]; intro e; have := ((rightB_split m).1 e).1; rw [HQ.out] at this; cases this⟩
    go_wp2_with fail
    go_ret
    exact ⟨rb (by rw [HF.out]), HB.out⟩
  case true =>
  by_cases h0 : 0 ≤ m.ov
  case neg =>
    have HF : Box (rightB m = false) := ⟨by rw [Bool.eq_false_iff]; intro e; exact h0 ((rightB_split m).1 e).2.1⟩
    go_wp2_with fail
    go_ret
    exact ⟨rb (by rw [HF.out]), HB.out⟩
  case pos =>
  by_cases h15 : m.ov ≤ 15
  case neg =>
    have HF : Box (rightB m = false) := ⟨by rw [Bool.eq_false_iff]; intro e; exact h15 ((rightB_split m).1 e).2.2.1⟩
    go_wp2_with fail
    go_ret
    exact ⟨rb (by rw [HF.out]), HB.out⟩
  case pos =>
  have HOV : Box (0 ≤ m.ov ∧ m.ov ≤ 15) := ⟨⟨h0, h15⟩⟩
  go_wp2_with fail
  clear h0 h15
  go_loop [3] (fun i => ∃ k : Nat, k ≤ n1 ∧ i = .int .i64 k ∧ Box ((m.pr.take k).any badN = false)) (fun i => n1 - (intOf i).toNat)
  case atStart => exact ⟨0, Nat.zero_le _, rfl, ⟨by simp⟩⟩
  case round =>
    obtain ⟨k, hk, rfl, HP⟩ := hrel
    by_cases hlt : k < n1
    · obtain ⟨b5, o5, x, rfl, hb5, hx5, hs5, hc5⟩ := H.out.pr.str_at k hlt
      have HX := Box.mk hx5
      rw [LIM_eq] at hs5
      clear hx5
      go_wp2_with fail
      refine (r_isName x W hs5).mono ?_
      rintro e w1 ⟨rfl, rfl⟩
      generalize hq : nameOk x = Q at *
      have HQX : Box (badN x = !Q) := ⟨by rw [badN, hq]⟩
      clear hq
      cases Q
      · have HF : Box (rightB m = false) := ⟨by rw [Bool.eq_false_iff]; intro e; have := ((rightB_split m).1 e).2.2.2.1; rw [any_of_at HX.out HQX.out] at this; cases this⟩
        go_wp2_with fail
        go_ret
        exact ⟨rb (by rw [HF.out]), HB.out⟩
      · go_wp2_with fail
        go_round
        case rel => exact ⟨k + 1, by omega, by go_num, ⟨anyTake_succ HX.out HP.out HQX.out⟩⟩
        case measure => simp [intOf]; omega
    · obtain rfl : k = n1 := by omega
      have HPA : Box (m.pr.any badN = false) := ⟨by
        have := HP.out
        rwa [List.take_of_length_le (by rw [H.out.pr.len]; exact Nat.le_refl _)] at this⟩
      go_wp2_with fail
      go_loop [4] (fun i => ∃ k : Nat, k ≤ n2 ∧ i = .int .i64 k ∧ Box ((m.sz.take k).any badSz = false)) (fun i => n2 - (intOf i).toNat)
      case atStart => exact ⟨0, Nat.zero_le _, rfl, ⟨by simp⟩⟩
      case round =>
        obtain ⟨k2, hk2, rfl, HS⟩ := hrel
        by_cases hlt2 : k2 < n2
        · obtain ⟨b5, o5, x, rfl, hb5, hx5, hc5⟩ := H.out.sz.int_at k2 hlt2
          have HX := Box.mk hx5
          clear hx5
          by_cases hx1 : x < 1
          · have HF : Box (rightB m = false) := ⟨by rw [Bool.eq_false_iff]; intro e; have := ((rightB_split m).1 e).2.2.2.2.1; rw [any_of_at HX.out (by simp [badSz, hx1])] at this; cases this⟩
            go_wp2_with fail
            go_ret
            exact ⟨rb (by rw [HF.out]), HB.out⟩
          · by_cases hx2 : 10000 < x
            · have HF : Box (rightB m = false) := ⟨by rw [Bool.eq_false_iff]; intro e; have := ((rightB_split m).1 e).2.2.2.2.1; rw [any_of_at HX.out (by simp [badSz, hx2])] at this; cases this⟩
              go_wp2_with fail
              go_ret
              exact ⟨rb (by rw [HF.out]), HB.out⟩
            · have HBS : Box (badSz x = false) := ⟨by simp [badSz]; omega⟩
              go_wp2_with fail
              go_round
              case rel => exact ⟨k2 + 1, by omega, by go_num, ⟨anyTake_succ HX.out HS.out HBS.out⟩⟩
              case measure => simp [intOf]; omega
        · obtain rfl : k2 = n2 := by omega
          have HSA : Box (m.sz.any badSz = false) := ⟨by
            have := HS.out
            rwa [List.take_of_length_le (by rw [H.out.sz.len]; exact Nat.le_refl _)] at this⟩
          go_wp2_with fail
          go_loop [5, 6] (fun i _ => ∃ k : Nat, k ≤ n3 ∧ i = .int .i64 k ∧ Box ((m.cl.take k).any (fun l => l.any badN) = false)) (fun i _ => n3 - (intOf i).toNat)
          case atStart => exact ⟨0, Nat.zero_le _, rfl, ⟨by simp⟩⟩
          case round =>
            obtain ⟨k3, hk3, rfl, HC⟩ := hrel
            by_cases hlt3 : k3 < n3
            · obtain ⟨b6, o6, l, A6, n6, c6, rfl, hb6, hx6, hc6, hl6⟩ := H.out.cl.sl_at k3 hlt3
              have HX6 := Box.mk hx6
              have HL6 := Box.mk hl6
              have hn6 := hl6.lim
              clear hx6 hl6
              go_wp2_with fail
              go_loop [6] (fun i => ∃ k : Nat, k ≤ n6 ∧ i = .int .i64 k ∧ Box ((l.take k).any badN = false)) (fun i => n6 - (intOf i).toNat)
              case atStart => exact ⟨0, Nat.zero_le _, rfl, ⟨by simp⟩⟩
              case round =>
                obtain ⟨k4, hk4, rfl, HL⟩ := hrel
                by_cases hlt4 : k4 < n6
                · obtain ⟨b7, o7, x, rfl, hb7, hx7, hs7, hc7⟩ := HL6.out.str_at k4 hlt4
                  have HX := Box.mk hx7
                  rw [LIM_eq] at hs7
                  clear hx7
                  go_wp2_with fail
                  refine (r_isName x W hs7).mono ?_
                  rintro e w1 ⟨rfl, rfl⟩
                  generalize hq : nameOk x = Q at *
                  have HQX : Box (badN x = !Q) := ⟨by rw [badN, hq]⟩
                  clear hq
                  cases Q
                  · have HF : Box (rightB m = false) := ⟨by rw [Bool.eq_false_iff]; intro e; have := ((rightB_split m).1 e).2.2.2.2.2; rw [any_of_at HX6.out (any_of_at HX.out HQX.out)] at this; cases this⟩
                    go_wp2_with fail
                    go_ret
                    exact ⟨rb (by rw [HF.out]), HB.out⟩
                  · go_wp2_with fail
                    go_round
                    case rel => exact ⟨k4 + 1, by omega, by go_num, ⟨anyTake_succ HX.out HL.out HQX.out⟩⟩
                    case measure => simp [intOf]; omega
                · obtain rfl : k4 = n6 := by omega
                  have HLA : Box (l.any badN = false) := ⟨by
                    have := HL.out
                    rwa [List.take_of_length_le (by rw [HL6.out.len]; exact Nat.le_refl _)] at this⟩
                  go_wp2_with fail
                  go_round
                  case rel => exact ⟨k3 + 1, by omega, by go_num, ⟨anyTake_succ HX6.out HC.out HLA.out⟩⟩
                  case measure => simp [intOf]; omega
            · obtain rfl : k3 = n3 := by omega
              have HCA : Box ((m.cl.any fun l => l.any badN) = false) := ⟨by
                have := HC.out
                rwa [List.take_of_length_le (by rw [H.out.cl.len]; exact Nat.le_refl _)] at this⟩
              have HF : Box (rightB m = true) := ⟨(rightB_split m).2 ⟨HQ.out, HOV.out.1, HOV.out.2, HPA.out, HSA.out, HCA.out⟩⟩
              go_wp2_with fail
              go_ret
              exact ⟨rb (by rw [HF.out]), HB.out⟩
end Go.Proofs.Ytchhjldopecliaa
