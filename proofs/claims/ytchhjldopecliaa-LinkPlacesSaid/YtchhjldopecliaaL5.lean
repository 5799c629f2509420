/-
What isRight computes. Condition: the argument is a module.
-/
import Derived.Test.YtchhjldopecliaaL4
namespace Go.Proofs.Ytchhjldopecliaa
open Go.RowKit

def badN (s : Str) : Bool := !nameOk s
def rightB (m : Md) : Bool := !(m.cl.any fun l => l.any badN) && (nameOk m.nm && (decide (0 ≤ m.ov) && (decide (m.ov ≤ 15) && (!(m.pr.any badN) && !(m.sz.any badSz)))))

theorem ent_right1 : ∀ args w, (callFunc 93 args).run Try.prog w = .ok (.enter 93 args) w := enters_of Try.func93 (by kernel_rfl) rfl
theorem ent_right2 : ∀ args w, (callFunc 96 args).run Try.prog w = .ok (.enter 96 args) w := enters_of Try.func96 (by kernel_rfl) rfl

theorem c_badStrs (A : Option Addr) (n c : Nat) (xs : List Str) (w : World) (h : SlR w 1 RStr A n c xs) :
    Calls Try.prog 80 #[.slice A n c, .func (.func 93) #[] #[]] w fun e w' => e = .returned (.bool (xs.any badN)) ∧ Below w.heap.size w w' := by
  refine c_ContainsFunc_str badN _ #[] ent_right1 A n c xs w h ?_
  rintro x v W _ ⟨hv, hx⟩ _
  obtain rfl : v = .string x := by simpa using hv
  exact c_right1 x W hx
theorem c_badInts (A : Option Addr) (n c : Nat) (xs : List Int) (w : World) (h : SlR w 1 RInt A n c xs) :
    Calls Try.prog 95 #[.slice A n c, .func (.func 96) #[] #[]] w fun e w' => e = .returned (.bool (xs.any badSz)) ∧ Below w.heap.size w w' := by
  refine c_ContainsFunc_int badSz _ #[] ent_right2 A n c xs w h ?_
  rintro x v W _ hv _
  obtain rfl : v = .int .i64 x := by
    have hv : [v] = [Value.int .i64 x] := hv
    simpa using hv
  exact c_right2 x W

set_option maxRecDepth 100000 in
set_option maxHeartbeats 2000000 in
theorem c_isRight (m : Md) (A1 : Option Addr) (n1 c1 : Nat) (A2 : Option Addr) (n2 c2 : Nat) (A3 : Option Addr) (n3 c3 : Nat) (w : World) (h : MdIs w m A1 n1 c1 A2 n2 c2 A3 n3 c3) :
    Calls Try.prog 49 #[.agg #[.string m.nm, .int .i64 m.ov, .slice A1 n1 c1, .slice A2 n2 c2, .slice A3 n3 c3]] w fun e w' => e = .returned (.bool (rightB m)) ∧ Below w.heap.size w w' := by
  have hlim := h.cl.lim
  have H := Box.mk (h.below (bel_alloc w (.cells #[.string m.nm, .int .i64 m.ov, .slice A1 n1 c1, .slice A2 n2 c2, .slice A3 n3 c3] 33)))
  clear h
  go_enter Try.func49, Try.ntmps49
  go_wp2_with fail
  generalize hW : w.alloc (.cells #[.string m.nm, .int .i64 m.ov, .slice A1 n1 c1, .slice A2 n2 c2, .slice A3 n3 c3] 33) = W at H
  have HW : Box (Below w.heap.size w W ∧ W.heap.size = w.heap.size + 1) := ⟨hW ▸ ⟨bel_alloc _ _, by simp⟩⟩
  have d0 : W.cell? ⟨w.heap.size, 0, none⟩ = some (.string m.nm) := by rw [← hW]; simp
  have d1 : W.cell? ⟨w.heap.size, 1, none⟩ = some (.int .i64 m.ov) := by rw [← hW]; simp
  have d2 : W.cell? ⟨w.heap.size, 2, none⟩ = some (.slice A1 n1 c1) := by rw [← hW]; simp
  have d3 : W.cell? ⟨w.heap.size, 3, none⟩ = some (.slice A2 n2 c2) := by rw [← hW]; simp
  clear hW
  have D : Box (w.heap.size < W.heap.size) := ⟨by have := HW.out.2; omega⟩
  go_loopw [5, 9] (fun _ i wr => ∃ k : Nat, k ≤ n3 ∧ i = .int .i64 k ∧ Box (Below W.heap.size W wr) ∧ Box ((m.cl.take k).any (fun l => l.any badN) = false)) (fun _ i _ => n3 - (intOf i).toNat)
  case atStart => exact ⟨0, Nat.zero_le _, rfl, ⟨Below.refl _ _⟩, ⟨by simp⟩⟩
  case round =>
    obtain ⟨k, hk, rfl, HB, HA⟩ := hrel
    by_cases hlt : k < n3
    · obtain ⟨b, off, x, A', n', c', rfl, hb, hx, hc, hs⟩ := (H.out.cl.below (mono_sl mono_str) HB.out).sl_at k hlt
      have HX := Box.mk hx
      have HS := Box.mk hs
      clear hx hs d0 d1 d2 d3
      go_wp2_with fail
      refine (c_badStrs A' n' c' x wr HS.out).mono ?_
      rintro e w1 ⟨rfl, hb1⟩
      have HB1 := Box.mk (below_tr HB.out HB.out.size hb1)
      clear hb1
      generalize hpx : x.any badN = P at *
      have HPX := Box.mk hpx
      clear hpx
      cases P
      · go_wp2_with fail
        go_roundw
        case rel => exact ⟨k + 1, by omega, by go_num, HB1, ⟨anyTake_succ HX.out HA.out HPX.out⟩⟩
        case measure => simp [intOf]; omega
      · go_wp2_with fail
        go_ret
        refine ⟨rb ?_, below_tr HW.out.1 HW.out.1.size HB1.out⟩
        simp [rightB, any_of_at (p := fun l : List Str => l.any badN) HX.out HPX.out]
    · obtain rfl : k = n3 := by omega
      have e3 : m.cl.take k = m.cl := List.take_of_length_le (by rw [H.out.cl.len]; exact Nat.le_refl _)
      have HA' : Box (m.cl.any (fun l => l.any badN) = false) := ⟨by have := HA.out; rwa [e3] at this⟩
      clear e3 HA
      replace d0 := cellk HB.out D.out d0
      replace d1 := cellk HB.out D.out d1
      replace d2 := cellk HB.out D.out d2
      replace d3 := cellk HB.out D.out d3
      go_wp2_with fail
      refine (c_isName m.nm wr H.out.nm).mono ?_
      rintro e w1 ⟨rfl, hb1⟩
      have D1 : Box (w.heap.size < wr.heap.size) := ⟨by have := HB.out.size; have := D.out; omega⟩
      replace d1 := cellk hb1 D1.out d1
      replace d2 := cellk hb1 D1.out d2
      replace d3 := cellk hb1 D1.out d3
      have HB1 := Box.mk (below_tr HB.out HB.out.size hb1)
      have D2 : Box (w.heap.size < w1.heap.size) := ⟨by have := hb1.size; have := D1.out; omega⟩
      clear hb1 d0
      generalize hq : nameOk m.nm = Q at *
      have HQ := Box.mk hq
      clear hq
      have HBW := Box.mk (below_tr HW.out.1 HW.out.1.size HB1.out)
      cases Q
      · go_wp2_with fail
        go_ret
        exact ⟨rb (by simp [rightB, HA'.out, HQ.out]), HBW.out⟩
      · by_cases h0 : 0 ≤ m.ov
        · by_cases h15 : m.ov ≤ 15
          · go_wp2_with fail
            refine (c_badStrs A1 n1 c1 m.pr w1 (H.out.pr.below mono_str HB1.out)).mono ?_
            rintro e w2 ⟨rfl, hb2⟩
            replace d3 := cellk hb2 D2.out d3
            have HB2 := Box.mk (below_tr HB1.out HB1.out.size hb2)
            have HBW2 := Box.mk (below_tr HBW.out HBW.out.size hb2)
            clear hb2 d1 d2
            generalize hq : m.pr.any badN = Q at *
            have HQ2 := Box.mk hq
            clear hq
            cases Q
            · go_wp2_with fail
              refine (c_badInts A2 n2 c2 m.sz w2 (H.out.sz.below mono_int HB2.out)).mono ?_
              rintro e w3 ⟨rfl, hb3⟩
              have HBW3 := Box.mk (below_tr HBW2.out HBW2.out.size hb3)
              clear hb3
              generalize hq : m.sz.any badSz = Q at *
              have HQ3 := Box.mk hq
              clear hq
              go_wp2_with fail
              go_ret
              exact ⟨rb (by simp [rightB, HA'.out, HQ.out, HQ2.out, HQ3.out, h0, h15]), HBW3.out⟩
            · go_wp2_with fail
              go_ret
              exact ⟨rb (by simp [rightB, HA'.out, HQ.out, HQ2.out, h0, h15]), HBW2.out⟩
          · have HF : Box (rightB m = false) := ⟨by simp [rightB, HA'.out, h15]⟩
            go_wp2_with fail
            go_ret
            exact ⟨rb (by simp [HF.out]), HBW.out⟩
        · have HF : Box (rightB m = false) := ⟨by simp [rightB, HA'.out, h0]⟩
          go_wp2_with fail
          go_ret
          exact ⟨rb (by simp [HF.out]), HBW.out⟩
end Go.Proofs.Ytchhjldopecliaa
