/-
That LinkPlaces returns true. Condition: the argument is a slice of modules.
-/
import Derived.Test.YtchhjldopecliaaF13
namespace Go.Proofs.Ytchhjldopecliaa
open Go.RowKit

set_option maxRecDepth 100000 in
set_option maxHeartbeats 1000000 in
/-- Two slices of the same numbers are equal. -/
theorem c_SameInts (A : Option Addr) (n c : Nat) (B : Option Addr) (c' : Nat) (xs : List Int) (w : World) (h : SlR w 1 RInt A n c xs) (h' : SlR w 1 RInt B n c' xs) :
    Calls Try.prog 28 #[.slice A n c, .slice B n c'] w fun e w' => e = .returned (.bool true) ∧ Below w.heap.size w w' := by
  have hlim := h.lim
  have H := Box.mk h
  have H' := Box.mk h'
  clear h h'
  go_enter Try.func28, Try.ntmps28
  go_wp2_with fail
  go_loopw [5] (fun i wr => ∃ k : Nat, k ≤ n ∧ i = .int .i64 k ∧ Box (Below w.heap.size w wr)) (fun i _ => n - (intOf i).toNat)
  case atStart => exact ⟨0, Nat.zero_le _, rfl, ⟨Below.refl _ _⟩⟩
  case round =>
    obtain ⟨k, hk, rfl, HB⟩ := hrel
    by_cases hlt : k < n
    · obtain ⟨b, off, x, rfl, hb, hx, hc⟩ := H.out.int_at k hlt
      obtain ⟨b2, off2, y, rfl, hb2, hy, hc2⟩ := H'.out.int_at k hlt
      obtain rfl : x = y := by rw [hx] at hy; exact Option.some.inj hy
      replace hc := cellk HB.out hb hc
      replace hc2 := cellk HB.out hb2 hc2
      clear hx hy
      go_upto_region 6 with fail
      go_quiet (fail)
      have HBq : Box (Below w.heap.size w (wr.drewN nq)) := ⟨⟨HB.out.os, HB.out.tape, HB.out.output, HB.out.size, HB.out.block⟩⟩
      go_wp2_with fail
      go_roundw
      case rel => exact ⟨k + 1, by omega, by go_num, HBq⟩
      case measure => simp [intOf] <;> omega
    · go_wp2_with fail
      go_ret
      exact ⟨rfl, HB.out⟩

set_option maxRecDepth 100000 in
set_option maxHeartbeats 2000000 in
theorem c_LinkPlaces (A : Option Addr) (n c : Nat) (ms : List Md) (w : World) (h : SlR w 5 RMd A n c ms) :
    Calls Try.prog 7 #[.slice A n c] w fun e w' => e = .returned (.bool true) ∧ Below w.heap.size w w' := by
  have hlim := h.lim
  have H := Box.mk h
  clear h
  go_enter Try.func7, Try.ntmps7
  go_wp2_with fail
  refine (c_over A n c ms w H.out).mono ?_
  rintro e w1 ⟨⟨q, rfl, hq⟩, hb1⟩
  have HB1 := Box.mk hb1
  clear hb1 hq
  cases q
  case true =>
    go_wp2_with fail
    refine (c_known w1).mono ?_
    rintro e w2 ⟨rfl, hb2⟩
    have HB2 := Box.mk (below_tr HB1.out HB1.out.size hb2)
    clear hb2
    go_wp2_with fail
    go_ret
    exact ⟨rfl, HB2.out⟩
  case false =>
    go_wp2_with fail
    refine (c_Link A n c ms w1 (H.out.below mono_md HB1.out)).mono ?_
    rintro e w2 ⟨B1, d1, B2, d2, rfl, hs1, hs2, hb2⟩
    have HB2 := Box.mk (below_tr HB1.out HB1.out.size hb2)
    have HS1 := Box.mk hs1
    have HS2 := Box.mk hs2
    clear hb2 hs1 hs2
    have CM := Box.mk (r_Link A n c ms w2 (H.out.below mono_md HB2.out))
    obtain ⟨nm, hnm⟩ : ∃ nm, nm = (lnk ms).1.length := ⟨_, rfl⟩
    obtain ⟨na, hna⟩ : ∃ na, na = (lnk ms).2.1.length := ⟨_, rfl⟩
    rw [← hnm, ← hna] at CM ⊢
    rw [← hnm] at HS1
    rw [← hna] at HS2
    clear hnm hna
    generalize (lnk ms).1 = xs at *
    generalize (lnk ms).2.1 = ys at *
    generalize (lnk ms).2.2 = E at *
    go_wp2_with fail
    refine CM.out.mono ?_
    rintro e w3 ⟨B3, d3, B4, d4, rfl, hs3, hs4, hb3⟩
    have HB3 := Box.mk (below_tr HB2.out HB2.out.size hb3)
    have HS3 := Box.mk hs3
    have HS4 := Box.mk hs4
    have HS1' := Box.mk (HS1.out.below mono_str hb3)
    have HS2' := Box.mk (HS2.out.below mono_int hb3)
    clear hb3 hs3 hs4 CM
    go_wp2_with fail
    refine (c_SameTexts B1 nm d1 B3 d3 xs w3 HS1'.out HS3.out).mono ?_
    rintro e w4 ⟨rfl, hb4⟩
    have HB4 := Box.mk (below_tr HB3.out HB3.out.size hb4)
    have HS2b := Box.mk (HS2'.out.below mono_int hb4)
    have HS4b := Box.mk (HS4.out.below mono_int hb4)
    clear hb4
    go_wp2_with fail
    refine (c_SameInts B2 na d2 B4 d4 ys w4 HS2b.out HS4b.out).mono ?_
    rintro e w5 ⟨rfl, hb5⟩
    have HB5 := Box.mk (below_tr HB4.out HB4.out.size hb5)
    clear hb5
    go_wp2_with fail
    refine (c_known w5).mono ?_
    rintro e w9 ⟨rfl, hb9⟩
    have HB9 := Box.mk (below_tr HB5.out HB5.out.size hb9)
    clear hb9
    go_wp2_with fail
    go_ret
    exact ⟨rfl, HB9.out⟩
end Go.Proofs.Ytchhjldopecliaa
