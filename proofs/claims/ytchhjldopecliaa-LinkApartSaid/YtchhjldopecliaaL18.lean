/-
What Missing (of the program and of the reference) and SameTexts compute. Condition: the arguments are slices of modules; slices of the same texts.
-/
import Derived.Test.YtchhjldopecliaaF10
namespace Go.Proofs.Ytchhjldopecliaa
open Go.RowKit

/-- What Missing tells. -/
def mss (ms : List Md) : List Str × Int := if vld ms ≠ 0 then ([], vld ms) else (missS (prs ms), 0)

set_option maxHeartbeats 1000000 in
theorem c_Missing (A : Option Addr) (n c : Nat) (ms : List Md) (w : World) (h : SlR w 5 RMd A n c ms) :
    Calls Try.prog 20 #[.slice A n c] w fun e w' => ∃ A' c', e = .returned (.tuple #[.slice A' (mss ms).1.length c', .int .i64 (mss ms).2]) ∧ SlR w' 1 RStr A' (mss ms).1.length c' (mss ms).1 ∧ Below w.heap.size w w' := by
  have H := Box.mk h
  clear h
  go_enter Try.func20, Try.ntmps20
  go_wp2_with fail
  refine (c_Validate A n c ms w H.out).mono ?_
  rintro e w1 ⟨rfl, hb1⟩
  have HB1 := Box.mk hb1
  clear hb1
  generalize hv : vld ms = V
  by_cases h0 : V = 0
  · subst h0
    have HG := Box.mk (vld_good hv)
    have HO : Box (mss ms = (missS (prs ms), 0)) := ⟨by simp [mss, hv]⟩
    clear hv
    go_wp2_with fail
    refine (c_procs A n c ms w1 (H.out.below mono_md HB1.out) HG.out.fits HG.out.procs).mono ?_
    rintro e w2 ⟨b, rfl, hm, hbl, hb2⟩
    have HM := Box.mk hm
    have HB2 := Box.mk (below_tr HB1.out HB1.out.size hb2)
    clear hm hbl hb2
    go_wp2_with fail
    refine (c_missing b (prs ms) w2 HM.out HG.out.nms HG.out.plen (fun p hp => HG.out.pcalls hp)).mono ?_
    rintro e w3 ⟨A', c', rfl, hs, hb3⟩
    have HB3 := Box.mk (below_tr HB2.out HB2.out.size hb3)
    have HS := Box.mk hs
    clear hs hb3
    go_wp2_with fail
    go_ret2
    rw [HO.out]
    exact ⟨_, _, rfl, HS.out, HB3.out⟩
  · have HO : Box (mss ms = ([], V)) := ⟨by simp [mss, hv, h0]⟩
    have h0' : (V != 0) = true := by simpa using h0
    clear hv
    go_wp2_with fail
    go_ret2
    rw [HO.out]
    exact ⟨_, _, rfl, slr_nil _ _ _ _ _, HB1.out⟩

set_option maxHeartbeats 1000000 in
theorem r_Missing (A : Option Addr) (n c : Nat) (ms : List Md) (w : World) (h : SlR w 5 RMd A n c ms) :
    Calls Try.prog 21 #[.slice A n c] w fun e w' => ∃ A' c', e = .returned (.tuple #[.slice A' (mss ms).1.length c', .int .i64 (mss ms).2]) ∧ SlR w' 1 RStr A' (mss ms).1.length c' (mss ms).1 ∧ Below w.heap.size w w' := by
  have H := Box.mk h
  clear h
  go_enter Try.func21, Try.ntmps21
  go_wp2_with fail
  refine (r_Validate A n c ms w H.out).mono ?_
  rintro e w1 ⟨rfl, hb1⟩
  have HB1 := Box.mk hb1
  clear hb1
  generalize hv : vld ms = V
  by_cases h0 : V = 0
  · subst h0
    have HG := Box.mk (vld_good hv)
    have HO : Box (mss ms = (missS (prs ms), 0)) := ⟨by simp [mss, hv]⟩
    clear hv
    go_wp2_with fail
    refine (r_missing A n c ms w1 (H.out.below mono_md HB1.out) HG.out).mono ?_
    rintro e w3 ⟨A', c', rfl, hs, hb3⟩
    have HB3 := Box.mk (below_tr HB1.out HB1.out.size hb3)
    have HS := Box.mk hs
    clear hs hb3
    go_wp2_with fail
    go_ret2
    rw [HO.out]
    exact ⟨_, _, rfl, HS.out, HB3.out⟩
  · have HO : Box (mss ms = ([], V)) := ⟨by simp [mss, hv, h0]⟩
    have h0' : (V != 0) = true := by simpa using h0
    clear hv
    go_wp2_with fail
    go_ret2
    rw [HO.out]
    exact ⟨_, _, rfl, slr_nil _ _ _ _ _, HB1.out⟩

set_option maxRecDepth 100000 in
set_option maxHeartbeats 1000000 in
/-- Two slices of the same texts are equal. -/
theorem c_SameTexts (A : Option Addr) (n c : Nat) (B : Option Addr) (c' : Nat) (xs : List Str) (w : World) (h : SlR w 1 RStr A n c xs) (h' : SlR w 1 RStr B n c' xs) :
    Calls Try.prog 25 #[.slice A n c, .slice B n c'] w fun e w' => e = .returned (.bool true) ∧ Below w.heap.size w w' := by
  have hlim := h.lim
  have H := Box.mk h
  have H' := Box.mk h'
  clear h h'
  go_enter Try.func25, Try.ntmps25
  go_wp2_with fail
  go_loopw [5] (fun i wr => ∃ k : Nat, k ≤ n ∧ i = .int .i64 k ∧ Box (Below w.heap.size w wr)) (fun i _ => n - (intOf i).toNat)
  case atStart => exact ⟨0, Nat.zero_le _, rfl, ⟨Below.refl _ _⟩⟩
  case round =>
    obtain ⟨k, hk, rfl, HB⟩ := hrel
    by_cases hlt : k < n
    · obtain ⟨b, off, x, rfl, hb, hx, _, hc⟩ := H.out.str_at k hlt
      obtain ⟨b2, off2, y, rfl, hb2, hy, _, hc2⟩ := H'.out.str_at k hlt
      obtain rfl : x = y := by rw [hx] at hy; exact Option.some.inj hy
      replace hc := cellk HB.out hb hc
      replace hc2 := cellk HB.out hb2 hc2
      have hq : (ByteArray.toList x == ByteArray.toList x) = true := by simp
      clear hx hy
      go_upto_region 6 with fail
      go_quiet (fail)
      have HBq : Box (Below w.heap.size w (wr.drewN nq)) := ⟨⟨HB.out.os, HB.out.tape, HB.out.output, HB.out.size, HB.out.block⟩⟩
      go_wp2_with fail
      go_roundw
      case rel => exact ⟨k + 1, by omega, by go_num, HBq⟩
      case measure => simp [intOf] <;> omega
    · go_wp2_with fail
      go_ret
      exact ⟨rfl, HB.out⟩
end Go.Proofs.Ytchhjldopecliaa
