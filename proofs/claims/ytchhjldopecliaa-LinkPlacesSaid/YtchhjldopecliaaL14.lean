/-
What over and heavyTexts of the laws compute. Condition: the arguments are slices.
-/
import Derived.Test.YtchhjldopecliaaL13
namespace Go.Proofs.Ytchhjldopecliaa
open Go.RowKit

def hvyT (xs : List Str) : Int := xs.foldl (fun z x => wrap64 (z + x.size)) xs.length
def hvyK (n : Nat) (xs : List Str) : Int := xs.foldl (fun z x => wrap64 (z + x.size)) n
set_option maxRecDepth 100000 in
set_option maxHeartbeats 1000000 in
theorem c_heavyTexts (A : Option Addr) (n c : Nat) (xs : List Str) (w : World) (h : SlR w 1 RStr A n c xs) :
    Calls Try.prog 15 #[.slice A n c] w fun e w' => e = .returned (.int .i64 (hvyK n xs)) ∧ w = w' := by
  have hlim := h.lim
  have H := Box.mk h
  clear h
  go_enter Try.func15, Try.ntmps15
  go_wp2_with fail
  go_loop [3, 4] (fun t i => ∃ k : Nat, k ≤ n ∧ i = .int .i64 k ∧ t = .int .i64 (hvyK n (xs.take k))) (fun _ i => n - (intOf i).toNat)
  case atStart => exact ⟨0, Nat.zero_le _, rfl, rfl⟩
  case round =>
    obtain ⟨k, hk, rfl, rfl⟩ := hrel
    by_cases hlt : k < n
    · obtain ⟨b, off, x, rfl, hb, hx, hs, hc⟩ := H.out.str_at k hlt
      rw [LIM_eq] at hs
      have HE : Box (hvyK n (xs.take (k + 1)) = wrap64 (hvyK n (xs.take k) + x.size)) := ⟨by unfold hvyK; rw [List.take_add_one, hx, List.foldl_append]; rfl⟩
      clear hx
      generalize hvyK n (xs.take k) = z at HE
      go_wp2_with fail
      go_round
      case rel => exact ⟨k + 1, by omega, by go_num, vi (by rw [HE.out])⟩
      case measure => simp [intOf]; omega
    · go_wp2_with fail
      go_ret
      obtain rfl : k = n := by omega
      exact ⟨ret_int (by rw [List.take_of_length_le (by rw [H.out.len]; exact Nat.le_refl _)]), rfl⟩

def OverSays (n : Nat) (e : Ending) : Prop := ∃ q, e = .returned (.bool q) ∧ (q = false → n < 65536)

set_option maxRecDepth 100000 in
set_option maxHeartbeats 4000000 in
theorem c_over (A : Option Addr) (n c : Nat) (ms : List Md) (w : World) (h : SlR w 5 RMd A n c ms) :
    Calls Try.prog 14 #[.slice A n c] w fun e w' => OverSays n e ∧ Below w.heap.size w w' := by
  have hlim := h.lim
  have H := Box.mk h
  clear h
  by_cases hbig : 65536 ≤ n
  · have hpos : 0 < n := by omega
    have hnb : decide ((n : Int) < 65536) = false := by simp; omega
    have hnb2 : decide ((n : Int) ≥ 65536) = true := by simp; omega
    have HBIG := Box.mk hbig
    clear hbig
    go_enter Try.func14, Try.ntmps14
    go_wp2_with fail
    go_loop [3, 4] (fun t i => i = .int .i64 0 ∧ t = .int .i64 n) (fun _ i => 0)
    case atStart => exact ⟨rfl, rfl⟩
    case round =>
      obtain ⟨rfl, rfl⟩ := hrel
      go_wp2_with fail
      go_ret
      exact ⟨⟨_, rfl, fun h => by simp at h⟩, Below.refl _ _⟩
  · go_enter Try.func14, Try.ntmps14
    go_wp2_with fail
    go_loopw [3, 4, 5] (fun t i _ wr => ∃ k : Nat, k ≤ n ∧ i = .int .i64 k ∧ (∃ z, t = .int .i64 z) ∧ Box (Below w.heap.size w wr)) (fun _ i _ _ => n - (intOf i).toNat)
    case atStart => exact ⟨0, Nat.zero_le _, rfl, ⟨_, rfl⟩, ⟨Below.refl _ _⟩⟩
    case round =>
      obtain ⟨k, hk, rfl, ⟨z, rfl⟩, HB⟩ := hrel
      by_cases hlt : k < n
      · by_cases hz : z < 65536
        · obtain ⟨b, off, m, A1, n1, c1, A2, n2, c2, A3, n3, c3, rfl, hb, hm, hM, h0, h1, h2, h3, h4⟩ := H.out.md_at k hlt
          replace h0 := cellk HB.out hb h0
          replace h1 := cellk HB.out hb h1
          replace h2 := cellk HB.out hb h2
          replace h3 := cellk HB.out hb h3
          replace h4 := cellk HB.out hb h4
          have HM := Box.mk hM
          have hn1 := hM.pr.lim
          have hn2 := hM.sz.lim
          have hn3 := hM.cl.lim
          have hnm := hM.nm
          rw [LIM_eq] at hnm
          have CH : Box (∀ W, Below w.heap.size w W → Calls Try.prog 15 #[.slice A1 n1 c1] W fun e w' => e = .returned (.int .i64 (hvyK n1 m.pr)) ∧ W = w') := ⟨fun W hW => c_heavyTexts A1 n1 c1 m.pr W (hM.pr.below mono_str hW)⟩
          clear hM hm
          generalize hvyK n1 m.pr = hv at CH
          go_upto_region 5 with fail
          have CQ : Box (∀ q, Calls Try.prog 15 #[.slice A1 n1 c1] (wr.drewN q) fun e w' => e = .returned (.int .i64 hv) ∧ w' = wr.drewN q) := ⟨fun q => (CH.out (wr.drewN q) ⟨HB.out.os, HB.out.tape, HB.out.output, HB.out.size, HB.out.block⟩).mono (fun e w' h => ⟨h.1, h.2.symm⟩)⟩
          go_quiet (exact Calls.quiet_of_same (CQ.out _))
          generalize (wrap64 (z + wrap64 (wrap64 (wrap64 (↑(ByteArray.size m.nm) + hv) + ↑n2) + ↑n3))) = z2
          have HBq : Box (Below w.heap.size w (wr.drewN nq)) := ⟨⟨HB.out.os, HB.out.tape, HB.out.output, HB.out.size, HB.out.block⟩⟩
          clear CQ CH
          go_wp2_with fail
          go_loop [3, 5] (fun t i => ∃ j : Nat, j ≤ n3 ∧ i = .int .i64 j ∧ ∃ z, t = .int .i64 z) (fun _ i => n3 - (intOf i).toNat)
          case atStart => exact ⟨0, Nat.zero_le _, rfl, _, rfl⟩
          case round =>
            obtain ⟨j, hj, rfl, z3, rfl⟩ := hrel
            by_cases hjl : j < n3
            · obtain ⟨b6, o6, l, A6, n6, c6, rfl, hb6, hx6, hc6, hl6⟩ := HM.out.cl.sl_at j hjl
              have hc6' : (wr.drewN nq).cell? ⟨b6, o6 + j, none⟩ = some (.slice A6 n6 c6) := cellk HBq.out hb6 hc6
              have HL := Box.mk hl6
              clear hx6 hl6 hc6
              generalize hvz : hvyK n6 l = hz6 at *
              go_wp2_with fail
              refine (c_heavyTexts A6 n6 c6 l _ (HL.out.below mono_str HBq.out)).mono ?_
              rintro e w2 ⟨rfl, rfl⟩
              go_wp2_with fail
              exact ⟨⟨j + 1, by omega, by go_num, _, rfl⟩, by simp [intOf]; omega⟩
            · go_wp2_with fail
              go_roundw
              case rel => exact ⟨k + 1, by omega, by go_num, ⟨_, rfl⟩, HBq⟩
              case measure => simp [intOf]; omega
        · go_wp2_with fail
          go_ret
          exact ⟨⟨_, rfl, fun _ => by omega⟩, HB.out⟩
      · go_wp2_with fail
        go_ret
        exact ⟨⟨_, rfl, fun _ => by omega⟩, HB.out⟩
end Go.Proofs.Ytchhjldopecliaa
