/-
What the closures of isLarge and isRight compute. No conditions.
-/
import Derived.Test.YtchhjldopecliaaL1
import Derived.Test.YtchhjldopecliaaL2
import Derived.Test.YtchhjldopecliaaB3
namespace Go.Proofs.Ytchhjldopecliaa
open Go.RowKit

theorem c_large1 (A : Option Addr) (n c : Nat) (w : World) :
    Calls Try.prog 92 #[.slice A n c] w fun e w' => e = .returned (.bool (decide (100 < n))) ∧ Below w.heap.size w w' := by
  go_enter Try.func92, Try.ntmps92
  go_wp2_with fail
  go_ret
  exact ⟨rb (by simp <;> omega), Below.refl _ _⟩
theorem c_right1 (s : Str) (w : World) (hs : s.size ≤ LIM) :
    Calls Try.prog 93 #[.string s] w fun e w' => e = .returned (.bool (!nameOk s)) ∧ Below w.heap.size w w' := by
  have C := Box.mk (c_isName s w hs)
  clear hs
  generalize nameOk s = q at C ⊢
  go_enter Try.func93, Try.ntmps93
  go_wp2_with fail
  refine C.out.mono ?_
  rintro e w1 ⟨rfl, hb1⟩
  go_wp2_with fail
  go_ret
  exact ⟨rfl, hb1⟩
def badSz (x : Int) : Bool := decide (x < 1) || decide (10000 < x)
theorem c_right2 (x : Int) (w : World) :
    Calls Try.prog 96 #[.int .i64 x] w fun e w' => e = .returned (.bool (badSz x)) ∧ Below w.heap.size w w' := by
  by_cases h : x < 1
  all_goals
    go_enter Try.func96, Try.ntmps96
    go_wp2_with fail
    go_ret
    exact ⟨rb (by simp [badSz] <;> omega), Below.refl _ _⟩

theorem c_heavy (A : Option Addr) (n c : Nat) (xs : List Str) (w : World) (h : SlR w 1 RStr A n c xs) :
    Calls Try.prog 15 #[.slice A n c] w fun e w' => (∃ z, e = .returned (.int .i64 z)) ∧ w = w' := by
  have hlim := h.lim
  have H := Box.mk h
  clear h
  go_enter Try.func15, Try.ntmps15
  go_wp2_with fail
  go_loop [3, 4] (fun t i => ∃ k : Nat, k ≤ n ∧ i = .int .i64 k ∧ ∃ z, t = .int .i64 z) (fun _ i => n - (intOf i).toNat)
  case atStart => exact ⟨0, Nat.zero_le _, rfl, _, rfl⟩
  case round =>
    obtain ⟨k, hk, rfl, z, rfl⟩ := hrel
    by_cases hlt : k < n
    · obtain ⟨b, off, x, rfl, hb, hx, hs, hc⟩ := H.out.str_at k hlt
      clear hx hs
      go_wp2_with fail
      go_round
      case rel => exact ⟨k + 1, by omega, by go_num, _, rfl⟩
      case measure => simp [intOf]; omega
    · go_wp2_with fail
      go_ret
      exact ⟨⟨_, rfl⟩, rfl⟩
end Go.Proofs.Ytchhjldopecliaa
