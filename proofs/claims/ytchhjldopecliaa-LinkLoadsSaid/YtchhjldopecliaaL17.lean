/-
That LinkLoads returns true. Condition: the arguments are a slice of modules, a text and a slice of texts.
-/
import Derived.Test.YtchhjldopecliaaF10
namespace Go.Proofs.Ytchhjldopecliaa
open Go.RowKit

set_option maxRecDepth 100000 in
set_option maxHeartbeats 2000000 in
theorem c_LinkLoads (A : Option Addr) (n c : Nat) (ms : List Md) (x : Str) (A2 : Option Addr) (n2 c2 : Nat) (walk : List Str) (w : World) (h : SlR w 5 RMd A n c ms) (h2 : SlR w 1 RStr A2 n2 c2 walk) (hx : x.size ≤ LIM) :
    Calls Try.prog 4 #[.slice A n c, .string x, .slice A2 n2 c2] w fun e w' => e = .returned (.bool true) ∧ Below w.heap.size w w' := by
  have hlim := h.lim
  have hlim2 := h2.lim
  have H := Box.mk h
  have H2 := Box.mk h2
  clear h h2
  rw [LIM_eq] at hx
  go_enter Try.func4, Try.ntmps4
  go_wp2_with fail
  refine (c_over A n c ms w H.out).mono ?_
  rintro e w1 ⟨⟨q, rfl, hq⟩, hb1⟩
  have HB1 := Box.mk hb1
  have HQ := Box.mk hq
  clear hb1 hq
  cases q
  case true =>
    go_wp2_with fail
    refine (c_known w1).mono ?_
    rintro e w2 ⟨rfl, hb2⟩
    have HB2 := Box.mk (below_tr HB1.out HB1.out.size hb2)
    clear hb2
    go_wp2_with fail
    go_ret
    exact ⟨rfl, HB2.out⟩
  case false =>
    have HNB : Box (n < 65536) := ⟨HQ.out rfl⟩
    clear HQ
    by_cases hxm : ((x.size : Nat) : Int) ≤ 65536
    case neg =>
      go_wp2_with fail
      refine (c_known w1).mono ?_
      rintro e w2 ⟨rfl, hb2⟩
      have HB2 := Box.mk (below_tr HB1.out HB1.out.size hb2)
      clear hb2
      go_wp2_with fail
      go_ret
      exact ⟨rfl, HB2.out⟩
    case pos =>
      go_wp2_with fail
      refine (c_heavyTexts A2 n2 c2 walk w1 (H2.out.below mono_str HB1.out)).mono ?_
      rintro e w2 ⟨rfl, rfl⟩
      generalize hvyK n2 walk = hv
      by_cases hvm : hv ≤ 65536
      case neg =>
        go_wp2_with fail
        refine (c_known w1).mono ?_
        rintro e w2 ⟨rfl, hb2⟩
        have HB2 := Box.mk (below_tr HB1.out HB1.out.size hb2)
        clear hb2
        go_wp2_with fail
        go_ret
        exact ⟨rfl, HB2.out⟩
      case pos =>
        go_wp2_with fail
        refine (c_Loads A n c ms x A2 n2 c2 walk w1 (H.out.below mono_md HB1.out) (H2.out.below mono_str HB1.out)).mono ?_
        rintro e w2 ⟨rfl, hb2⟩
        have HB2 := Box.mk (below_tr HB1.out HB1.out.size hb2)
        clear hb2
        have CR := Box.mk (r_Loads A n c ms x A2 n2 c2 walk w2 (H.out.below mono_md HB2.out) (H2.out.below mono_str HB2.out))
        generalize (lds ms x walk).2 = E at *
        generalize (lds ms x walk).1 = E1 at *
        go_wp2_with fail
        refine CR.out.mono ?_
        rintro e w3 ⟨rfl, hb3⟩
        have HB3 := Box.mk (below_tr HB2.out HB2.out.size hb3)
        clear hb3
        go_wp2_with fail
        refine (c_known w3).mono ?_
        rintro e w4 ⟨rfl, hb4⟩
        have HB4 := Box.mk (below_tr HB3.out HB3.out.size hb4)
        clear hb4
        go_wp2_with fail
        go_ret
        exact ⟨rfl, HB4.out⟩
end Go.Proofs.Ytchhjldopecliaa
