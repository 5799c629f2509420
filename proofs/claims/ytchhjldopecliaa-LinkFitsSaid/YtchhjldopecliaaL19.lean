/-
That LinkFits returns true. Condition: the argument is a slice of modules.
-/
import Derived.Test.YtchhjldopecliaaF12
namespace Go.Proofs.Ytchhjldopecliaa
open Go.RowKit

set_option maxRecDepth 100000 in
set_option maxHeartbeats 2000000 in
theorem c_LinkFits (A : Option Addr) (n c : Nat) (ms : List Md) (w : World) (h : SlR w 5 RMd A n c ms) :
    Calls Try.prog 5 #[.slice A n c] w fun e w' => e = .returned (.bool true) ∧ Below w.heap.size w w' := by
  have hlim := h.lim
  have H := Box.mk h
  clear h
  go_enter Try.func5, Try.ntmps5
  go_wp2_with fail
  refine (c_over A n c ms w H.out).mono ?_
  rintro e w1 ⟨⟨q, rfl, hq⟩, hb1⟩
  have HB1 := Box.mk hb1
  clear hb1 hq
  cases q
  case true =>
    go_wp2_with fail
    refine (c_known w1).mono ?_
    rintro e w2 ⟨rfl, hb2⟩
    have HB2 := Box.mk (below_tr HB1.out HB1.out.size hb2)
    clear hb2
    go_wp2_with fail
    go_ret
    exact ⟨rfl, HB2.out⟩
  case false =>
    go_wp2_with fail
    refine (c_Missing A n c ms w1 (H.out.below mono_md HB1.out)).mono ?_
    rintro e w2 ⟨B1, d1, rfl, hs2, hb2⟩
    have HB2 := Box.mk (below_tr HB1.out HB1.out.size hb2)
    have HS2 := Box.mk hs2
    clear hb2 hs2
    have CM := Box.mk (r_Missing A n c ms w2 (H.out.below mono_md HB2.out))
    obtain ⟨nm, hnm⟩ : ∃ nm, nm = (mss ms).1.length := ⟨_, rfl⟩
    rw [← hnm] at HS2 CM ⊢
    clear hnm
    generalize (mss ms).1 = xs at *
    generalize (mss ms).2 = E at *
    go_wp2_with fail
    refine CM.out.mono ?_
    rintro e w3 ⟨B2, d2, rfl, hs3, hb3⟩
    have HB3 := Box.mk (below_tr HB2.out HB2.out.size hb3)
    have HS3 := Box.mk hs3
    have HS2' := Box.mk (HS2.out.below mono_str hb3)
    clear hb3 hs3 CM
    have CS := Box.mk (c_Sizes A n c ms w3 (H.out.below mono_md HB3.out))
    have CR := Box.mk (fun W hW => r_Sizes A n c ms W (H.out.below mono_md hW))
    generalize (szs ms).1 = E1 at *
    generalize (szs ms).2.1 = E2 at *
    generalize (szs ms).2.2 = E3 at *
    go_wp2_with fail
    refine CS.out.mono ?_
    rintro e w4 ⟨rfl, hb4⟩
    have HB4 := Box.mk (below_tr HB3.out HB3.out.size hb4)
    have HS2b := Box.mk (HS2'.out.below mono_str hb4)
    have HS3b := Box.mk (HS3.out.below mono_str hb4)
    clear hb4 CS
    go_wp2_with fail
    refine (CR.out w4 HB4.out).mono ?_
    rintro e w5 ⟨rfl, hb5⟩
    have HB5 := Box.mk (below_tr HB4.out HB4.out.size hb5)
    have HS2c := Box.mk (HS2b.out.below mono_str hb5)
    have HS3c := Box.mk (HS3b.out.below mono_str hb5)
    clear hb5 CR
    go_wp2_with fail
    refine (c_Validate A n c ms w5 (H.out.below mono_md HB5.out)).mono ?_
    rintro e w6 ⟨rfl, hb6⟩
    have HB6 := Box.mk (below_tr HB5.out HB5.out.size hb6)
    have HS2d := Box.mk (HS2c.out.below mono_str hb6)
    have HS3d := Box.mk (HS3c.out.below mono_str hb6)
    clear hb6
    go_wp2_with fail
    refine (r_Validate A n c ms w6 (H.out.below mono_md HB6.out)).mono ?_
    rintro e w7 ⟨rfl, hb7⟩
    have HB7 := Box.mk (below_tr HB6.out HB6.out.size hb7)
    have HS2e := Box.mk (HS2d.out.below mono_str hb7)
    have HS3e := Box.mk (HS3d.out.below mono_str hb7)
    clear hb7
    generalize vld ms = V at *
    go_wp2_with fail
    refine (c_SameTexts B1 nm d1 B2 d2 xs w7 HS2e.out HS3e.out).mono ?_
    rintro e w8 ⟨rfl, hb8⟩
    have HB8 := Box.mk (below_tr HB7.out HB7.out.size hb8)
    clear hb8
    go_wp2_with fail
    refine (c_known w8).mono ?_
    rintro e w9 ⟨rfl, hb9⟩
    have HB9 := Box.mk (below_tr HB8.out HB8.out.size hb9)
    clear hb9
    go_wp2_with fail
    go_ret
    exact ⟨rfl, HB9.out⟩
end Go.Proofs.Ytchhjldopecliaa
