/-
What Sizes computes. Condition: the argument is a slice of modules.
-/
import Derived.Test.YtchhjldopecliaaL12
namespace Go.Proofs.Ytchhjldopecliaa
open Go.RowKit

/-- What Sizes tells: the root's size, the room's, the error. -/
def szs (ms : List Md) : Int × Int × Int := if vld ms ≠ 0 then (0, 0, vld ms) else (endAt ms 0, mxL (endsL ms).tail, 0)

theorem Arr.tail_sl {w : World} {r : Nat} {l : List Int} (h : Arr w r l) (hl : l.length = 16) : SlR w 1 RInt (some ⟨r, 1, none⟩) 15 15 l.tail := by
  refine ⟨by simp [hl], Nat.le_refl _, by decide, fun _ => ⟨r, 1, rfl, h.lt, fun i x hx => ⟨[.int .i64 x], rfl, rfl, fun j u hu => ?_⟩⟩⟩
  match j, hu with
  | 0, hu =>
    have hu : Value.int .i64 x = u := by simpa using hu
    subst hu
    have : l[i + 1]? = some x := by rw [← List.getElem?_tail]; exact hx
    have := h.cell this
    rw [Nat.mul_one, Nat.add_zero, Nat.add_comm]
    exact this
  | j + 1, hu => simp at hu
theorem ret3 {a b c a' b' c' : Int} (h1 : a = a') (h2 : b = b') (h3 : c = c') : Ending.returned (.tuple #[.int .i64 a, .int .i64 b, .int .i64 c]) = .returned (.tuple #[.int .i64 a', .int .i64 b', .int .i64 c']) := by rw [h1, h2, h3]

set_option maxRecDepth 100000 in
set_option maxHeartbeats 2000000 in
theorem c_Sizes (A : Option Addr) (n c : Nat) (ms : List Md) (w : World) (h : SlR w 5 RMd A n c ms) :
    Calls Try.prog 22 #[.slice A n c] w fun e w' => e = .returned (.tuple #[.int .i64 (szs ms).1, .int .i64 (szs ms).2.1, .int .i64 (szs ms).2.2]) ∧ Below w.heap.size w w' := by
  have hlim := h.lim
  have H := Box.mk h
  clear h
  go_enter Try.func22, Try.ntmps22
  go_wp2_with fail
  refine (c_Validate A n c ms w H.out).mono ?_
  rintro e w1 ⟨rfl, hb1⟩
  have HB1 := Box.mk hb1
  clear hb1
  generalize hv : vld ms = V
  by_cases h0 : V = 0
  · subst h0
    have HG := Box.mk (vld_good hv)
    have HV : Box (szs ms = (endAt ms 0, mxL (endsL ms).tail, 0)) := ⟨by simp [szs, hv]⟩
    have C := Box.mk (c_ends A n c ms w1 (H.out.below mono_md HB1.out) HG.out)
    have hE : (endsL ms)[0]? = some (endAt ms 0) := by simp [endsL]
    have HE := Box.mk hE
    clear hv hE
    have hl := endsL_length ms
    generalize hq : endsL ms = Q at *
    clear hq
    match Q, hl, C, HV, HE with
    | [x0, x1, x2, x3, x4, x5, x6, x7, x8, x9, x10, x11, x12, x13, x14, x15], _, C, HV, HE =>
      go_wp2_with fail
      refine C.out.mono ?_
      rintro e w2 ⟨rfl, hb2⟩
      have HB2 := Box.mk (below_tr HB1.out HB1.out.size hb2)
      clear hb2
      have HA : Box (Arr (w2.alloc (.cells #[.int .i64 x0, .int .i64 x1, .int .i64 x2, .int .i64 x3, .int .i64 x4, .int .i64 x5, .int .i64 x6, .int .i64 x7, .int .i64 x8, .int .i64 x9, .int .i64 x10, .int .i64 x11, .int .i64 x12, .int .i64 x13, .int .i64 x14, .int .i64 x15] 77)) w2.heap.size [x0, x1, x2, x3, x4, x5, x6, x7, x8, x9, x10, x11, x12, x13, x14, x15]) := ⟨heap_alloc_new w2 _⟩
      have HB3 : Box (Below w.heap.size w (w2.alloc (.cells #[.int .i64 x0, .int .i64 x1, .int .i64 x2, .int .i64 x3, .int .i64 x4, .int .i64 x5, .int .i64 x6, .int .i64 x7, .int .i64 x8, .int .i64 x9, .int .i64 x10, .int .i64 x11, .int .i64 x12, .int .i64 x13, .int .i64 x14, .int .i64 x15] 77))) := ⟨bel_alloc2 HB2.out _⟩
      simp only [List.map_cons, List.map_nil]
      go_upto_region 5 with fail
      generalize (w2.alloc (.cells #[.int .i64 x0, .int .i64 x1, .int .i64 x2, .int .i64 x3, .int .i64 x4, .int .i64 x5, .int .i64 x6, .int .i64 x7, .int .i64 x8, .int .i64 x9, .int .i64 x10, .int .i64 x11, .int .i64 x12, .int .i64 x13, .int .i64 x14, .int .i64 x15] 77)) = W at *
      have d0 := HA.out.cell (j := 0) rfl
      have CM : Box (∀ W' : World, W'.heap = W.heap → Calls Try.prog 57 #[.slice (some ⟨w2.heap.size, 1, none⟩) 15 15] W' fun e w' => e = .returned (.int .i64 (mxL [x1, x2, x3, x4, x5, x6, x7, x8, x9, x10, x11, x12, x13, x14, x15])) ∧ W' = w') := ⟨fun W' hW => c_Max _ 15 15 _ W' (Arr.tail_sl (l := [x0, x1, x2, x3, x4, x5, x6, x7, x8, x9, x10, x11, x12, x13, x14, x15]) ((congrArg (·[w2.heap.size]?) hW).trans HA.out) rfl) (by decide)⟩
      go_region_with (refine (CM.out _ ?_).mono ?_; rfl; rintro e w' ⟨rfl, rfl⟩)
      all_goals
        clear CM C
        go_wp2_with fail
        go_ret3
        exact ⟨ret3 (by rw [HV.out]; have := HE.out; simpa using this) (by rw [HV.out]; rfl) (by rw [HV.out]), ⟨HB3.out.os, HB3.out.tape, HB3.out.output, HB3.out.size, HB3.out.block⟩⟩
  · have HO : Box (szs ms = (0, 0, V)) := ⟨by simp [szs, hv, h0]⟩
    have h0' : ¬ ((V : Int) == 0) = true := by simpa using h0
    clear hv
    go_wp2_with fail
    go_ret3
    exact ⟨ret3 (by rw [HO.out]) (by rw [HO.out]) (by rw [HO.out]), HB1.out⟩
end Go.Proofs.Ytchhjldopecliaa
