/-
What isLarge computes. Condition: the argument is a slice of modules.
-/
import Derived.Test.YtchhjldopecliaaL3
namespace Go.Proofs.Ytchhjldopecliaa
open Go.RowKit

/-! ### the first of Validate's tests -/
def sumL (ms : List Md) : Nat := (ms.map fun m => m.pr.length).sum
def longC (m : Md) : Bool := m.cl.any fun l => decide (100 < l.length)
def largeB (ms : List Md) : Bool := ms.any longC || (decide (32 < ms.length) || decide (100 < sumL ms))

theorem sumL_take {ms : List Md} {k : Nat} {m : Md} (h : ms[k]? = some m) : sumL (ms.take (k + 1)) = sumL (ms.take k) + m.pr.length := by
  unfold sumL
  rw [List.take_add_one, h]
  simp
theorem sumL_le {ms : List Md} {k : Nat} (hk : k ≤ 32) (h : ∀ m ∈ ms, m.pr.length ≤ 140737488351232) : sumL (ms.take k) ≤ k * 140737488351232 := by
  have : ∀ l : List Md, (∀ m ∈ l, m.pr.length ≤ 140737488351232) → sumL l ≤ l.length * 140737488351232 := by
    intro l
    induction l with
    | nil => intro _; simp [sumL]
    | cons x r ih =>
      intro hl
      have h1 := ih (fun m hm => hl m (List.mem_cons_of_mem _ hm))
      have h2 := hl x (List.mem_cons_self ..)
      simp only [sumL, List.map_cons, List.sum_cons, List.length_cons] at h1 ⊢
      omega
  have h1 := this (ms.take k) (fun m hm => h m (List.mem_of_mem_take hm))
  have h2 : (ms.take k).length ≤ k := List.length_take_le ..
  exact Nat.le_trans h1 (Nat.mul_le_mul_right _ h2)

theorem anyTake_succ {α : Type} {p : α → Bool} {xs : List α} {k : Nat} {x : α} (hx : xs[k]? = some x) (h : (xs.take k).any p = false) (hp : p x = false) : (xs.take (k + 1)).any p = false := by
  rw [List.take_add_one, hx]
  simp [List.any_append, h, hp]
theorem any_of_at {α : Type} {p : α → Bool} {xs : List α} {k : Nat} {x : α} (hx : xs[k]? = some x) (hp : p x = true) : xs.any p = true :=
  List.any_eq_true.2 ⟨x, List.mem_iff_getElem?.2 ⟨k, hx⟩, hp⟩

theorem ent_large1 : ∀ args w, (callFunc 92 args).run Try.prog w = .ok (.enter 92 args) w := enters_of Try.func92 (by kernel_rfl) rfl

set_option maxRecDepth 100000 in
set_option maxHeartbeats 1000000 in
theorem c_isLarge (A : Option Addr) (n c : Nat) (ms : List Md) (w : World) (h : SlR w 5 RMd A n c ms) :
    Calls Try.prog 48 #[.slice A n c] w fun e w' => e = .returned (.bool (largeB ms)) ∧ Below w.heap.size w w' := by
  have hlim := h.lim
  have HLE : Box (∀ m ∈ ms, m.pr.length ≤ 140737488351232) := ⟨fun m hm => by
    obtain ⟨i, hi⟩ := List.mem_iff_getElem?.1 hm
    have hlt : i < n := by rw [← h.len]; exact (List.getElem?_eq_some_iff.1 hi).1
    obtain ⟨b, off, m', A1, n1, c1, A2, n2, c2, A3, n3, c3, _, _, hm', hM, _⟩ := h.md_at i hlt
    rw [hi] at hm'
    injection hm' with hm'
    subst hm'
    have := hM.pr.lim
    rw [hM.pr.len]
    exact this⟩
  have H := Box.mk h
  clear h
  go_enter Try.func48, Try.ntmps48
  go_wp2_with fail
  go_loopw [2, 3, 5, 8] (fun _ t _ i wr => ∃ k : Nat, k ≤ n ∧ i = .int .i64 k ∧ (∃ z, t = .int .i64 z ∧ Box (k ≤ 32 → z = sumL (ms.take k))) ∧ Box (Below w.heap.size w wr) ∧ Box ((ms.take k).any longC = false)) (fun _ _ _ i _ => n - (intOf i).toNat)
  case atStart => exact ⟨0, Nat.zero_le _, rfl, ⟨_, rfl, ⟨fun _ => by simp [sumL]⟩⟩, ⟨Below.refl _ _⟩, ⟨by simp⟩⟩
  case round =>
    obtain ⟨k, hk, rfl, ⟨z, rfl, HZ⟩, HB, HA⟩ := hrel
    by_cases hlt : k < n
    · obtain ⟨b, off, m, A1, n1, c1, A2, n2, c2, A3, n3, c3, rfl, hb, hm, hM, h0, h1, h2, h3, h4⟩ := (H.out.below mono_md HB.out).md_at k hlt
      have HM := Box.mk hM
      have HX := Box.mk hm
      clear hM hm
      have hn1 := HM.out.pr.lim
      have HN1 := Box.mk HM.out.pr.len
      go_wp2_with fail
      refine (c_ContainsFunc_strs (fun l => decide (100 < l.length)) 92 #[] ent_large1 A3 n3 c3 m.cl _ (HM.out.cl.below (mono_sl mono_str) (bel_alloc _ _)) ?_).mono ?_
      · rintro x v W _ ⟨A', n', c', hv, hx⟩ _
        obtain rfl : v = .slice A' n' c' := by simpa using hv
        have := c_large1 A' n' c' W
        rw [← hx.len] at this
        rw [← hx.len]
        exact this
      rintro e w1 ⟨rfl, hb1⟩
      have HB1 := Box.mk (below_tr (bel_alloc2 HB.out _) (by simp; have := HB.out.size; omega) hb1)
      clear hb1
      generalize hpx : (m.cl.any fun l => decide (100 < l.length)) = P at *
      have HPX : Box (longC m = P) := ⟨hpx⟩
      clear hpx
      cases P
      · go_wp2_with fail
        go_roundw
        case rel =>
          refine ⟨k + 1, by omega, by go_num, ⟨_, rfl, ⟨fun h32 => ?_⟩⟩, HB1, ⟨anyTake_succ HX.out HA.out HPX.out⟩⟩
          have e1 := HZ.out (by omega)
          have e2 := sumL_le (ms := ms) (k := k) (by omega) HLE.out
          rw [sumL_take HX.out, HN1.out, e1]
          unfold wrap64
          omega
        case measure => simp [intOf]; omega
      · go_wp2_with fail
        go_ret
        refine ⟨rb ?_, HB1.out⟩
        simp [largeB, any_of_at HX.out HPX.out]
    · obtain rfl : k = n := by omega
      by_cases h32 : 32 < k
      · go_wp2_with fail
        go_ret
        refine ⟨rb ?_, HB.out⟩
        simp [largeB, H.out.len, h32]
      · have e1 := HZ.out (by omega)
        have E1 := Box.mk e1
        clear e1
        go_wp2_with fail
        go_ret
        refine ⟨rb ?_, HB.out⟩
        have e3 : ms.take k = ms := List.take_of_length_le (by rw [H.out.len]; exact Nat.le_refl _)
        have e2 := HA.out
        have e4 := E1.out
        rw [e3] at e2 e4
        simp only [largeB, e2, H.out.len, e4]
        simp
        omega
end Go.Proofs.Ytchhjldopecliaa
