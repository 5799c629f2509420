/-
What slices.Contains, room.enter and sum compute. Conditions: as each statement says.
-/
import Derived.Test.YtchhjldopecliaaL5
namespace Go.Proofs.Ytchhjldopecliaa
open Go.RowKit

set_option maxRecDepth 100000 in
set_option maxHeartbeats 1000000 in
theorem c_Index (s : Str) (A : Option Addr) (n c : Nat) (xs : List Str) (w : World) (h : SlR w 1 RStr A n c xs) :
    Calls Try.prog 90 #[.slice A n c, .string s] w fun e w' => e = .returned (.int .i64 (idxF (fun y => decide (s = y)) xs 0)) ∧ w = w' := by
  have hlim := h.lim
  have H := Box.mk h
  clear h
  go_enter Try.func90, Try.ntmps90
  go_wp2_with fail
  go_loop [5, 8] (fun _ i => ∃ k : Nat, k ≤ n ∧ i = .int .i64 k ∧ Box (idxF (fun y => decide (s = y)) xs 0 = idxF (fun y => decide (s = y)) (xs.drop k) k)) (fun _ i => n - (intOf i).toNat)
  case atStart => exact ⟨0, Nat.zero_le _, rfl, ⟨by simp⟩⟩
  case round =>
    obtain ⟨k, hk, rfl, HI⟩ := hrel
    by_cases hlt : k < n
    · obtain ⟨b, off, x, rfl, hb, hx, hs, hc⟩ := H.out.str_at k hlt
      have HX := Box.mk hx
      clear hx hs
      have hq : (ByteArray.toList s == ByteArray.toList x) = decide (s = x) := tleq s x
      generalize hpx : decide (s = x) = P at hq
      have HPX := Box.mk hpx
      clear hpx
      cases P
      · go_wp2_with fail
        go_round
        case rel => exact ⟨k + 1, by omega, by go_num, ⟨by rw [HI.out, idxF_drop HX.out, HPX.out]; rfl⟩⟩
        case measure => simp [intOf]; omega
      · go_wp2_with fail
        go_ret
        exact ⟨ret_int (by rw [HI.out, idxF_drop HX.out, HPX.out]; rfl), rfl⟩
    · go_wp2_with fail
      go_ret
      obtain rfl : k = n := by omega
      exact ⟨ret_int (by rw [HI.out, idxF_end (by rw [H.out.len]; exact Nat.le_refl _)]), rfl⟩

theorem c_Contains (s : Str) (A : Option Addr) (n c : Nat) (xs : List Str) (w : World) (h : SlR w 1 RStr A n c xs) :
    Calls Try.prog 47 #[.slice A n c, .string s] w fun e w' => e = .returned (.bool (decide (s ∈ xs))) ∧ w = w' := by
  have C := Box.mk (c_Index s A n c xs w h)
  have E : Box (decide (0 ≤ idxF (fun y => decide (s = y)) xs 0) = decide (s ∈ xs)) := ⟨by
    rw [idxF_any, Bool.eq_iff_iff]; simp⟩
  clear h
  generalize idxF (fun y => decide (s = y)) xs 0 = z at C E
  generalize decide (s ∈ xs) = q at E ⊢
  go_enter Try.func47, Try.ntmps47
  go_wp2_with fail
  refine C.out.mono ?_
  rintro e w1 ⟨rfl, rfl⟩
  go_wp2_with fail
  go_ret
  exact ⟨rb (by rw [← E.out]), rfl⟩

/-- The room behind an entry. -/
def entR (r : Int × Int) (o : Int) : Int × Int := if o = 0 ∨ o = r.1 then r else (o, r.2 + 1)
set_option maxHeartbeats 1000000 in
theorem c_enter (a l o : Int) (w : World) (hl : 0 ≤ l ∧ l ≤ 100000) :
    Calls Try.prog 46 #[.agg #[.int .i64 a, .int .i64 l], .int .i64 o] w fun e w' =>
      e = .returned (.agg #[.int .i64 (entR (a, l) o).1, .int .i64 (entR (a, l) o).2]) ∧ Below w.heap.size w w' := by
  by_cases h0 : o = 0
  · have hr : entR (a, l) o = (a, l) := by simp [entR, h0]
    rw [hr]
    clear hr
    subst h0
    go_enter Try.func46, Try.ntmps46
    go_wp2_with fail
    exact bodyPost_ret (v := .agg #[.int .i64 a, .int .i64 l]) (by simp [results, Try.results46, go_sem]) rfl ⟨rfl, ((Below.refl _ w).alloc (Nat.le_refl _) _).alloc (by simp) _⟩
  · have d0 : ((o : Int) == 0) = false := by simpa using h0
    by_cases h1 : o = a
    · have hr : entR (a, l) o = (a, l) := by simp [entR, h1]
      rw [hr]
      clear hr
      subst h1
      go_enter Try.func46, Try.ntmps46
      go_wp2_with fail
      exact bodyPost_ret (v := .agg #[.int .i64 o, .int .i64 l]) (by simp [results, Try.results46, go_sem]) rfl ⟨rfl, ((Below.refl _ w).alloc (Nat.le_refl _) _).alloc (by simp) _⟩
    · have d1 : ((o : Int) == a) = false := by simpa using h1
      have hr : entR (a, l) o = (o, l + 1) := by simp [entR, h0, h1]
      rw [hr]
      clear hr h0 h1
      go_enter Try.func46, Try.ntmps46
      go_wp2_with fail
      exact bodyPost_ret (v := .agg #[.int .i64 o, .int .i64 (l + 1)]) (by simp [results, Try.results46, go_sem]) rfl ⟨rfl, ((Below.refl _ w).alloc (Nat.le_refl _) _).alloc (by simp) _⟩

theorem c_sum (A : Option Addr) (n c : Nat) (xs : List Int) (w : World) (h : SlR w 1 RInt A n c xs) (hn : n ≤ 1000000) (hx : ∀ x ∈ xs, 0 ≤ x ∧ x ≤ 10000) :
    Calls Try.prog 98 #[.slice A n c] w fun e w' => e = .returned (.int .i64 xs.sum) ∧ w = w' := by
  have H := Box.mk h
  have HX := Box.mk hx
  have HS : Box (∀ k, k ≤ n → 0 ≤ (xs.take k).sum ∧ (xs.take k).sum ≤ k * 10000) := ⟨by
    have : ∀ l : List Int, (∀ x ∈ l, 0 ≤ x ∧ x ≤ 10000) → 0 ≤ l.sum ∧ l.sum ≤ l.length * 10000 := by
      intro l
      induction l with
      | nil => intro _; simp
      | cons x r ih =>
        intro hl
        have h1 := ih (fun m hm => hl m (List.mem_cons_of_mem _ hm))
        have h2 := hl x (List.mem_cons_self ..)
        simp only [List.sum_cons, List.length_cons]
        omega
    intro k hk
    have h1 := this (xs.take k) (fun m hm => hx m (List.mem_of_mem_take hm))
    have h2 : (xs.take k).length ≤ k := List.length_take_le ..
    omega⟩
  clear h hx
  go_enter Try.func98, Try.ntmps98
  go_wp2_with fail
  go_loop [3, 5, 8] (fun t _ i => ∃ k : Nat, k ≤ n ∧ i = .int .i64 k ∧ t = .int .i64 (xs.take k).sum) (fun _ _ i => n - (intOf i).toNat)
  case atStart => exact ⟨0, Nat.zero_le _, rfl, rfl⟩
  case round =>
    obtain ⟨k, hk, rfl, rfl⟩ := hrel
    by_cases hlt : k < n
    · obtain ⟨b, off, x, rfl, hb, hx, hc⟩ := H.out.int_at k hlt
      have h1 := HS.out k hk
      have h2 := HX.out x (List.mem_iff_getElem?.2 ⟨k, hx⟩)
      have HE : Box ((xs.take (k + 1)).sum = (xs.take k).sum + x) := ⟨by rw [List.take_add_one, hx]; simp⟩
      clear hx
      generalize (xs.take k).sum = z at h1 HE
      go_wp2_with fail
      go_round
      case rel => exact ⟨k + 1, by omega, by go_num, vi (by rw [HE.out])⟩
      case measure => simp [intOf]; omega
    · go_wp2_with fail
      go_ret
      obtain rfl : k = n := by omega
      exact ⟨ret_int (by rw [List.take_of_length_le (by rw [H.out.len]; exact Nat.le_refl _)]), rfl⟩
end Go.Proofs.Ytchhjldopecliaa
