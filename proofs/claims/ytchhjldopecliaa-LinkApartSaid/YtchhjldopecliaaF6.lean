/-
What the reference's find computes. Condition: a slice of procedures.
-/
import Derived.Test.YtchhjldopecliaaF5
namespace Go.Proofs.Ytchhjldopecliaa
open Go.RowKit

/-- The number of a procedure, or -1. -/
def fdx (x : Str) (ps : List Pc) : Int := idxF (fun p => decide (p.nm = x)) ps 0
theorem idxF_ge {α : Type} (p : α → Bool) : ∀ (l : List α) (i : Nat), idxF p l i = -1 ∨ (i : Int) ≤ idxF p l i
  | [], i => .inl rfl
  | x :: r, i => by
    unfold idxF
    split
    · right; omega
    · rcases idxF_ge p r (i + 1) with h | h
      · exact .inl h
      · right; omega
theorem idxF_find {α : Type} (p : α → Bool) : ∀ (l : List α) (i : Nat), (idxF p l i = -1 ∧ l.find? p = none) ∨ ∃ k x, idxF p l i = ((i + k : Nat) : Int) ∧ l[k]? = some x ∧ l.find? p = some x
  | [], i => .inl ⟨rfl, rfl⟩
  | x :: r, i => by
    unfold idxF
    by_cases h : p x = true
    · right
      exact ⟨0, x, by simp [h], rfl, by simp [h]⟩
    · rcases idxF_find p r (i + 1) with ⟨h1, h2⟩ | ⟨k, y, h1, h2, h3⟩
      · left
        exact ⟨by simp [h, h1], by simp [h, h2]⟩
      · right
        refine ⟨k + 1, y, ?_, by simpa using h2, by simp [h, h3]⟩
        simp only [h, h1]
        simp
        omega
theorem fdx_spec (x : Str) (ps : List Pc) : (fdx x ps = -1 ∧ fnd x ps = none) ∨ ∃ (k : Nat) (p : Pc), fdx x ps = k ∧ ps[k]? = some p ∧ fnd x ps = some p := by
  rcases idxF_find (fun p : Pc => decide (p.nm = x)) ps 0 with ⟨h1, h2⟩ | ⟨k, p, h1, h2, h3⟩
  · exact .inl ⟨h1, h2⟩
  · refine .inr ⟨k, p, ?_, h2, h3⟩
    rw [fdx, h1]
    simp

set_option maxRecDepth 100000 in
set_option maxHeartbeats 1000000 in
theorem r_find (x : Str) (A : Option Addr) (n c : Nat) (ps : List Pc) (w : World) (h : SlR w 4 RPc A n c ps) :
    Calls Try.prog 52 #[.slice A n c, .string x] w fun e w' => e = .returned (.int .i64 (fdx x ps)) ∧ w = w' := by
  have hlim := h.lim
  have H := Box.mk h
  clear h
  go_enter Try.func52, Try.ntmps52
  go_wp2_with fail
  go_loop [5] (fun i => ∃ k : Nat, k ≤ n ∧ i = .int .i64 k ∧ Box (fdx x ps = idxF (fun p => decide (p.nm = x)) (ps.drop k) k)) (fun i => n - (intOf i).toNat)
  case atStart => exact ⟨0, Nat.zero_le _, rfl, ⟨by simp [fdx]⟩⟩
  case round =>
    obtain ⟨k, hk, rfl, HI⟩ := hrel
    by_cases hlt : k < n
    · obtain ⟨b, off, p, A1, n1, c1, rfl, hb, hp, _, _, h0, h1, h2, h3⟩ := H.out.pc_at k hlt
      have HX := Box.mk hp
      clear hp h1 h2 h3
      have hq : (ByteArray.toList p.nm == ByteArray.toList x) = decide (p.nm = x) := tleq p.nm x
      generalize hpx : decide (p.nm = x) = P at hq
      have HPX := Box.mk hpx
      clear hpx
      cases P
      · go_wp2_with fail
        go_round
        case rel => exact ⟨k + 1, by omega, by go_num, ⟨by rw [HI.out, idxF_drop HX.out, HPX.out]; rfl⟩⟩
        case measure => simp [intOf]; omega
      · go_wp2_with fail
        go_ret
        exact ⟨ret_int (by rw [HI.out, idxF_drop HX.out, HPX.out]; rfl), rfl⟩
    · go_wp2_with fail
      go_ret
      obtain rfl : k = n := by omega
      exact ⟨ret_int (by rw [HI.out, idxF_end (by rw [H.out.len]; exact Nat.le_refl _)]), rfl⟩
end Go.Proofs.Ytchhjldopecliaa
