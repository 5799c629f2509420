/-
What slices.IndexFunc and slices.ContainsFunc compute, against a closure's contract. No further conditions.
-/
import Derived.Test.YtchhjldopecliaaProg
import Derived.Test.YtchhjldopecliaaB2
import Derived.Shelf.Abstract
namespace Go.Proofs.Ytchhjldopecliaa
open Go.RowKit

def idxF {α : Type} (p : α → Bool) : List α → Nat → Int
  | [], _ => -1
  | x :: r, i => if p x then (i : Int) else idxF p r (i + 1)
theorem idxF_any {α : Type} (p : α → Bool) : ∀ (l : List α) (i : Nat), decide (0 ≤ idxF p l i) = l.any p
  | [], i => by simp [idxF]
  | x :: r, i => by
    unfold idxF
    cases h : p x
    · simp [h, idxF_any p r (i + 1)]
    · simp [h]
theorem idxF_drop {α : Type} {p : α → Bool} {xs : List α} {k : Nat} {x : α} (hx : xs[k]? = some x) (i : Nat) : idxF p (xs.drop k) i = if p x then (i : Int) else idxF p (xs.drop (k + 1)) (i + 1) := by
  obtain ⟨hk, rfl⟩ := List.getElem?_eq_some_iff.1 hx
  rw [List.drop_eq_getElem_cons hk, idxF]
theorem idxF_end {α : Type} {p : α → Bool} {xs : List α} {k i : Nat} (hk : xs.length ≤ k) : idxF p (xs.drop k) i = -1 := by
  rw [List.drop_of_length_le hk]; rfl

set_option maxRecDepth 100000 in
set_option maxHeartbeats 1000000 in
theorem c_IndexFunc_str (p : Str → Bool) (g : Nat) (lb : Array Value) (eg : ∀ args w, (callFunc g args).run Try.prog w = .ok (.enter g args) w)
    (A : Option Addr) (n c : Nat) (xs : List (Str)) (w : World) (h : SlR w 1 RStr A n c xs)
    (hp : ∀ x v W, x ∈ xs → RStr W x [v] → Below w.heap.size w W → Calls Try.prog g (#[v] ++ lb) W fun e w' => e = .returned (.bool (p x)) ∧ Below W.heap.size W w') :
    Calls Try.prog 78 #[.slice A n c, .func (.func g) #[] lb] w fun e w' => e = .returned (.int .i64 (idxF p xs 0)) ∧ Below w.heap.size w w' := by
  have hlim := h.lim
  have H := Box.mk h
  have HP := Box.mk hp
  clear h hp
  go_enter Try.func78, Try.ntmps78
  go_wp2_with fail
  go_loopw [5, 8] (fun _ i wr => ∃ k : Nat, k ≤ n ∧ i = .int .i64 k ∧ Box (Below w.heap.size w wr) ∧ Box (idxF p xs 0 = idxF p (xs.drop k) k)) (fun _ i _ => n - (intOf i).toNat)
  case atStart => exact ⟨0, Nat.zero_le _, rfl, ⟨Below.refl _ _⟩, ⟨by simp⟩⟩
  case round =>
    obtain ⟨k, hk, rfl, HB, HI⟩ := hrel
    by_cases hlt : k < n
    · obtain ⟨b, off, x, rfl, hb, hx, hs, hc⟩ := (H.out.below mono_str HB.out).str_at k hlt
      have HX := Box.mk hx
      have HS := Box.mk hs
      have HM := Box.mk (List.mem_iff_getElem?.2 ⟨k, hx⟩)
      clear hx hs
      go_wp2_with fail
      refine (HP.out x (.string x) wr HM.out ⟨rfl, HS.out⟩ HB.out).mono ?_
      rintro e w1 ⟨rfl, hb1⟩
      have HB1 := Box.mk (below_tr HB.out HB.out.size hb1)
      clear hb1
      generalize hpx : p x = P at *
      have HPX := Box.mk hpx
      clear hpx
      cases P
      · go_wp2_with fail
        go_roundw
        case rel => exact ⟨k + 1, by omega, by go_num, HB1, ⟨by rw [HI.out, idxF_drop HX.out, HPX.out]; rfl⟩⟩
        case measure => simp [intOf]; omega
      · go_wp2_with fail
        go_ret
        exact ⟨ret_int (by rw [HI.out, idxF_drop HX.out, HPX.out]; rfl), HB1.out⟩
    · go_wp2_with fail
      go_ret
      obtain rfl : k = n := by omega
      exact ⟨ret_int (by rw [HI.out, idxF_end (by rw [H.out.len]; exact Nat.le_refl _)]), HB.out⟩

set_option maxHeartbeats 1000000 in
theorem c_ContainsFunc_str (p : Str → Bool) (g : Nat) (lb : Array Value) (eg : ∀ args w, (callFunc g args).run Try.prog w = .ok (.enter g args) w)
    (A : Option Addr) (n c : Nat) (xs : List (Str)) (w : World) (h : SlR w 1 RStr A n c xs)
    (hp : ∀ x v W, x ∈ xs → RStr W x [v] → Below w.heap.size w W → Calls Try.prog g (#[v] ++ lb) W fun e w' => e = .returned (.bool (p x)) ∧ Below W.heap.size W w') :
    Calls Try.prog 80 #[.slice A n c, .func (.func g) #[] lb] w fun e w' => e = .returned (.bool (xs.any p)) ∧ Below w.heap.size w w' := by
  have C := Box.mk (c_IndexFunc_str p g lb eg A n c xs w h hp)
  have E := Box.mk (idxF_any p xs 0)
  clear h hp eg
  generalize idxF p xs 0 = z at C E
  generalize xs.any p = q at E ⊢
  go_enter Try.func80, Try.ntmps80
  go_wp2_with fail
  refine C.out.mono ?_
  rintro e w1 ⟨rfl, hb1⟩
  go_wp2_with fail
  go_ret
  exact ⟨rb (by rw [← E.out]), hb1⟩

set_option maxRecDepth 100000 in
set_option maxHeartbeats 1000000 in
theorem c_IndexFunc_int (p : Int → Bool) (g : Nat) (lb : Array Value) (eg : ∀ args w, (callFunc g args).run Try.prog w = .ok (.enter g args) w)
    (A : Option Addr) (n c : Nat) (xs : List (Int)) (w : World) (h : SlR w 1 RInt A n c xs)
    (hp : ∀ x v W, x ∈ xs → RInt W x [v] → Below w.heap.size w W → Calls Try.prog g (#[v] ++ lb) W fun e w' => e = .returned (.bool (p x)) ∧ Below W.heap.size W w') :
    Calls Try.prog 112 #[.slice A n c, .func (.func g) #[] lb] w fun e w' => e = .returned (.int .i64 (idxF p xs 0)) ∧ Below w.heap.size w w' := by
  have hlim := h.lim
  have H := Box.mk h
  have HP := Box.mk hp
  clear h hp
  go_enter Try.func112, Try.ntmps112
  go_wp2_with fail
  go_loopw [5, 8] (fun _ i wr => ∃ k : Nat, k ≤ n ∧ i = .int .i64 k ∧ Box (Below w.heap.size w wr) ∧ Box (idxF p xs 0 = idxF p (xs.drop k) k)) (fun _ i _ => n - (intOf i).toNat)
  case atStart => exact ⟨0, Nat.zero_le _, rfl, ⟨Below.refl _ _⟩, ⟨by simp⟩⟩
  case round =>
    obtain ⟨k, hk, rfl, HB, HI⟩ := hrel
    by_cases hlt : k < n
    · obtain ⟨b, off, x, rfl, hb, hx, hc⟩ := (H.out.below mono_int HB.out).int_at k hlt
      have hs : True := trivial
      have HX := Box.mk hx
      have HS := Box.mk hs
      have HM := Box.mk (List.mem_iff_getElem?.2 ⟨k, hx⟩)
      clear hx hs
      go_wp2_with fail
      refine (HP.out x (.int .i64 x) wr HM.out rfl HB.out).mono ?_
      rintro e w1 ⟨rfl, hb1⟩
      have HB1 := Box.mk (below_tr HB.out HB.out.size hb1)
      clear hb1
      generalize hpx : p x = P at *
      have HPX := Box.mk hpx
      clear hpx
      cases P
      · go_wp2_with fail
        go_roundw
        case rel => exact ⟨k + 1, by omega, by go_num, HB1, ⟨by rw [HI.out, idxF_drop HX.out, HPX.out]; rfl⟩⟩
        case measure => simp [intOf]; omega
      · go_wp2_with fail
        go_ret
        exact ⟨ret_int (by rw [HI.out, idxF_drop HX.out, HPX.out]; rfl), HB1.out⟩
    · go_wp2_with fail
      go_ret
      obtain rfl : k = n := by omega
      exact ⟨ret_int (by rw [HI.out, idxF_end (by rw [H.out.len]; exact Nat.le_refl _)]), HB.out⟩

set_option maxHeartbeats 1000000 in
theorem c_ContainsFunc_int (p : Int → Bool) (g : Nat) (lb : Array Value) (eg : ∀ args w, (callFunc g args).run Try.prog w = .ok (.enter g args) w)
    (A : Option Addr) (n c : Nat) (xs : List (Int)) (w : World) (h : SlR w 1 RInt A n c xs)
    (hp : ∀ x v W, x ∈ xs → RInt W x [v] → Below w.heap.size w W → Calls Try.prog g (#[v] ++ lb) W fun e w' => e = .returned (.bool (p x)) ∧ Below W.heap.size W w') :
    Calls Try.prog 95 #[.slice A n c, .func (.func g) #[] lb] w fun e w' => e = .returned (.bool (xs.any p)) ∧ Below w.heap.size w w' := by
  have C := Box.mk (c_IndexFunc_int p g lb eg A n c xs w h hp)
  have E := Box.mk (idxF_any p xs 0)
  clear h hp eg
  generalize idxF p xs 0 = z at C E
  generalize xs.any p = q at E ⊢
  go_enter Try.func95, Try.ntmps95
  go_wp2_with fail
  refine C.out.mono ?_
  rintro e w1 ⟨rfl, hb1⟩
  go_wp2_with fail
  go_ret
  exact ⟨rb (by rw [← E.out]), hb1⟩

set_option maxRecDepth 100000 in
set_option maxHeartbeats 1000000 in
theorem c_IndexFunc_strs (p : List Str → Bool) (g : Nat) (lb : Array Value) (eg : ∀ args w, (callFunc g args).run Try.prog w = .ok (.enter g args) w)
    (A : Option Addr) (n c : Nat) (xs : List (List Str)) (w : World) (h : SlR w 1 (RSl 1 RStr) A n c xs)
    (hp : ∀ x v W, x ∈ xs → (RSl 1 RStr) W x [v] → Below w.heap.size w W → Calls Try.prog g (#[v] ++ lb) W fun e w' => e = .returned (.bool (p x)) ∧ Below W.heap.size W w') :
    Calls Try.prog 111 #[.slice A n c, .func (.func g) #[] lb] w fun e w' => e = .returned (.int .i64 (idxF p xs 0)) ∧ Below w.heap.size w w' := by
  have hlim := h.lim
  have H := Box.mk h
  have HP := Box.mk hp
  clear h hp
  go_enter Try.func111, Try.ntmps111
  go_wp2_with fail
  go_loopw [5, 8] (fun _ i wr => ∃ k : Nat, k ≤ n ∧ i = .int .i64 k ∧ Box (Below w.heap.size w wr) ∧ Box (idxF p xs 0 = idxF p (xs.drop k) k)) (fun _ i _ => n - (intOf i).toNat)
  case atStart => exact ⟨0, Nat.zero_le _, rfl, ⟨Below.refl _ _⟩, ⟨by simp⟩⟩
  case round =>
    obtain ⟨k, hk, rfl, HB, HI⟩ := hrel
    by_cases hlt : k < n
    · obtain ⟨b, off, x, A1, n1, c1, rfl, hb, hx, hc, hs⟩ := (H.out.below (mono_sl mono_str) HB.out).sl_at k hlt
      have HX := Box.mk hx
      have HS := Box.mk hs
      have HM := Box.mk (List.mem_iff_getElem?.2 ⟨k, hx⟩)
      clear hx hs
      go_wp2_with fail
      refine (HP.out x (.slice A1 n1 c1) wr HM.out ⟨_, _, _, rfl, HS.out⟩ HB.out).mono ?_
      rintro e w1 ⟨rfl, hb1⟩
      have HB1 := Box.mk (below_tr HB.out HB.out.size hb1)
      clear hb1
      generalize hpx : p x = P at *
      have HPX := Box.mk hpx
      clear hpx
      cases P
      · go_wp2_with fail
        go_roundw
        case rel => exact ⟨k + 1, by omega, by go_num, HB1, ⟨by rw [HI.out, idxF_drop HX.out, HPX.out]; rfl⟩⟩
        case measure => simp [intOf]; omega
      · go_wp2_with fail
        go_ret
        exact ⟨ret_int (by rw [HI.out, idxF_drop HX.out, HPX.out]; rfl), HB1.out⟩
    · go_wp2_with fail
      go_ret
      obtain rfl : k = n := by omega
      exact ⟨ret_int (by rw [HI.out, idxF_end (by rw [H.out.len]; exact Nat.le_refl _)]), HB.out⟩

set_option maxHeartbeats 1000000 in
theorem c_ContainsFunc_strs (p : List Str → Bool) (g : Nat) (lb : Array Value) (eg : ∀ args w, (callFunc g args).run Try.prog w = .ok (.enter g args) w)
    (A : Option Addr) (n c : Nat) (xs : List (List Str)) (w : World) (h : SlR w 1 (RSl 1 RStr) A n c xs)
    (hp : ∀ x v W, x ∈ xs → (RSl 1 RStr) W x [v] → Below w.heap.size w W → Calls Try.prog g (#[v] ++ lb) W fun e w' => e = .returned (.bool (p x)) ∧ Below W.heap.size W w') :
    Calls Try.prog 91 #[.slice A n c, .func (.func g) #[] lb] w fun e w' => e = .returned (.bool (xs.any p)) ∧ Below w.heap.size w w' := by
  have C := Box.mk (c_IndexFunc_strs p g lb eg A n c xs w h hp)
  have E := Box.mk (idxF_any p xs 0)
  clear h hp eg
  generalize idxF p xs 0 = z at C E
  generalize xs.any p = q at E ⊢
  go_enter Try.func91, Try.ntmps91
  go_wp2_with fail
  refine C.out.mono ?_
  rintro e w1 ⟨rfl, hb1⟩
  go_wp2_with fail
  go_ret
  exact ⟨rb (by rw [← E.out]), hb1⟩
end Go.Proofs.Ytchhjldopecliaa
