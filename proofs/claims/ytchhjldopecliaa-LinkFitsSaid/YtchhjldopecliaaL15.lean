/-
That the document's example comes out as the document says. No conditions.
-/
import Derived.Test.YtchhjldopecliaaL14
namespace Go.Proofs.Ytchhjldopecliaa
open Go.RowKit

/-! ### the document's example -/
def sA : Str := ⟨#[65]⟩
def sB : Str := ⟨#[66]⟩
def sM : Str := ⟨#[77]⟩
def sN : Str := ⟨#[78]⟩
def exMs : List Md := [⟨sM, 1, [sA], [10], [[sB]]⟩, ⟨sN, 2, [sB], [20], [[]]⟩]

theorem exMs_vld : vld exMs = 0 := by decide
theorem exMs_prs : prs exMs = [⟨sA, 1, 10, [sB]⟩, ⟨sB, 2, 20, []⟩] := rfl
theorem exMs_miss : missS (prs exMs) = [] := by
  have : missL (prs exMs) = [] := by decide
  rw [missS, this, setS_nil]
theorem exMs_opn : opn exMs = 0 := by
  unfold opn
  rw [exMs_vld, exMs_miss]
  rfl
theorem exMs_opf : opf exMs sA = 0 := by
  unfold opf
  rw [exMs_opn]
  decide
theorem exMs_lds : lds exMs sA [sB, ByteArray.empty] = (3, 0) := by
  unfold lds
  rw [exMs_opf]
  decide
theorem exMs_szs : szs exMs = (0, 20, 0) := by
  unfold szs
  rw [exMs_vld]
  decide

theorem slr_one {α : Type} {w : World} {R : World → α → List Value → Prop} {b : Nat} {x : α} {v : Value} (hb : b < w.heap.size) (h : R w x [v]) (hc : w.cell? ⟨b, 0, none⟩ = some v) : SlR w 1 R (some ⟨b, 0, none⟩) 1 1 [x] := by
  refine ⟨rfl, Nat.le_refl _, by decide, fun _ => ⟨b, 0, rfl, hb, fun i y hy => ?_⟩⟩
  match i, hy with
  | 0, hy =>
    obtain rfl : x = y := by simpa using hy
    refine ⟨[v], rfl, h, fun j u hu => ?_⟩
    match j, hu with
    | 0, hu => simp at hu; subst hu; simpa using hc
    | j + 1, hu => simp at hu
  | i + 1, hy => simp at hy
theorem slr_nil {α : Type} (w : World) (sz : Nat) (R : World → α → List Value → Prop) (A : Option Addr) (c : Nat) : SlR w sz R A 0 c [] := ⟨rfl, Nat.zero_le _, by decide, fun h => absurd h (Nat.lt_irrefl 0)⟩

theorem cell_new (w : World) (cs : Array Value) (t : TypeId) {p j : Nat} {v : Value} (hp : p = w.heap.size) (h : cs[j]? = some v) : (w.alloc (.cells cs t)).cell? ⟨p, j, none⟩ = some v := by
  subst hp
  have e := heap_alloc_new w (.cells cs t)
  simp only [World.cell?, e]
  simpa using h
theorem cell_al {w : World} (o : Obj) {p j : Nat} {v : Value} (h : w.cell? ⟨p, j, none⟩ = some v) : (w.alloc o).cell? ⟨p, j, none⟩ = some v :=
  cellk (bel_alloc w o) (World.block_lt_of_cell? w _ h) h

theorem ex_world (w : World) (p0 p1 p2 p3 p4 p5 p6 p7 : Nat) (h0 : p0 = w.heap.size) (h1 : p1 = p0 + 1) (h2 : p2 = p1 + 1) (h3 : p3 = p2 + 1) (h4 : p4 = p3 + 1) (h5 : p5 = p4 + 1) (h6 : p6 = p5 + 1) (h7 : p7 = p6 + 1) :
    SlR ((((((((w.alloc (.cells #[.string sA] 9)).alloc (.cells #[.int .i64 10] 3)).alloc (.cells #[.string sB] 9)).alloc (.cells #[.slice (some ⟨p2, 0, none⟩) 1 1] 23)).alloc (.cells #[.string sB] 9)).alloc (.cells #[.int .i64 20] 3)).alloc (.cells #[.slice none 0 0] 23)).alloc (.cells #[.string sM, .int .i64 1, .slice (some ⟨p0, 0, none⟩) 1 1, .slice (some ⟨p1, 0, none⟩) 1 1, .slice (some ⟨p3, 0, none⟩) 1 1, .string sN, .int .i64 2, .slice (some ⟨p4, 0, none⟩) 1 1, .slice (some ⟨p5, 0, none⟩) 1 1, .slice (some ⟨p6, 0, none⟩) 1 1] 33)) 5 RMd (some ⟨p7, 0, none⟩) 2 2 exMs ∧ Below w.heap.size w ((((((((w.alloc (.cells #[.string sA] 9)).alloc (.cells #[.int .i64 10] 3)).alloc (.cells #[.string sB] 9)).alloc (.cells #[.slice (some ⟨p2, 0, none⟩) 1 1] 23)).alloc (.cells #[.string sB] 9)).alloc (.cells #[.int .i64 20] 3)).alloc (.cells #[.slice none 0 0] 23)).alloc (.cells #[.string sM, .int .i64 1, .slice (some ⟨p0, 0, none⟩) 1 1, .slice (some ⟨p1, 0, none⟩) 1 1, .slice (some ⟨p3, 0, none⟩) 1 1, .string sN, .int .i64 2, .slice (some ⟨p4, 0, none⟩) 1 1, .slice (some ⟨p5, 0, none⟩) 1 1, .slice (some ⟨p6, 0, none⟩) 1 1] 33)) := by
  obtain ⟨w1, hw1⟩ : ∃ W, W = w.alloc (.cells #[.string sA] 9) := ⟨_, rfl⟩
  obtain ⟨w2, hw2⟩ : ∃ W, W = w1.alloc (.cells #[.int .i64 10] 3) := ⟨_, rfl⟩
  obtain ⟨w3, hw3⟩ : ∃ W, W = w2.alloc (.cells #[.string sB] 9) := ⟨_, rfl⟩
  obtain ⟨w4, hw4⟩ : ∃ W, W = w3.alloc (.cells #[.slice (some ⟨p2, 0, none⟩) 1 1] 23) := ⟨_, rfl⟩
  obtain ⟨w5, hw5⟩ : ∃ W, W = w4.alloc (.cells #[.string sB] 9) := ⟨_, rfl⟩
  obtain ⟨w6, hw6⟩ : ∃ W, W = w5.alloc (.cells #[.int .i64 20] 3) := ⟨_, rfl⟩
  obtain ⟨w7, hw7⟩ : ∃ W, W = w6.alloc (.cells #[.slice none 0 0] 23) := ⟨_, rfl⟩
  obtain ⟨w8, hw8⟩ : ∃ W, W = w7.alloc (.cells #[.string sM, .int .i64 1, .slice (some ⟨p0, 0, none⟩) 1 1, .slice (some ⟨p1, 0, none⟩) 1 1, .slice (some ⟨p3, 0, none⟩) 1 1, .string sN, .int .i64 2, .slice (some ⟨p4, 0, none⟩) 1 1, .slice (some ⟨p5, 0, none⟩) 1 1, .slice (some ⟨p6, 0, none⟩) 1 1] 33) := ⟨_, rfl⟩
  rw [← hw1, ← hw2, ← hw3, ← hw4, ← hw5, ← hw6, ← hw7, ← hw8]
  have s1 : w1.heap.size = w.heap.size + 1 := by rw [hw1]; simp
  have s2 : w2.heap.size = w1.heap.size + 1 := by rw [hw2]; simp
  have s3 : w3.heap.size = w2.heap.size + 1 := by rw [hw3]; simp
  have s4 : w4.heap.size = w3.heap.size + 1 := by rw [hw4]; simp
  have s5 : w5.heap.size = w4.heap.size + 1 := by rw [hw5]; simp
  have s6 : w6.heap.size = w5.heap.size + 1 := by rw [hw6]; simp
  have s7 : w7.heap.size = w6.heap.size + 1 := by rw [hw7]; simp
  have s8 : w8.heap.size = w7.heap.size + 1 := by rw [hw8]; simp
  have e0 : w1.cell? ⟨p0, 0, none⟩ = some (.string sA) := by rw [hw1]; exact cell_new _ _ _ (by omega) rfl
  replace e0 : w2.cell? ⟨p0, 0, none⟩ = some (.string sA) := by rw [hw2]; exact cell_al _ e0
  replace e0 : w3.cell? ⟨p0, 0, none⟩ = some (.string sA) := by rw [hw3]; exact cell_al _ e0
  replace e0 : w4.cell? ⟨p0, 0, none⟩ = some (.string sA) := by rw [hw4]; exact cell_al _ e0
  replace e0 : w5.cell? ⟨p0, 0, none⟩ = some (.string sA) := by rw [hw5]; exact cell_al _ e0
  replace e0 : w6.cell? ⟨p0, 0, none⟩ = some (.string sA) := by rw [hw6]; exact cell_al _ e0
  replace e0 : w7.cell? ⟨p0, 0, none⟩ = some (.string sA) := by rw [hw7]; exact cell_al _ e0
  replace e0 : w8.cell? ⟨p0, 0, none⟩ = some (.string sA) := by rw [hw8]; exact cell_al _ e0
  have e1 : w2.cell? ⟨p1, 0, none⟩ = some (.int .i64 10) := by rw [hw2]; exact cell_new _ _ _ (by omega) rfl
  replace e1 : w3.cell? ⟨p1, 0, none⟩ = some (.int .i64 10) := by rw [hw3]; exact cell_al _ e1
  replace e1 : w4.cell? ⟨p1, 0, none⟩ = some (.int .i64 10) := by rw [hw4]; exact cell_al _ e1
  replace e1 : w5.cell? ⟨p1, 0, none⟩ = some (.int .i64 10) := by rw [hw5]; exact cell_al _ e1
  replace e1 : w6.cell? ⟨p1, 0, none⟩ = some (.int .i64 10) := by rw [hw6]; exact cell_al _ e1
  replace e1 : w7.cell? ⟨p1, 0, none⟩ = some (.int .i64 10) := by rw [hw7]; exact cell_al _ e1
  replace e1 : w8.cell? ⟨p1, 0, none⟩ = some (.int .i64 10) := by rw [hw8]; exact cell_al _ e1
  have e2 : w3.cell? ⟨p2, 0, none⟩ = some (.string sB) := by rw [hw3]; exact cell_new _ _ _ (by omega) rfl
  replace e2 : w4.cell? ⟨p2, 0, none⟩ = some (.string sB) := by rw [hw4]; exact cell_al _ e2
  replace e2 : w5.cell? ⟨p2, 0, none⟩ = some (.string sB) := by rw [hw5]; exact cell_al _ e2
  replace e2 : w6.cell? ⟨p2, 0, none⟩ = some (.string sB) := by rw [hw6]; exact cell_al _ e2
  replace e2 : w7.cell? ⟨p2, 0, none⟩ = some (.string sB) := by rw [hw7]; exact cell_al _ e2
  replace e2 : w8.cell? ⟨p2, 0, none⟩ = some (.string sB) := by rw [hw8]; exact cell_al _ e2
  have e3 : w4.cell? ⟨p3, 0, none⟩ = some (.slice (some ⟨p2, 0, none⟩) 1 1) := by rw [hw4]; exact cell_new _ _ _ (by omega) rfl
  replace e3 : w5.cell? ⟨p3, 0, none⟩ = some (.slice (some ⟨p2, 0, none⟩) 1 1) := by rw [hw5]; exact cell_al _ e3
  replace e3 : w6.cell? ⟨p3, 0, none⟩ = some (.slice (some ⟨p2, 0, none⟩) 1 1) := by rw [hw6]; exact cell_al _ e3
  replace e3 : w7.cell? ⟨p3, 0, none⟩ = some (.slice (some ⟨p2, 0, none⟩) 1 1) := by rw [hw7]; exact cell_al _ e3
  replace e3 : w8.cell? ⟨p3, 0, none⟩ = some (.slice (some ⟨p2, 0, none⟩) 1 1) := by rw [hw8]; exact cell_al _ e3
  have e4 : w5.cell? ⟨p4, 0, none⟩ = some (.string sB) := by rw [hw5]; exact cell_new _ _ _ (by omega) rfl
  replace e4 : w6.cell? ⟨p4, 0, none⟩ = some (.string sB) := by rw [hw6]; exact cell_al _ e4
  replace e4 : w7.cell? ⟨p4, 0, none⟩ = some (.string sB) := by rw [hw7]; exact cell_al _ e4
  replace e4 : w8.cell? ⟨p4, 0, none⟩ = some (.string sB) := by rw [hw8]; exact cell_al _ e4
  have e5 : w6.cell? ⟨p5, 0, none⟩ = some (.int .i64 20) := by rw [hw6]; exact cell_new _ _ _ (by omega) rfl
  replace e5 : w7.cell? ⟨p5, 0, none⟩ = some (.int .i64 20) := by rw [hw7]; exact cell_al _ e5
  replace e5 : w8.cell? ⟨p5, 0, none⟩ = some (.int .i64 20) := by rw [hw8]; exact cell_al _ e5
  have e6 : w7.cell? ⟨p6, 0, none⟩ = some (.slice none 0 0) := by rw [hw7]; exact cell_new _ _ _ (by omega) rfl
  replace e6 : w8.cell? ⟨p6, 0, none⟩ = some (.slice none 0 0) := by rw [hw8]; exact cell_al _ e6
  have k0 : w8.cell? ⟨p7, 0, none⟩ = some (.string sM) := by rw [hw8]; exact cell_new _ _ _ (by omega) rfl
  have k1 : w8.cell? ⟨p7, 1, none⟩ = some (.int .i64 1) := by rw [hw8]; exact cell_new _ _ _ (by omega) rfl
  have k2 : w8.cell? ⟨p7, 2, none⟩ = some (.slice (some ⟨p0, 0, none⟩) 1 1) := by rw [hw8]; exact cell_new _ _ _ (by omega) rfl
  have k3 : w8.cell? ⟨p7, 3, none⟩ = some (.slice (some ⟨p1, 0, none⟩) 1 1) := by rw [hw8]; exact cell_new _ _ _ (by omega) rfl
  have k4 : w8.cell? ⟨p7, 4, none⟩ = some (.slice (some ⟨p3, 0, none⟩) 1 1) := by rw [hw8]; exact cell_new _ _ _ (by omega) rfl
  have k5 : w8.cell? ⟨p7, 5, none⟩ = some (.string sN) := by rw [hw8]; exact cell_new _ _ _ (by omega) rfl
  have k6 : w8.cell? ⟨p7, 6, none⟩ = some (.int .i64 2) := by rw [hw8]; exact cell_new _ _ _ (by omega) rfl
  have k7 : w8.cell? ⟨p7, 7, none⟩ = some (.slice (some ⟨p4, 0, none⟩) 1 1) := by rw [hw8]; exact cell_new _ _ _ (by omega) rfl
  have k8 : w8.cell? ⟨p7, 8, none⟩ = some (.slice (some ⟨p5, 0, none⟩) 1 1) := by rw [hw8]; exact cell_new _ _ _ (by omega) rfl
  have k9 : w8.cell? ⟨p7, 9, none⟩ = some (.slice (some ⟨p6, 0, none⟩) 1 1) := by rw [hw8]; exact cell_new _ _ _ (by omega) rfl
  have hb : Below w.heap.size w w8 := by
    rw [hw8, hw7, hw6, hw5, hw4, hw3, hw2, hw1]
    exact bel_alloc2 (bel_alloc2 (bel_alloc2 (bel_alloc2 (bel_alloc2 (bel_alloc2 (bel_alloc2 (bel_alloc w _) _) _) _) _) _) _) _
  clear hw1 hw2 hw3 hw4 hw5 hw6 hw7 hw8
  refine ⟨⟨rfl, Nat.le_refl _, by decide, fun _ => ⟨_, 0, rfl, by omega, fun i m hm => ?_⟩⟩, hb⟩
  match i, hm with
  | 0, hm =>
    obtain rfl : (⟨sM, 1, [sA], [10], [[sB]]⟩ : Md) = m := by simpa [exMs] using hm
    refine ⟨_, rfl, ⟨_, 1, 1, _, 1, 1, _, 1, 1, rfl, by decide, slr_one (by omega) ⟨rfl, by decide⟩ e0, slr_one (by omega) rfl e1, slr_one (by omega) ⟨_, 1, 1, rfl, slr_one (by omega) ⟨rfl, by decide⟩ e2⟩ e3⟩, fun j u hu => ?_⟩
    match j, hu with
    | 0, hu => simp at hu; subst hu; exact k0
    | 1, hu => simp at hu; subst hu; exact k1
    | 2, hu => simp at hu; subst hu; exact k2
    | 3, hu => simp at hu; subst hu; exact k3
    | 4, hu => simp at hu; subst hu; exact k4
    | j + 5, hu => simp at hu
  | 1, hm =>
    obtain rfl : (⟨sN, 2, [sB], [20], [[]]⟩ : Md) = m := by simpa [exMs] using hm
    refine ⟨_, rfl, ⟨_, 1, 1, _, 1, 1, _, 1, 1, rfl, by decide, slr_one (by omega) ⟨rfl, by decide⟩ e4, slr_one (by omega) rfl e5, slr_one (by omega) ⟨_, 0, 0, rfl, slr_nil w8 1 RStr none 0⟩ e6⟩, fun j u hu => ?_⟩
    match j, hu with
    | 0, hu => simp at hu; subst hu; exact k5
    | 1, hu => simp at hu; subst hu; exact k6
    | 2, hu => simp at hu; subst hu; exact k7
    | 3, hu => simp at hu; subst hu; exact k8
    | 4, hu => simp at hu; subst hu; exact k9
    | j + 5, hu => simp at hu
  | i + 2, hm => simp [exMs] at hm

set_option maxRecDepth 100000 in
set_option maxHeartbeats 2000000 in
theorem c_example (w : World) : Calls Try.prog 44 #[] w fun e w' => ∃ A, e = .returned (.slice A 2 2) ∧ SlR w' 5 RMd A 2 2 exMs ∧ Below w.heap.size w w' := by
  go_enter Try.func44, Try.ntmps44
  go_wp2_with fail
  go_ret
  obtain ⟨h1, h2⟩ := ex_world w _ _ _ _ _ _ _ _ rfl rfl rfl rfl rfl rfl rfl rfl
  exact ⟨_, rfl, h1, h2⟩

theorem str_slice2 {w : World} {b : Nat} {x y : Str} (hb : b < w.heap.size) (h0 : w.cell? ⟨b, 0, none⟩ = some (.string x)) (h1 : w.cell? ⟨b, 1, none⟩ = some (.string y)) (hx : x.size ≤ LIM) (hy : y.size ≤ LIM) : SlR w 1 RStr (some ⟨b, 0, none⟩) 2 2 [x, y] := by
  refine ⟨rfl, Nat.le_refl _, by decide, fun _ => ⟨b, 0, rfl, hb, fun i z hz => ?_⟩⟩
  match i, hz with
  | 0, hz =>
    obtain rfl : x = z := by simpa using hz
    refine ⟨[.string x], rfl, ⟨rfl, hx⟩, fun j u hu => ?_⟩
    match j, hu with
    | 0, hu => simp at hu; subst hu; simpa using h0
    | j + 1, hu => simp at hu
  | 1, hz =>
    obtain rfl : y = z := by simpa using hz
    refine ⟨[.string y], rfl, ⟨rfl, hy⟩, fun j u hu => ?_⟩
    match j, hu with
    | 0, hu => simp at hu; subst hu; simpa using h1
    | j + 1, hu => simp at hu
  | i + 2, hz => simp at hz

set_option maxRecDepth 100000 in
set_option maxHeartbeats 2000000 in
theorem c_known (w : World) : Calls Try.prog 16 #[] w fun e w' => e = .returned (.bool true) ∧ Below w.heap.size w w' := by
  go_enter Try.func16, Try.ntmps16
  go_wp2_with fail
  refine (c_example w).mono ?_
  rintro e w1 ⟨A1, rfl, h1, hb1⟩
  have H1 := Box.mk h1
  have HB1 := Box.mk hb1
  clear h1 hb1
  go_wp2_with fail
  have hS : SlR (w1.alloc (.cells #[.string sB, .string ByteArray.empty] 9)) 1 RStr (some ⟨w1.heap.size, 0, none⟩) 2 2 [sB, ByteArray.empty] := str_slice2 (by simp) (by simp) (by simp) (by decide) (by decide)
  refine (c_Loads A1 2 2 exMs sA _ 2 2 [sB, ByteArray.empty] _ (H1.out.below mono_md (bel_alloc _ _)) hS).mono ?_
  rintro e w2 ⟨rfl, hb2⟩
  have HB2 := Box.mk (below_tr (bel_alloc2 HB1.out _) (by have := HB1.out.size; simp; omega) hb2)
  clear hb2 hS
  rw [exMs_lds]
  go_wp2_with fail
  refine (c_example w2).mono ?_
  rintro e w3 ⟨A3, rfl, h3, hb3⟩
  have H3 := Box.mk h3
  have HB3 := Box.mk (below_tr HB2.out HB2.out.size hb3)
  clear h3 hb3
  go_wp2_with fail
  refine (c_Sizes A3 2 2 exMs w3 H3.out).mono ?_
  rintro e w4 ⟨rfl, hb4⟩
  have HB4 := Box.mk (below_tr HB3.out HB3.out.size hb4)
  clear hb4
  rw [exMs_szs]
  go_wp2_with fail
  go_ret
  exact ⟨rfl, HB4.out⟩
end Go.Proofs.Ytchhjldopecliaa
