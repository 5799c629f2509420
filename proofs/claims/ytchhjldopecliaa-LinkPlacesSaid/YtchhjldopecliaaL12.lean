/-
What slices.Max and ends compute. Condition: modules that Validate lets in.
-/
import Derived.Test.YtchhjldopecliaaL11
namespace Go.Proofs.Ytchhjldopecliaa
open Go.RowKit

def maxOf (a b : Int) : Int := if a < b then b else a
def mxL : List Int → Int
  | [] => 0
  | x :: r => r.foldl max x

set_option maxHeartbeats 1000000 in
theorem c_Max (A : Option Addr) (n c : Nat) (xs : List Int) (w : World) (h : SlR w 1 RInt A n c xs) (hn : 0 < n) :
    Calls Try.prog 57 #[.slice A n c] w fun e w' => e = .returned (.int .i64 (mxL xs)) ∧ w = w' := by
  have hlim := h.lim
  have H := Box.mk h
  obtain ⟨b0, o0, x0, rfl, hb0, hx0, hc0⟩ := h.int_at 0 hn
  have HX0 : Box (mxL (xs.take 1) = x0) := ⟨by
    cases xs with
    | nil => cases hx0
    | cons a r => simp at hx0; subst hx0; rfl⟩
  rw [Nat.add_zero] at hc0
  clear h hx0
  go_enter Try.func57, Try.ntmps57
  go_wp2_with fail
  go_loop [3, 4] (fun t i => ∃ k : Nat, 1 ≤ k ∧ k ≤ n ∧ i = .int .i64 k ∧ t = .int .i64 (mxL (xs.take k))) (fun _ i => n - (intOf i).toNat)
  case atStart => exact ⟨1, Nat.le_refl _, hn, rfl, by rw [HX0.out]⟩
  case round =>
    obtain ⟨k, hk1, hk, rfl, rfl⟩ := hrel
    by_cases hlt : k < n
    · obtain ⟨b, off, x, e, hb, hx, hc⟩ := H.out.int_at k hlt
      injection e with e
      injection e with e1 e2
      subst e1 e2
      have HE : Box (mxL (xs.take (k + 1)) = max (mxL (xs.take k)) x) := ⟨by
        rw [List.take_add_one, hx]
        cases xs with
        | nil => cases hx
        | cons a r =>
          match k, hk1 with
          | k + 1, _ => simp [mxL, List.take_succ_cons, List.foldl_append]⟩
      clear hx
      generalize mxL (xs.take k) = z at HE
      go_wp2_with fail
      refine ⟨⟨k + 1, by omega, by omega, by go_num, vi (by rw [HE.out])⟩, ?_⟩
      simp [intOf]; omega
    · go_wp2_with fail
      go_ret
      obtain rfl : k = n := by omega
      exact ⟨ret_int (by rw [List.take_of_length_le (by rw [H.out.len]; exact Nat.le_refl _)]), rfl⟩

/-! ### the sizes of the overlays -/
def endAt (ms : List Md) (o : Nat) : Int := ((ms.filter (fun m => decide (m.ov = (o : Int)))).map (fun m => m.sz.sum)).sum
def endsL (ms : List Md) : List Int := (List.range 16).map (endAt ms)
theorem endsL_length (ms : List Md) : (endsL ms).length = 16 := by simp [endsL]
theorem endAt_take {ms : List Md} {k : Nat} {m : Md} (h : ms[k]? = some m) (o : Nat) : endAt (ms.take (k + 1)) o = endAt (ms.take k) o + (if m.ov = (o : Int) then m.sz.sum else 0) := by
  unfold endAt
  rw [List.take_add_one, h]
  by_cases ho : m.ov = (o : Int)
  · simp [List.filter_append, ho]
  · simp [List.filter_append, ho]
theorem endsL_take {ms : List Md} {k : Nat} {m : Md} (h : ms[k]? = some m) {j : Nat} (hj : m.ov = j) (hj16 : j < 16) :
    endsL (ms.take (k + 1)) = (endsL (ms.take k)).set j (endAt (ms.take k) j + m.sz.sum) := by
  apply List.ext_getElem?
  intro i
  rw [List.getElem?_set]
  by_cases hi : i < 16
  · simp only [endsL, List.getElem?_map, List.length_map, List.length_range, List.getElem?_range hi, Option.map_some, endAt_take h]
    by_cases e : j = i
    · subst e
      simp [hi, hj]
    · have : ¬ m.ov = (i : Int) := by rw [hj]; omega
      simp [this, e]
  · have e1 : ∀ l : List Md, (endsL l)[i]? = none := fun l => List.getElem?_eq_none (by rw [endsL_length]; omega)
    rw [e1, e1, endsL_length]
    simp
    omega
theorem sum_bound {l : List Int} {B : Int} (h : ∀ x ∈ l, 0 ≤ x ∧ x ≤ B) : 0 ≤ l.sum ∧ l.sum ≤ l.length * B := by
  induction l with
  | nil => simp
  | cons x r ih =>
    have h1 := ih (fun m hm => h m (List.mem_cons_of_mem _ hm))
    have h2 := h x (List.mem_cons_self ..)
    simp only [List.sum_cons, List.length_cons]
    have e : ((r.length + 1 : Nat) : Int) * B = r.length * B + B := by rw [Int.natCast_add, Int.add_mul]; simp
    rw [e]
    omega

/-- What a right module holds. -/
theorem Good.md {ms : List Md} (h : Good ms) {m : Md} (hm : m ∈ ms) : 0 ≤ m.ov ∧ m.ov ≤ 15 ∧ (∀ x ∈ m.sz, 1 ≤ x ∧ x ≤ 10000) ∧ m.sz.length ≤ 100 := by
  have hr := h.right m hm
  unfold rightB at hr
  simp only [Bool.and_eq_true, decide_eq_true_eq, Bool.not_eq_true', List.any_eq_false, badSz, Bool.or_eq_true, not_or, Int.not_lt] at hr
  refine ⟨hr.2.2.1, hr.2.2.2.1, fun x hx => hr.2.2.2.2.2 x hx, ?_⟩
  rw [(h.fit hm).1]
  have h1 := h.total
  obtain ⟨k, hk⟩ := List.mem_iff_getElem?.1 hm
  have h2 := sumL_mono ms (k + 1)
  rw [sumL_take hk] at h2
  omega
theorem Good.szsum {ms : List Md} (h : Good ms) {m : Md} (hm : m ∈ ms) : 0 ≤ m.sz.sum ∧ m.sz.sum ≤ 1000000 := by
  obtain ⟨_, _, h1, h2⟩ := h.md hm
  have := sum_bound (l := m.sz) (B := 10000) (fun x hx => by have := h1 x hx; omega)
  omega
theorem Good.endAt_bound {ms : List Md} (h : Good ms) (k o : Nat) : 0 ≤ endAt (ms.take k) o ∧ endAt (ms.take k) o ≤ 32000000 := by
  have h1 : ∀ x ∈ ((ms.take k).filter (fun m => decide (m.ov = (o : Int)))).map (fun m => m.sz.sum), 0 ≤ x ∧ x ≤ 1000000 := by
    intro x hx
    obtain ⟨m, hm, rfl⟩ := List.mem_map.1 hx
    exact h.szsum (List.mem_of_mem_take (List.mem_filter.1 hm).1)
  have h2 := sum_bound h1
  have h3 : (((ms.take k).filter (fun m => decide (m.ov = (o : Int)))).map (fun m => m.sz.sum)).length ≤ 32 := by
    rw [List.length_map]
    exact Nat.le_trans (List.length_filter_le ..) (Nat.le_trans (List.length_take_le' ..) h.len)
  unfold endAt
  omega

/-- An array of the call's own. -/
def Arr (w : World) (r : Nat) (l : List Int) : Prop := w.heap[r]? = some (.cells (l.map (Value.int .i64)).toArray 77 (0, 0))
theorem Arr.cell {w : World} {r : Nat} {l : List Int} (h : Arr w r l) {j : Nat} {x : Int} (hx : l[j]? = some x) : w.cell? ⟨r, j, none⟩ = some (.int .i64 x) := by
  unfold Arr at h
  simp [World.cell?, h, hx]
theorem Arr.frozen {w : World} {r : Nat} {l : List Int} (h : Arr w r l) (j : Nat) : w.frozen? ⟨r, j, none⟩ = false := by
  unfold Arr at h
  simp [World.frozen?, h]
theorem Arr.lt {w : World} {r : Nat} {l : List Int} (h : Arr w r l) : r < w.heap.size := (Array.getElem?_eq_some_iff.1 h).1
theorem Arr.set {w : World} {r : Nat} {l : List Int} (h : Arr w r l) (j : Nat) (x : Int) : Arr (w.setCell ⟨r, j, none⟩ (.int .i64 x)) r (l.set j x) ∧ w.grownBy (w.setCell ⟨r, j, none⟩ (.int .i64 x)) (some r) := by
  refine ⟨?_, ⟨rfl, rfl, rfl, by simp [World.setCell], fun i hi hne => ?_⟩⟩
  · unfold Arr at *
    simp only [World.setCell, Array.getElem?_modify, if_true, h, Option.map_some]
    congr 2
    simp [List.map_set]
  · simp only [World.setCell]
    have hne' : r ≠ i := fun e => hne (by rw [e])
    simp [Array.getElem?_modify, hne']

theorem grown_tr {w w1 w2 : World} {row : Option Nat} (h : w.grownBy w1 row) (k : w1.grownBy w2 row) : w.grownBy w2 row :=
  ⟨k.os.trans h.os, k.tape.trans h.tape, k.output.trans h.output, Nat.le_trans h.size k.size, fun i hi hne => (k.block i (Nat.lt_of_lt_of_le hi h.size) hne).trans (h.block i hi hne)⟩
theorem Arr.all {w : World} {r : Nat} {z0 z1 z2 z3 z4 z5 z6 z7 z8 z9 z10 z11 z12 z13 z14 z15 x0 x1 x2 x3 x4 x5 x6 x7 x8 x9 x10 x11 x12 x13 x14 x15 : Int} (h : Arr w r [z0, z1, z2, z3, z4, z5, z6, z7, z8, z9, z10, z11, z12, z13, z14, z15]) :
    Arr ((((((((((((((((w.setCell ⟨r, 0, none⟩ (.int .i64 x0)).setCell ⟨r, 1, none⟩ (.int .i64 x1)).setCell ⟨r, 2, none⟩ (.int .i64 x2)).setCell ⟨r, 3, none⟩ (.int .i64 x3)).setCell ⟨r, 4, none⟩ (.int .i64 x4)).setCell ⟨r, 5, none⟩ (.int .i64 x5)).setCell ⟨r, 6, none⟩ (.int .i64 x6)).setCell ⟨r, 7, none⟩ (.int .i64 x7)).setCell ⟨r, 8, none⟩ (.int .i64 x8)).setCell ⟨r, 9, none⟩ (.int .i64 x9)).setCell ⟨r, 10, none⟩ (.int .i64 x10)).setCell ⟨r, 11, none⟩ (.int .i64 x11)).setCell ⟨r, 12, none⟩ (.int .i64 x12)).setCell ⟨r, 13, none⟩ (.int .i64 x13)).setCell ⟨r, 14, none⟩ (.int .i64 x14)).setCell ⟨r, 15, none⟩ (.int .i64 x15)) r [x0, x1, x2, x3, x4, x5, x6, x7, x8, x9, x10, x11, x12, x13, x14, x15] ∧ w.grownBy ((((((((((((((((w.setCell ⟨r, 0, none⟩ (.int .i64 x0)).setCell ⟨r, 1, none⟩ (.int .i64 x1)).setCell ⟨r, 2, none⟩ (.int .i64 x2)).setCell ⟨r, 3, none⟩ (.int .i64 x3)).setCell ⟨r, 4, none⟩ (.int .i64 x4)).setCell ⟨r, 5, none⟩ (.int .i64 x5)).setCell ⟨r, 6, none⟩ (.int .i64 x6)).setCell ⟨r, 7, none⟩ (.int .i64 x7)).setCell ⟨r, 8, none⟩ (.int .i64 x8)).setCell ⟨r, 9, none⟩ (.int .i64 x9)).setCell ⟨r, 10, none⟩ (.int .i64 x10)).setCell ⟨r, 11, none⟩ (.int .i64 x11)).setCell ⟨r, 12, none⟩ (.int .i64 x12)).setCell ⟨r, 13, none⟩ (.int .i64 x13)).setCell ⟨r, 14, none⟩ (.int .i64 x14)).setCell ⟨r, 15, none⟩ (.int .i64 x15)) (some r) := by
  obtain ⟨s0, b0⟩ := Arr.set h 0 x0
  obtain ⟨s1, b1⟩ := Arr.set s0 1 x1
  obtain ⟨s2, b2⟩ := Arr.set s1 2 x2
  obtain ⟨s3, b3⟩ := Arr.set s2 3 x3
  obtain ⟨s4, b4⟩ := Arr.set s3 4 x4
  obtain ⟨s5, b5⟩ := Arr.set s4 5 x5
  obtain ⟨s6, b6⟩ := Arr.set s5 6 x6
  obtain ⟨s7, b7⟩ := Arr.set s6 7 x7
  obtain ⟨s8, b8⟩ := Arr.set s7 8 x8
  obtain ⟨s9, b9⟩ := Arr.set s8 9 x9
  obtain ⟨s10, b10⟩ := Arr.set s9 10 x10
  obtain ⟨s11, b11⟩ := Arr.set s10 11 x11
  obtain ⟨s12, b12⟩ := Arr.set s11 12 x12
  obtain ⟨s13, b13⟩ := Arr.set s12 13 x13
  obtain ⟨s14, b14⟩ := Arr.set s13 14 x14
  obtain ⟨s15, b15⟩ := Arr.set s14 15 x15
  exact ⟨s15, (grown_tr (grown_tr (grown_tr (grown_tr (grown_tr (grown_tr (grown_tr (grown_tr (grown_tr (grown_tr (grown_tr (grown_tr (grown_tr (grown_tr (grown_tr b0 b1) b2) b3) b4) b5) b6) b7) b8) b9) b10) b11) b12) b13) b14) b15)⟩

set_option maxRecDepth 100000 in
set_option maxHeartbeats 2000000 in
theorem c_ends (A : Option Addr) (n c : Nat) (ms : List Md) (w : World) (h : SlR w 5 RMd A n c ms) (hg : Good ms) :
    Calls Try.prog 56 #[.slice A n c] w fun e w' => e = .returned (.agg ((endsL ms).map (Value.int .i64)).toArray) ∧ Below w.heap.size w w' := by
  have hlim := h.lim
  have H := Box.mk h
  have HG := Box.mk hg
  clear h hg
  go_enter Try.func56, Try.ntmps56
  go_wp2_with fail
  have A0 : Box (Arr ((w.alloc (.cells (Array.replicate 16 (.int .i64 0)) 77)).alloc (.cells (Array.replicate 16 (.int .i64 0)) 77)) w.heap.size (List.replicate 16 0)) := ⟨by
    unfold Arr
    rw [Below.heap_alloc _ _ _ (by simp), heap_alloc_new]
    rfl⟩
  have A1 : Box (Arr ((w.alloc (.cells (Array.replicate 16 (.int .i64 0)) 77)).alloc (.cells (Array.replicate 16 (.int .i64 0)) 77)) (w.heap.size + 1) (endsL (ms.take 0))) := ⟨by
    unfold Arr
    have e : w.heap.size + 1 = (w.alloc (.cells (Array.replicate 16 (.int .i64 0)) 77)).heap.size := by simp
    rw [e, heap_alloc_new]
    rfl⟩
  go_loopw [5, 8] (fun _ i wr => ∃ k : Nat, k ≤ n ∧ i = .int .i64 k ∧ Box (Below w.heap.size w wr) ∧ Box (Arr wr w.heap.size (List.replicate 16 0)) ∧ Box (Arr wr (w.heap.size + 1) (endsL (ms.take k)))) (fun _ i _ => n - (intOf i).toNat)
  case atStart =>
    refine ⟨0, Nat.zero_le _, rfl, ⟨bel_alloc2 (bel_alloc _ _) _⟩, A0, A1⟩
  case round =>
    obtain ⟨k, hk, rfl, HB, HZ, HA⟩ := hrel
    clear A0 A1
    by_cases hlt : k < n
    · obtain ⟨b, off, m, A1, n1, c1, A2, n2, c2, A3, n3, c3, rfl, hb, hm, hM, h0, h1, h2, h3, h4⟩ := H.out.md_at k hlt
      replace h0 := cellk HB.out hb h0
      replace h1 := cellk HB.out hb h1
      replace h2 := cellk HB.out hb h2
      replace h3 := cellk HB.out hb h3
      replace h4 := cellk HB.out hb h4
      obtain ⟨g1, g2, g3, g4⟩ := HG.out.md (List.mem_iff_getElem?.2 ⟨k, hm⟩)
      have g5 := HG.out.szsum (List.mem_iff_getElem?.2 ⟨k, hm⟩)
      obtain ⟨j, hj⟩ : ∃ j : Nat, m.ov = j := ⟨m.ov.toNat, by omega⟩
      have hj16 : j < 16 := by omega
      have hb1 := HG.out.endAt_bound k j
      have hxj : (endsL (ms.take k))[j]? = some (endAt (ms.take k) j) := by simp [endsL, hj16]
      have HT : Box (endsL (ms.take (k + 1)) = (endsL (ms.take k)).set j (endAt (ms.take k) j + m.sz.sum)) := ⟨endsL_take hm hj hj16⟩
      have HM := Box.mk hM
      have HSUM : Box (∀ x ∈ m.sz, 0 ≤ x ∧ x ≤ 10000) := ⟨fun x hx => by have := g3 x hx; omega⟩
      have HN2 : Box (n2 ≤ 1000000) := ⟨by rw [← hM.sz.len]; omega⟩
      have HJ := Box.mk hj
      have HXJ := Box.mk hxj
      rw [hj] at h1
      clear hM hm g1 g2 g3 g4 hj hxj
      have hRl := HA.out.lt
      generalize hS : m.sz.sum = S at *
      have HS := Box.mk hS
      clear hS
      generalize hE : endAt (ms.take k) j = E at *
      clear hE
      go_upto_region 5 with fail
      have CS : Box (∀ W, Below w.heap.size w W → Calls Try.prog 98 #[.slice A2 n2 c2] W fun e w' => e = .returned (.int .i64 S) ∧ W = w') := ⟨fun W hW => by
        have := c_sum A2 n2 c2 m.sz W (HM.out.sz.below mono_int hW) HN2.out HSUM.out
        rwa [HS.out] at this⟩
      have HBW : Box (Below w.heap.size w (wr.alloc (.cells #[.string m.nm, .int .i64 j, .slice A1 n1 c1, .slice A2 n2 c2, .slice A3 n3 c3] 33))) := ⟨bel_alloc2 HB.out _⟩
      have HZW : Box (Arr (wr.alloc (.cells #[.string m.nm, .int .i64 j, .slice A1 n1 c1, .slice A2 n2 c2, .slice A3 n3 c3] 33)) w.heap.size (List.replicate 16 0)) := ⟨(Below.heap_alloc _ _ _ HZ.out.lt).trans HZ.out⟩
      have HAW : Box (Arr (wr.alloc (.cells #[.string m.nm, .int .i64 j, .slice A1 n1 c1, .slice A2 n2 c2, .slice A3 n3 c3] 33)) (w.heap.size + 1) (endsL (ms.take k))) := ⟨(Below.heap_alloc _ _ _ HA.out.lt).trans HA.out⟩
      have d1 : (wr.alloc (.cells #[.string m.nm, .int .i64 j, .slice A1 n1 c1, .slice A2 n2 c2, .slice A3 n3 c3] 33)).cell? ⟨wr.heap.size, 1, none⟩ = some (.int .i64 j) := by simp
      have d3 : (wr.alloc (.cells #[.string m.nm, .int .i64 j, .slice A1 n1 c1, .slice A2 n2 c2, .slice A3 n3 c3] 33)).cell? ⟨wr.heap.size, 3, none⟩ = some (.slice A2 n2 c2) := by simp
      generalize (wr.alloc (.cells #[.string m.nm, .int .i64 j, .slice A1 n1 c1, .slice A2 n2 c2, .slice A3 n3 c3] 33)) = W at *
      have dj := HAW.out.cell HXJ.out
      have fj := HAW.out.frozen j
      have hwr : IntKind.i64.wrap (E + S) = E + S := wrap_i64 (by omega) (by omega)
      go_region_with (refine (CS.out _ ?_).mono ?_; exact ⟨HBW.out.os, HBW.out.tape, HBW.out.output, HBW.out.size, HBW.out.block⟩; rintro e w' ⟨rfl, rfl⟩)
      all_goals
        obtain ⟨hs1, hs2⟩ := HAW.out.set j (E + S)
        have HS1 : Box (Arr (W.setCell ⟨w.heap.size + 1, j, none⟩ (.int .i64 (E + S))).drew (w.heap.size + 1) (endsL (ms.take (k + 1)))) := ⟨by rw [HT.out]; exact hs1⟩
        have HB1 : Box (Below w.heap.size w (W.setCell ⟨w.heap.size + 1, j, none⟩ (.int .i64 (E + S))).drew) := ⟨by
          have := HBW.out.grown hs2 HBW.out.size (fun q hq => by injection hq with hq; omega)
          exact ⟨this.os, this.tape, this.output, this.size, this.block⟩⟩
        have HZ1 : Box (Arr (W.setCell ⟨w.heap.size + 1, j, none⟩ (.int .i64 (E + S))).drew w.heap.size (List.replicate 16 0)) := ⟨(hs2.block _ HZW.out.lt (by intro e; injection e with e; omega)).trans HZW.out⟩
        clear hs1 hs2 dj fj d1 d3
        generalize (W.setCell ⟨w.heap.size + 1, j, none⟩ (.int .i64 (E + S))).drew = W5 at *
        go_wp2_with fail
        go_roundw
        case rel => exact ⟨k + 1, by omega, by go_num, HB1, HZ1, HS1⟩
        case measure => simp [intOf]; omega
    · obtain rfl : k = n := by omega
      rw [List.take_of_length_le (by rw [H.out.len]; exact Nat.le_refl _)] at HA
      have hAA := HA.out
      have hZZ := HZ.out
      generalize hq : endsL ms = Q at *
      have hl : Q.length = 16 := by rw [← hq, endsL_length]
      have HQ := Box.mk hq
      clear hq
      match Q, hl, HQ with
      | [x0, x1, x2, x3, x4, x5, x6, x7, x8, x9, x10, x11, x12, x13, x14, x15], _, HQ =>
        have a0 := hAA.cell (j := 0) rfl
        have z0 := hZZ.cell (j := 0) rfl
        have f0 := hZZ.frozen 0
        have a1 := hAA.cell (j := 1) rfl
        have z1 := hZZ.cell (j := 1) rfl
        have f1 := hZZ.frozen 1
        have a2 := hAA.cell (j := 2) rfl
        have z2 := hZZ.cell (j := 2) rfl
        have f2 := hZZ.frozen 2
        have a3 := hAA.cell (j := 3) rfl
        have z3 := hZZ.cell (j := 3) rfl
        have f3 := hZZ.frozen 3
        have a4 := hAA.cell (j := 4) rfl
        have z4 := hZZ.cell (j := 4) rfl
        have f4 := hZZ.frozen 4
        have a5 := hAA.cell (j := 5) rfl
        have z5 := hZZ.cell (j := 5) rfl
        have f5 := hZZ.frozen 5
        have a6 := hAA.cell (j := 6) rfl
        have z6 := hZZ.cell (j := 6) rfl
        have f6 := hZZ.frozen 6
        have a7 := hAA.cell (j := 7) rfl
        have z7 := hZZ.cell (j := 7) rfl
        have f7 := hZZ.frozen 7
        have a8 := hAA.cell (j := 8) rfl
        have z8 := hZZ.cell (j := 8) rfl
        have f8 := hZZ.frozen 8
        have a9 := hAA.cell (j := 9) rfl
        have z9 := hZZ.cell (j := 9) rfl
        have f9 := hZZ.frozen 9
        have a10 := hAA.cell (j := 10) rfl
        have z10 := hZZ.cell (j := 10) rfl
        have f10 := hZZ.frozen 10
        have a11 := hAA.cell (j := 11) rfl
        have z11 := hZZ.cell (j := 11) rfl
        have f11 := hZZ.frozen 11
        have a12 := hAA.cell (j := 12) rfl
        have z12 := hZZ.cell (j := 12) rfl
        have f12 := hZZ.frozen 12
        have a13 := hAA.cell (j := 13) rfl
        have z13 := hZZ.cell (j := 13) rfl
        have f13 := hZZ.frozen 13
        have a14 := hAA.cell (j := 14) rfl
        have z14 := hZZ.cell (j := 14) rfl
        have f14 := hZZ.frozen 14
        have a15 := hAA.cell (j := 15) rfl
        have z15 := hZZ.cell (j := 15) rfl
        have f15 := hZZ.frozen 15
        clear hAA
        have HZB := Box.mk hZZ
        clear hZZ
        go_wp2_with fail
        have HF := Box.mk (Arr.all (x0 := x0) (x1 := x1) (x2 := x2) (x3 := x3) (x4 := x4) (x5 := x5) (x6 := x6) (x7 := x7) (x8 := x8) (x9 := x9) (x10 := x10) (x11 := x11) (x12 := x12) (x13 := x13) (x14 := x14) (x15 := x15) HZB.out)
        have HBF : Box (Below w.heap.size w ((((((((((((((((wr.setCell ⟨w.heap.size, 0, none⟩ (.int .i64 x0)).setCell ⟨w.heap.size, 1, none⟩ (.int .i64 x1)).setCell ⟨w.heap.size, 2, none⟩ (.int .i64 x2)).setCell ⟨w.heap.size, 3, none⟩ (.int .i64 x3)).setCell ⟨w.heap.size, 4, none⟩ (.int .i64 x4)).setCell ⟨w.heap.size, 5, none⟩ (.int .i64 x5)).setCell ⟨w.heap.size, 6, none⟩ (.int .i64 x6)).setCell ⟨w.heap.size, 7, none⟩ (.int .i64 x7)).setCell ⟨w.heap.size, 8, none⟩ (.int .i64 x8)).setCell ⟨w.heap.size, 9, none⟩ (.int .i64 x9)).setCell ⟨w.heap.size, 10, none⟩ (.int .i64 x10)).setCell ⟨w.heap.size, 11, none⟩ (.int .i64 x11)).setCell ⟨w.heap.size, 12, none⟩ (.int .i64 x12)).setCell ⟨w.heap.size, 13, none⟩ (.int .i64 x13)).setCell ⟨w.heap.size, 14, none⟩ (.int .i64 x14)).setCell ⟨w.heap.size, 15, none⟩ (.int .i64 x15))) := ⟨HB.out.grown HF.out.2 HB.out.size (fun q hq => by injection hq with hq; omega)⟩
        clear a0 z0 f0 a1 z1 f1 a2 z2 f2 a3 z3 f3 a4 z4 f4 a5 z5 f5 a6 z6 f6 a7 z7 f7 a8 z8 f8 a9 z9 f9 a10 z10 f10 a11 z11 f11 a12 z12 f12 a13 z13 f13 a14 z14 f14 a15 z15 f15
        generalize ((((((((((((((((wr.setCell ⟨w.heap.size, 0, none⟩ (.int .i64 x0)).setCell ⟨w.heap.size, 1, none⟩ (.int .i64 x1)).setCell ⟨w.heap.size, 2, none⟩ (.int .i64 x2)).setCell ⟨w.heap.size, 3, none⟩ (.int .i64 x3)).setCell ⟨w.heap.size, 4, none⟩ (.int .i64 x4)).setCell ⟨w.heap.size, 5, none⟩ (.int .i64 x5)).setCell ⟨w.heap.size, 6, none⟩ (.int .i64 x6)).setCell ⟨w.heap.size, 7, none⟩ (.int .i64 x7)).setCell ⟨w.heap.size, 8, none⟩ (.int .i64 x8)).setCell ⟨w.heap.size, 9, none⟩ (.int .i64 x9)).setCell ⟨w.heap.size, 10, none⟩ (.int .i64 x10)).setCell ⟨w.heap.size, 11, none⟩ (.int .i64 x11)).setCell ⟨w.heap.size, 12, none⟩ (.int .i64 x12)).setCell ⟨w.heap.size, 13, none⟩ (.int .i64 x13)).setCell ⟨w.heap.size, 14, none⟩ (.int .i64 x14)).setCell ⟨w.heap.size, 15, none⟩ (.int .i64 x15)) = W9 at *
        have c0 := HF.out.1.cell (j := 0) rfl
        have c1 := HF.out.1.cell (j := 1) rfl
        have c2 := HF.out.1.cell (j := 2) rfl
        have c3 := HF.out.1.cell (j := 3) rfl
        have c4 := HF.out.1.cell (j := 4) rfl
        have c5 := HF.out.1.cell (j := 5) rfl
        have c6 := HF.out.1.cell (j := 6) rfl
        have c7 := HF.out.1.cell (j := 7) rfl
        have c8 := HF.out.1.cell (j := 8) rfl
        have c9 := HF.out.1.cell (j := 9) rfl
        have c10 := HF.out.1.cell (j := 10) rfl
        have c11 := HF.out.1.cell (j := 11) rfl
        have c12 := HF.out.1.cell (j := 12) rfl
        have c13 := HF.out.1.cell (j := 13) rfl
        have c14 := HF.out.1.cell (j := 14) rfl
        have c15 := HF.out.1.cell (j := 15) rfl
        refine bodyPost_ret (v := .agg #[.int .i64 x0, .int .i64 x1, .int .i64 x2, .int .i64 x3, .int .i64 x4, .int .i64 x5, .int .i64 x6, .int .i64 x7, .int .i64 x8, .int .i64 x9, .int .i64 x10, .int .i64 x11, .int .i64 x12, .int .i64 x13, .int .i64 x14, .int .i64 x15]) (by simp [results, Try.results56, go_sem, *]) rfl ⟨by rw [HQ.out]; rfl, HBF.out⟩
end Go.Proofs.Ytchhjldopecliaa
