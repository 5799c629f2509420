/-
What the reference's sizes computes. Condition: procedures whose overlays and sizes are those of modules that Validate lets in.
-/
import Derived.Test.YtchhjldopecliaaL18
namespace Go.Proofs.Ytchhjldopecliaa
open Go.RowKit

def szAt (ps : List Pc) (o : Nat) : Int := ((ps.filter (fun p => decide (p.ov = (o : Int)))).map (fun p => p.sz)).sum
def szsL (ps : List Pc) : List Int := (List.range 16).map (szAt ps)
theorem szsL_length (ps : List Pc) : (szsL ps).length = 16 := by simp [szsL]
theorem szAt_take {ps : List Pc} {k : Nat} {p : Pc} (h : ps[k]? = some p) (o : Nat) : szAt (ps.take (k + 1)) o = szAt (ps.take k) o + (if p.ov = (o : Int) then p.sz else 0) := by
  unfold szAt
  rw [List.take_add_one, h]
  by_cases ho : p.ov = (o : Int)
  · simp [List.filter_append, ho]
  · simp [List.filter_append, ho]
theorem szsL_take {ps : List Pc} {k : Nat} {p : Pc} (h : ps[k]? = some p) {j : Nat} (hj : p.ov = j) (hj16 : j < 16) :
    szsL (ps.take (k + 1)) = (szsL (ps.take k)).set j (szAt (ps.take k) j + p.sz) := by
  apply List.ext_getElem?
  intro i
  rw [List.getElem?_set]
  by_cases hi : i < 16
  · simp only [szsL, List.getElem?_map, List.length_map, List.length_range, List.getElem?_range hi, Option.map_some, szAt_take h]
    by_cases e : j = i
    · subst e
      simp [hi, hj]
    · have : ¬ p.ov = (i : Int) := by rw [hj]; omega
      simp [this, e]
  · have e1 : ∀ l : List Pc, (szsL l)[i]? = none := fun l => List.getElem?_eq_none (by rw [szsL_length]; omega)
    rw [e1, e1, szsL_length]
    simp
    omega

/-- Procedures of modules that Validate lets in. -/
structure GoodP (ps : List Pc) : Prop where
  len : ps.length ≤ 100
  ov : ∀ p ∈ ps, 0 ≤ p.ov ∧ p.ov ≤ 15
  sz : ∀ p ∈ ps, 1 ≤ p.sz ∧ p.sz ≤ 10000
theorem Good.ps {ms : List Md} (h : Good ms) : GoodP (prs ms) := by
  refine ⟨h.plen, fun p hp => ?_, fun p hp => ?_⟩
  · obtain ⟨m, hm, i, _, rfl⟩ := prs_mem hp
    exact ⟨(h.md hm).1, (h.md hm).2.1⟩
  · obtain ⟨m, hm, i, hi, rfl⟩ := prs_mem hp
    have hl : i < m.sz.length := by rw [(h.fit hm).1]; exact hi
    have e : (pcOf m i).sz = m.sz[i] := getD_some (List.getElem?_eq_getElem hl)
    rw [e]
    exact (h.md hm).2.2.1 _ (List.getElem_mem hl)
theorem GoodP.bound {ps : List Pc} (h : GoodP ps) (k o : Nat) : 0 ≤ szAt (ps.take k) o ∧ szAt (ps.take k) o ≤ 1000000 := by
  have h1 : ∀ x ∈ ((ps.take k).filter (fun p => decide (p.ov = (o : Int)))).map (fun p => p.sz), 0 ≤ x ∧ x ≤ 10000 := by
    intro x hx
    obtain ⟨p, hp, rfl⟩ := List.mem_map.1 hx
    have := h.sz p (List.mem_of_mem_take (List.mem_filter.1 hp).1)
    omega
  have h2 := sum_bound h1
  have h3 : (((ps.take k).filter (fun p => decide (p.ov = (o : Int)))).map (fun p => p.sz)).length ≤ 100 := by
    rw [List.length_map]
    exact Nat.le_trans (List.length_filter_le ..) (Nat.le_trans (List.length_take_le' ..) h.len)
  unfold szAt
  omega

set_option maxRecDepth 100000 in
set_option maxHeartbeats 2000000 in
theorem r_sizes (A : Option Addr) (n c : Nat) (ps : List Pc) (w : World) (h : SlR w 4 RPc A n c ps) (hg : GoodP ps) :
    Calls Try.prog 58 #[.slice A n c] w fun e w' => e = .returned (.agg ((szsL ps).map (Value.int .i64)).toArray) ∧ Below w.heap.size w w' := by
  have hlim := h.lim
  have H := Box.mk h
  have HG := Box.mk hg
  clear h hg
  go_enter Try.func58, Try.ntmps58
  go_wp2_with fail
  have A0 : Box (Arr ((w.alloc (.cells (Array.replicate 16 (.int .i64 0)) 77)).alloc (.cells (Array.replicate 16 (.int .i64 0)) 77)) w.heap.size (List.replicate 16 0)) := ⟨by
    unfold Arr
    rw [Below.heap_alloc _ _ _ (by simp), heap_alloc_new]
    rfl⟩
  have A1 : Box (Arr ((w.alloc (.cells (Array.replicate 16 (.int .i64 0)) 77)).alloc (.cells (Array.replicate 16 (.int .i64 0)) 77)) (w.heap.size + 1) (szsL (ps.take 0))) := ⟨by
    unfold Arr
    have e : w.heap.size + 1 = (w.alloc (.cells (Array.replicate 16 (.int .i64 0)) 77)).heap.size := by simp
    rw [e, heap_alloc_new]
    rfl⟩
  go_loopw [4] (fun i wr => ∃ k : Nat, k ≤ n ∧ i = .int .i64 k ∧ Box (Below w.heap.size w wr) ∧ Box (Arr wr w.heap.size (List.replicate 16 0)) ∧ Box (Arr wr (w.heap.size + 1) (szsL (ps.take k)))) (fun i _ => n - (intOf i).toNat)
  case atStart =>
    refine ⟨0, Nat.zero_le _, rfl, ⟨bel_alloc2 (bel_alloc _ _) _⟩, A0, A1⟩
  case round =>
    obtain ⟨k, hk, rfl, HB, HZ, HA⟩ := hrel
    clear A0 A1
    by_cases hlt : k < n
    · obtain ⟨b, off, p, A1, n1, c1, rfl, hb, hm, _, _, h0, h1, h2, h3⟩ := H.out.pc_at k hlt
      replace h1 := cellk HB.out hb h1
      replace h2 := cellk HB.out hb h2
      have hp := List.mem_iff_getElem?.2 ⟨k, hm⟩
      have g1 := HG.out.ov p hp
      have g2 := HG.out.sz p hp
      obtain ⟨j, hj⟩ : ∃ j : Nat, p.ov = j := ⟨p.ov.toNat, by omega⟩
      have hj16 : j < 16 := by omega
      have hb1 := HG.out.bound k j
      have hxj : (szsL (ps.take k))[j]? = some (szAt (ps.take k) j) := by simp [szsL, hj16]
      have HT : Box (szsL (ps.take (k + 1)) = (szsL (ps.take k)).set j (szAt (ps.take k) j + p.sz)) := ⟨szsL_take hm hj hj16⟩
      have HXJ := Box.mk hxj
      rw [hj] at h1
      clear hm hp g1 hj hxj h0 h3
      have hRl := HA.out.lt
      generalize p.sz = S at *
      generalize hE : szAt (ps.take k) j = E at *
      clear hE
      go_upto_region 5 with fail
      have dj := HA.out.cell HXJ.out
      have fj := HA.out.frozen j
      have hwr : IntKind.i64.wrap (E + S) = E + S := wrap_i64 (by omega) (by omega)
      go_region
      all_goals
        obtain ⟨hs1, hs2⟩ := HA.out.set j (E + S)
        have HS1 : Box (Arr (wr.setCell ⟨w.heap.size + 1, j, none⟩ (.int .i64 (E + S))).drew (w.heap.size + 1) (szsL (ps.take (k + 1)))) := ⟨by rw [HT.out]; exact hs1⟩
        have HB1 : Box (Below w.heap.size w (wr.setCell ⟨w.heap.size + 1, j, none⟩ (.int .i64 (E + S))).drew) := ⟨by
          have := HB.out.grown hs2 HB.out.size (fun q hq => by injection hq with hq; omega)
          exact ⟨this.os, this.tape, this.output, this.size, this.block⟩⟩
        have HZ1 : Box (Arr (wr.setCell ⟨w.heap.size + 1, j, none⟩ (.int .i64 (E + S))).drew w.heap.size (List.replicate 16 0)) := ⟨(hs2.block _ HZ.out.lt (by intro e; injection e with e; omega)).trans HZ.out⟩
        clear hs1 hs2 dj fj h1 h2
        generalize (wr.setCell ⟨w.heap.size + 1, j, none⟩ (.int .i64 (E + S))).drew = W5 at *
        go_wp2_with fail
        go_roundw
        case rel => exact ⟨k + 1, by omega, by go_num, HB1, HZ1, HS1⟩
        case measure => simp [intOf] <;> omega
    · obtain rfl : k = n := by omega
      rw [List.take_of_length_le (by rw [H.out.len]; exact Nat.le_refl _)] at HA
      have hAA := HA.out
      have hZZ := HZ.out
      generalize hq : szsL ps = Q at *
      have hl : Q.length = 16 := by rw [← hq, szsL_length]
      have HQ := Box.mk hq
      clear hq
      match Q, hl, HQ with
      | [x0, x1, x2, x3, x4, x5, x6, x7, x8, x9, x10, x11, x12, x13, x14, x15], _, HQ =>
        have a0 := hAA.cell (j := 0) rfl
        have z0 := hZZ.cell (j := 0) rfl
        have f0 := hZZ.frozen 0
        have a1 := hAA.cell (j := 1) rfl
        have z1 := hZZ.cell (j := 1) rfl
        have f1 := hZZ.frozen 1
        have a2 := hAA.cell (j := 2) rfl
        have z2 := hZZ.cell (j := 2) rfl
        have f2 := hZZ.frozen 2
        have a3 := hAA.cell (j := 3) rfl
        have z3 := hZZ.cell (j := 3) rfl
        have f3 := hZZ.frozen 3
        have a4 := hAA.cell (j := 4) rfl
        have z4 := hZZ.cell (j := 4) rfl
        have f4 := hZZ.frozen 4
        have a5 := hAA.cell (j := 5) rfl
        have z5 := hZZ.cell (j := 5) rfl
        have f5 := hZZ.frozen 5
        have a6 := hAA.cell (j := 6) rfl
        have z6 := hZZ.cell (j := 6) rfl
        have f6 := hZZ.frozen 6
        have a7 := hAA.cell (j := 7) rfl
        have z7 := hZZ.cell (j := 7) rfl
        have f7 := hZZ.frozen 7
        have a8 := hAA.cell (j := 8) rfl
        have z8 := hZZ.cell (j := 8) rfl
        have f8 := hZZ.frozen 8
        have a9 := hAA.cell (j := 9) rfl
        have z9 := hZZ.cell (j := 9) rfl
        have f9 := hZZ.frozen 9
        have a10 := hAA.cell (j := 10) rfl
        have z10 := hZZ.cell (j := 10) rfl
        have f10 := hZZ.frozen 10
        have a11 := hAA.cell (j := 11) rfl
        have z11 := hZZ.cell (j := 11) rfl
        have f11 := hZZ.frozen 11
        have a12 := hAA.cell (j := 12) rfl
        have z12 := hZZ.cell (j := 12) rfl
        have f12 := hZZ.frozen 12
        have a13 := hAA.cell (j := 13) rfl
        have z13 := hZZ.cell (j := 13) rfl
        have f13 := hZZ.frozen 13
        have a14 := hAA.cell (j := 14) rfl
        have z14 := hZZ.cell (j := 14) rfl
        have f14 := hZZ.frozen 14
        have a15 := hAA.cell (j := 15) rfl
        have z15 := hZZ.cell (j := 15) rfl
        have f15 := hZZ.frozen 15
        clear hAA
        have HZB := Box.mk hZZ
        clear hZZ
        go_wp2_with fail
        have HF := Box.mk (Arr.all (x0 := x0) (x1 := x1) (x2 := x2) (x3 := x3) (x4 := x4) (x5 := x5) (x6 := x6) (x7 := x7) (x8 := x8) (x9 := x9) (x10 := x10) (x11 := x11) (x12 := x12) (x13 := x13) (x14 := x14) (x15 := x15) HZB.out)
        have HBF : Box (Below w.heap.size w ((((((((((((((((wr.setCell ⟨w.heap.size, 0, none⟩ (.int .i64 x0)).setCell ⟨w.heap.size, 1, none⟩ (.int .i64 x1)).setCell ⟨w.heap.size, 2, none⟩ (.int .i64 x2)).setCell ⟨w.heap.size, 3, none⟩ (.int .i64 x3)).setCell ⟨w.heap.size, 4, none⟩ (.int .i64 x4)).setCell ⟨w.heap.size, 5, none⟩ (.int .i64 x5)).setCell ⟨w.heap.size, 6, none⟩ (.int .i64 x6)).setCell ⟨w.heap.size, 7, none⟩ (.int .i64 x7)).setCell ⟨w.heap.size, 8, none⟩ (.int .i64 x8)).setCell ⟨w.heap.size, 9, none⟩ (.int .i64 x9)).setCell ⟨w.heap.size, 10, none⟩ (.int .i64 x10)).setCell ⟨w.heap.size, 11, none⟩ (.int .i64 x11)).setCell ⟨w.heap.size, 12, none⟩ (.int .i64 x12)).setCell ⟨w.heap.size, 13, none⟩ (.int .i64 x13)).setCell ⟨w.heap.size, 14, none⟩ (.int .i64 x14)).setCell ⟨w.heap.size, 15, none⟩ (.int .i64 x15))) := ⟨HB.out.grown HF.out.2 HB.out.size (fun q hq => by injection hq with hq; omega)⟩
        clear a0 z0 f0 a1 z1 f1 a2 z2 f2 a3 z3 f3 a4 z4 f4 a5 z5 f5 a6 z6 f6 a7 z7 f7 a8 z8 f8 a9 z9 f9 a10 z10 f10 a11 z11 f11 a12 z12 f12 a13 z13 f13 a14 z14 f14 a15 z15 f15
        generalize ((((((((((((((((wr.setCell ⟨w.heap.size, 0, none⟩ (.int .i64 x0)).setCell ⟨w.heap.size, 1, none⟩ (.int .i64 x1)).setCell ⟨w.heap.size, 2, none⟩ (.int .i64 x2)).setCell ⟨w.heap.size, 3, none⟩ (.int .i64 x3)).setCell ⟨w.heap.size, 4, none⟩ (.int .i64 x4)).setCell ⟨w.heap.size, 5, none⟩ (.int .i64 x5)).setCell ⟨w.heap.size, 6, none⟩ (.int .i64 x6)).setCell ⟨w.heap.size, 7, none⟩ (.int .i64 x7)).setCell ⟨w.heap.size, 8, none⟩ (.int .i64 x8)).setCell ⟨w.heap.size, 9, none⟩ (.int .i64 x9)).setCell ⟨w.heap.size, 10, none⟩ (.int .i64 x10)).setCell ⟨w.heap.size, 11, none⟩ (.int .i64 x11)).setCell ⟨w.heap.size, 12, none⟩ (.int .i64 x12)).setCell ⟨w.heap.size, 13, none⟩ (.int .i64 x13)).setCell ⟨w.heap.size, 14, none⟩ (.int .i64 x14)).setCell ⟨w.heap.size, 15, none⟩ (.int .i64 x15)) = W9 at *
        have c0 := HF.out.1.cell (j := 0) rfl
        have c1 := HF.out.1.cell (j := 1) rfl
        have c2 := HF.out.1.cell (j := 2) rfl
        have c3 := HF.out.1.cell (j := 3) rfl
        have c4 := HF.out.1.cell (j := 4) rfl
        have c5 := HF.out.1.cell (j := 5) rfl
        have c6 := HF.out.1.cell (j := 6) rfl
        have c7 := HF.out.1.cell (j := 7) rfl
        have c8 := HF.out.1.cell (j := 8) rfl
        have c9 := HF.out.1.cell (j := 9) rfl
        have c10 := HF.out.1.cell (j := 10) rfl
        have c11 := HF.out.1.cell (j := 11) rfl
        have c12 := HF.out.1.cell (j := 12) rfl
        have c13 := HF.out.1.cell (j := 13) rfl
        have c14 := HF.out.1.cell (j := 14) rfl
        have c15 := HF.out.1.cell (j := 15) rfl
        refine bodyPost_ret (v := .agg #[.int .i64 x0, .int .i64 x1, .int .i64 x2, .int .i64 x3, .int .i64 x4, .int .i64 x5, .int .i64 x6, .int .i64 x7, .int .i64 x8, .int .i64 x9, .int .i64 x10, .int .i64 x11, .int .i64 x12, .int .i64 x13, .int .i64 x14, .int .i64 x15]) (by simp [results, Try.results58, go_sem, *]) rfl ⟨by rw [HQ.out]; rfl, HBF.out⟩
end Go.Proofs.Ytchhjldopecliaa
