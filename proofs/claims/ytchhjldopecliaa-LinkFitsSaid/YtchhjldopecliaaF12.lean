/-
What the reference's Sizes computes. Condition: the argument is a slice of modules.
-/
import Derived.Test.YtchhjldopecliaaF11
namespace Go.Proofs.Ytchhjldopecliaa
open Go.RowKit

theorem szAt_app (a b : List Pc) (o : Nat) : szAt (a ++ b) o = szAt a o + szAt b o := by
  unfold szAt
  rw [List.filter_append, List.map_append, List.sum_append]
theorem getD_range_sum : ∀ (l : List Int), ((List.range l.length).map (fun i => l.getD i 0)).sum = l.sum := by
  intro l
  have : (List.range l.length).map (fun i => l.getD i 0) = l := by
    apply List.ext_getElem?
    intro i
    by_cases h : i < l.length
    · simp [h]
    · rw [List.getElem?_eq_none (by simp; omega), List.getElem?_eq_none (by omega)]
  rw [this]
theorem szAt_prM (m : Md) (h : m.sz.length = m.pr.length) (o : Nat) : szAt (prM m) o = if m.ov = (o : Int) then m.sz.sum else 0 := by
  have hov : ∀ p ∈ prM m, p.ov = m.ov := by
    intro p hp
    obtain ⟨i, _, rfl⟩ := List.mem_map.1 hp
    rfl
  unfold szAt
  by_cases ho : m.ov = (o : Int)
  · rw [if_pos ho]
    have : (prM m).filter (fun p => decide (p.ov = (o : Int))) = prM m := List.filter_eq_self.2 (fun p hp => by rw [hov p hp]; simpa using ho)
    rw [this]
    unfold prM
    rw [List.map_map, ← h]
    exact getD_range_sum m.sz
  · rw [if_neg ho]
    have : (prM m).filter (fun p => decide (p.ov = (o : Int))) = [] := List.filter_eq_nil_iff.2 (fun p hp => by rw [hov p hp]; simpa using ho)
    rw [this]
    rfl
theorem szAt_prs (o : Nat) : ∀ (ms : List Md), (∀ m ∈ ms, m.sz.length = m.pr.length) → szAt (prs ms) o = endAt ms o
  | [], _ => rfl
  | m :: r, h => by
    have e1 : prs (m :: r) = prM m ++ prs r := rfl
    rw [e1, szAt_app, szAt_prM m (h m (List.mem_cons_self ..)), szAt_prs o r (fun x hx => h x (List.mem_cons_of_mem _ hx))]
    unfold endAt
    by_cases ho : m.ov = (o : Int)
    · simp [ho]
    · simp [ho]
theorem szsL_prs {ms : List Md} (h : Good ms) : szsL (prs ms) = endsL ms := by
  unfold szsL endsL
  apply List.map_congr_left
  intro o _
  exact szAt_prs o ms (fun m hm => (h.fit hm).1)
theorem foldl_max_zero {l : List Int} (hl : l ≠ []) (h : ∀ x ∈ l, 0 ≤ x) : l.foldl max 0 = mxL l := by
  cases l with
  | nil => exact absurd rfl hl
  | cons x r =>
    have := h x (List.mem_cons_self ..)
    show r.foldl max (max 0 x) = r.foldl max x
    rw [Int.max_eq_right this]
theorem Good.ends_nonneg {ms : List Md} (h : Good ms) : ∀ x ∈ endsL ms, 0 ≤ x := by
  intro x hx
  obtain ⟨o, _, rfl⟩ := List.mem_map.1 hx
  have := h.endAt_bound ms.length o
  rw [List.take_length] at this
  exact this.1

set_option maxRecDepth 100000 in
set_option maxHeartbeats 4000000 in
theorem r_Sizes (A : Option Addr) (n c : Nat) (ms : List Md) (w : World) (h : SlR w 5 RMd A n c ms) :
    Calls Try.prog 23 #[.slice A n c] w fun e w' => e = .returned (.tuple #[.int .i64 (szs ms).1, .int .i64 (szs ms).2.1, .int .i64 (szs ms).2.2]) ∧ Below w.heap.size w w' := by
  have H := Box.mk h
  clear h
  go_enter Try.func23, Try.ntmps23
  go_wp2_with fail
  refine (r_Validate A n c ms w H.out).mono ?_
  rintro e w1 ⟨rfl, hb1⟩
  have HB1 := Box.mk hb1
  clear hb1
  generalize hv : vld ms = V
  by_cases h0 : V = 0
  · subst h0
    have HG := Box.mk (vld_good hv)
    have HV : Box (szs ms = (endAt ms 0, mxL (endsL ms).tail, 0)) := ⟨by simp [szs, hv]⟩
    have C := Box.mk (r_all A n c ms w1 (H.out.below mono_md HB1.out) HG.out)
    have CS : Box (∀ (W : World) (B : Option Addr) (cb : Nat), SlR W 4 RPc B (prs ms).length cb (prs ms) → Calls Try.prog 58 #[.slice B (prs ms).length cb] W fun e w' => e = .returned (.agg ((endsL ms).map (Value.int .i64)).toArray) ∧ Below W.heap.size W w') := ⟨fun W B cb hW => by
      have := r_sizes B _ cb (prs ms) W hW HG.out.ps
      rwa [szsL_prs HG.out] at this⟩
    have hE : (endsL ms)[0]? = some (endAt ms 0) := by simp [endsL]
    have HE := Box.mk hE
    have HNN := Box.mk HG.out.ends_nonneg
    clear hv hE
    have hl := endsL_length ms
    generalize prs ms = ps at *
    generalize hq : endsL ms = Q at *
    clear hq
    match Q, hl, CS, HV, HE, HNN with
    | [x0, x1, x2, x3, x4, x5, x6, x7, x8, x9, x10, x11, x12, x13, x14, x15], _, CS, HV, HE, HNN =>
      go_wp2_with fail
      refine C.out.mono ?_
      rintro e w2 ⟨B, cb, rfl, hp, hb2⟩
      have HB2 := Box.mk (below_tr HB1.out HB1.out.size hb2)
      have HP := Box.mk hp
      clear hp hb2
      go_wp2_with fail
      refine (CS.out w2 B cb HP.out).mono ?_
      rintro e w3 ⟨rfl, hb3⟩
      have HB3 := Box.mk (below_tr HB2.out HB2.out.size hb3)
      clear hb3
      have HA : Box (Arr (w3.alloc (.cells #[.int .i64 x0, .int .i64 x1, .int .i64 x2, .int .i64 x3, .int .i64 x4, .int .i64 x5, .int .i64 x6, .int .i64 x7, .int .i64 x8, .int .i64 x9, .int .i64 x10, .int .i64 x11, .int .i64 x12, .int .i64 x13, .int .i64 x14, .int .i64 x15] 77)) w3.heap.size [x0, x1, x2, x3, x4, x5, x6, x7, x8, x9, x10, x11, x12, x13, x14, x15]) := ⟨heap_alloc_new w3 _⟩
      have HB4 : Box (Below w.heap.size w (w3.alloc (.cells #[.int .i64 x0, .int .i64 x1, .int .i64 x2, .int .i64 x3, .int .i64 x4, .int .i64 x5, .int .i64 x6, .int .i64 x7, .int .i64 x8, .int .i64 x9, .int .i64 x10, .int .i64 x11, .int .i64 x12, .int .i64 x13, .int .i64 x14, .int .i64 x15] 77))) := ⟨bel_alloc2 HB3.out _⟩
      have HMX : Box ([x1, x2, x3, x4, x5, x6, x7, x8, x9, x10, x11, x12, x13, x14, x15].foldl max 0 = mxL [x1, x2, x3, x4, x5, x6, x7, x8, x9, x10, x11, x12, x13, x14, x15]) := ⟨foldl_max_zero (by simp) (fun z hz => HNN.out z (List.mem_cons_of_mem _ hz))⟩
      simp only [List.map_cons, List.map_nil]
      clear CS C
      go_upto_region 5 with fail
      generalize (w3.alloc (.cells #[.int .i64 x0, .int .i64 x1, .int .i64 x2, .int .i64 x3, .int .i64 x4, .int .i64 x5, .int .i64 x6, .int .i64 x7, .int .i64 x8, .int .i64 x9, .int .i64 x10, .int .i64 x11, .int .i64 x12, .int .i64 x13, .int .i64 x14, .int .i64 x15] 77)) = W at *
      go_wp2_with fail
      go_loop [7, 8] (fun t i => ∃ k : Nat, k ≤ 15 ∧ i = .int .i64 ((k : Int) + 1) ∧ t = .int .i64 (([x1, x2, x3, x4, x5, x6, x7, x8, x9, x10, x11, x12, x13, x14, x15].take k).foldl max 0)) (fun _ i => 16 - (intOf i).toNat)
      case atStart => exact ⟨0, by decide, rfl, rfl⟩
      case round =>
        obtain ⟨k, hk, rfl, rfl⟩ := hrel
        by_cases hlt : k < 15
        · obtain ⟨y, hy⟩ : ∃ y, [x1, x2, x3, x4, x5, x6, x7, x8, x9, x10, x11, x12, x13, x14, x15][k]? = some y := ⟨_, List.getElem?_eq_getElem (by simpa using hlt)⟩
          have hc : W.cell? ⟨w3.heap.size, k + 1, none⟩ = some (.int .i64 y) := HA.out.cell (by simpa using hy)
          have HT : Box (([x1, x2, x3, x4, x5, x6, x7, x8, x9, x10, x11, x12, x13, x14, x15].take (k + 1)).foldl max 0 = max (([x1, x2, x3, x4, x5, x6, x7, x8, x9, x10, x11, x12, x13, x14, x15].take k).foldl max 0) y) := ⟨by rw [List.take_add_one, hy, List.foldl_append]; rfl⟩
          clear hy
          generalize ([x1, x2, x3, x4, x5, x6, x7, x8, x9, x10, x11, x12, x13, x14, x15].take k).foldl max 0 = z at HT
          go_wp2_with fail
          refine ⟨⟨k + 1, by omega, by go_num, vi (by rw [HT.out])⟩, ?_⟩
          simp [intOf]
          omega
        · obtain rfl : k = 15 := by omega
          have d0 := HA.out.cell (j := 0) rfl
          have HZ : Box (([x1, x2, x3, x4, x5, x6, x7, x8, x9, x10, x11, x12, x13, x14, x15].take 15).foldl max 0 = mxL [x1, x2, x3, x4, x5, x6, x7, x8, x9, x10, x11, x12, x13, x14, x15]) := ⟨HMX.out⟩
          clear HMX
          generalize ([x1, x2, x3, x4, x5, x6, x7, x8, x9, x10, x11, x12, x13, x14, x15].take 15).foldl max 0 = z at HZ ⊢
          go_wp2_with fail
          go_ret3
          refine ⟨ret3 ?_ ?_ ?_, HB4.out⟩
          · rw [HV.out]; have := HE.out; simpa using this
          · rw [HV.out]; exact HZ.out
          · rw [HV.out]
  · have HO : Box (szs ms = (0, 0, V)) := ⟨by simp [szs, hv, h0]⟩
    have h0' : (V != 0) = true := by simpa using h0
    clear hv
    go_wp2_with fail
    go_ret3
    exact ⟨ret3 (by rw [HO.out]) (by rw [HO.out]) (by rw [HO.out]), HB1.out⟩
end Go.Proofs.Ytchhjldopecliaa
