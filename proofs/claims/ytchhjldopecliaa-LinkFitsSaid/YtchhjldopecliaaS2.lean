/-
What slices.Sort, slices.Compact, slices.Sorted and isTwice compute. Condition: rows of the call's own.
-/
import Derived.Test.YtchhjldopecliaaS1
import Derived.Test.YtchhjldopecliaaSh1
import Derived.Test.YtchhjldopecliaaP1
import Derived.Sort.OwnSorted
namespace Go.Proofs.Ytchhjldopecliaa
open Go.RowKit Go.Sort

theorem enc_bs (s : Str) : encStr (bs s) = .string s := by
  cases s
  simp [encStr, bs]
theorem map_enc_bs (l : List Str) : (l.map bs).map encStr = l.map Value.string := by
  rw [List.map_map]
  exact List.map_congr_left fun a _ => enc_bs a
theorem enc_ob (l : By) : encStr l = .string (ob l) := by rw [← enc_bs, bs_ob]

/-- slices.Sort, of a row of one's own. -/
theorem c_Sort (base : Nat) (v : Value) (xs : List Str) (w : World) (h : w.ownsRow base 9 1 v xs.length (xs.map Value.string)) (hl : xs.length < 4611686018427387904) :
    Calls Try.prog 97 #[v] w fun e w' => e = .returned (.tuple #[]) ∧ w'.ownsRow base 9 1 v (srtS xs).length ((srtS xs).map Value.string) ∧ w.grownBy w' v.ownBlock := by
  rcases h.2 with ⟨rfl, hz⟩ | ⟨g, cap, cur, rfl, hbase, hg, r1, r2, r3, r4⟩
  · obtain rfl : xs = [] := List.eq_nil_of_length_eq_zero hz
    refine (Try.slices_Sort_string_none none 0 w).mono ?_
    rintro e w' ⟨rfl, rfl⟩
    rw [srtS_nil]
    exact ⟨rfl, h, World.grownBy.refl _ _⟩
  · have e1 : cur.toList.take (xs.map bs).length = (xs.map bs).map encStr := by rw [map_enc_bs, List.length_map]; simpa using r4
    have hH : Holds encStr w g 0 (xs.map bs).toArray := holds_of_block hg e1
    have hgl : g < w.heap.size := (Array.getElem?_eq_some_iff.1 hg).1
    have c := Try.slices_Sort_string g 0 cap (xs.map bs) w hH hgl (by simpa using hl)
    rw [List.length_map] at c
    refine c.mono ?_
    rintro e w' ⟨rfl, n, os, rfl⟩
    refine ⟨rfl, ?_, grownBy_sorted _⟩
    have := ownsRow_sorted (base := base) (n := n) (os := os) (ss := xs.map bs) (ts := sortB (xs.map bs)) (cap := cap) (by simp [sortB]) hbase hg (by simpa using r1) r2 r3
    rw [← bs_srtS, map_enc_bs, List.length_map, ← srtS_length] at this
    rw [srtS_length] at this ⊢
    rw [bs_srtS] at this
    exact this

/-- slices.Compact, of a row of one's own that is sorted. -/
theorem c_Compact (base : Nat) (v : Value) (l : List Str) (w : World) (h : w.ownsRow base 9 1 v (srtS l).length ((srtS l).map Value.string)) (hs : ∀ x ∈ l, x.size ≤ LIM) (hl : l.length ≤ 1000000000) :
    Calls Try.prog 85 #[v] w fun e w' => ∃ A c, e = .returned (.slice A (setS l).length c) ∧ SlR w' 1 RStr A (setS l).length c (setS l) ∧ w.grownBy w' v.ownBlock := by
  have hsl := setS_length_le l
  have hlen := srtS_length l
  rcases h.2 with ⟨rfl, hz⟩ | ⟨g, cap, cur, rfl, hbase, hg, r1, r2, r3, r4⟩
  · obtain rfl : l = [] := List.eq_nil_of_length_eq_zero (by omega)
    refine (Try.slices_Compact_string_empty none 0 w).mono ?_
    rintro e w' ⟨rfl, rfl⟩
    rw [setS_nil]
    exact ⟨none, 0, rfl, ⟨rfl, Nat.le_refl _, Nat.zero_le _, fun h => absurd h (Nat.lt_irrefl 0)⟩, World.grownBy.refl _ _⟩
  · have e1 : cur.toList.take ((srtS l).map bs).length = ((srtS l).map bs).map encStr := by rw [map_enc_bs, List.length_map]; simpa using r4
    have hH : Holds encStr w g 0 ((srtS l).map bs).toArray := holds_of_block hg e1
    have hgl : g < w.heap.size := (Array.getElem?_eq_some_iff.1 hg).1
    have c := Try.slices_Compact_string g 0 cap ((srtS l).map bs) w hH (by simp; omega) (by simpa using r1)
    rw [← setS_map, List.length_map, List.length_map] at c
    refine c.mono ?_
    rintro e w' ⟨rfl, q, rfl⟩
    generalize hts : ((setS l).map bs ++ List.replicate ((srtS l).length - (setS l).length) []) = ts
    have htl : ts.length = (srtS l).length := by rw [← hts]; simp; omega
    have hgr : w.grownBy (putRow encStr (Sort.ahead w q) g 0 ts.toArray) (some g) := by
      have := grownBy_sorted (w := w) (g := g) (n := q) (os := #[]) ts.toArray
      rwa [grow_empty] at this
    refine ⟨_, cap, rfl, ⟨rfl, by omega, by rw [LIM_eq]; omega, fun hn => ⟨g, 0, rfl, by have := hgr.size; omega, fun i x hx => ⟨[.string x], rfl, ⟨rfl, hs x (mem_setS.1 (List.mem_iff_getElem?.2 ⟨i, hx⟩))⟩, fun j u hu => ?_⟩⟩⟩, hgr⟩
    match j, hu with
    | 0, hu =>
      have hu : Value.string x = u := by simpa using hu
      subst hu
      have hi : i < (setS l).length := (List.getElem?_eq_some_iff.1 hx).1
      have hb := heap_sorted (n := q) (os := #[]) ts.toArray hg
      rw [grow_empty] at hb
      have htk := take_putCells cur ts (by rw [htl, r3, Nat.mul_one]; omega)
      have h3 : (putCells encStr 0 ts.toArray cur).toList[i]? = some (.string x) := by
        have h4 := congrArg (·[i]?) htk
        simp only [List.getElem?_take_of_lt (show i < ts.length by omega)] at h4
        rw [h4, List.getElem?_map, ← hts, List.getElem?_append_left (by simpa using hi), List.getElem?_map, hx]
        simp [enc_bs]
      simp only [World.cell?, hb]
      rw [Array.getElem?_toList] at h3
      simpa using h3
    | j + 1, hu => simp at hu

/-- slices.Sorted(seq), against whatever iterator. -/
theorem c_Sorted (g : Nat) (lb : Array Value) (eg : ∀ args w, (callFunc g args).run Try.prog w = .ok (.enter g args) w) (S Sp : List Str → Prop) (N : Nat) (hN : N * 16 ≤ 140737488355328) (hSN : ∀ xs, S xs → xs.length ≤ N) (w : World)
    (hseq : ∀ W, Below w.heap.size w W → Go.SeqStopsK Fence.wide 3 Try.prog g lb (fun x : Str => #[Value.string x]) (Kp w.heap.size) S Sp N W) :
    Calls Try.prog 64 #[.func (.func g) #[] lb] w fun e w' => ∃ v xs, e = .returned v ∧ S xs ∧ w'.ownsRow w.heap.size 9 1 v (srtS xs).length ((srtS xs).map Value.string) ∧ Below w.heap.size w w' := by
  have C := Box.mk (callsIn_wide.1 (i_Collect 5 (by omega) g lb eg S Sp N hN w hseq))
  have HSN := Box.mk hSN
  clear hseq eg hSN
  go_enter Try.func64, Try.ntmps64
  go_wp2_with fail
  refine C.out.mono ?_
  rintro e w1 ⟨v, xs, rfl, hS, ho, hb⟩
  have HO := Box.mk ho
  have HB := Box.mk hb
  have HS := Box.mk hS
  clear ho hb hS
  go_wp2_with fail
  refine (c_Sort w.heap.size v xs w1 HO.out (by have := HSN.out xs HS.out; omega)).mono ?_
  rintro e w2 ⟨rfl, ho2, hg⟩
  have HO2 := Box.mk ho2
  have HB2 := Box.mk (below_grown HB.out (Nat.le_refl _) HB.out.size HO.out hg)
  clear ho2 hg
  go_wp2_with fail
  go_ret
  exact ⟨v, xs, rfl, HS.out, HO2.out, HB2.out⟩

theorem ent_Values : ∀ args w, (callFunc 107 args).run Try.prog w = .ok (.enter 107 args) w := enters_of Try.func107 (by kernel_rfl) rfl

/-- slices.Compact(slices.Sorted(slices.Values(l))). -/
theorem c_SortedValues (A : Option Addr) (n c : Nat) (xs : List Str) (w0 w : World) (h : SlR w0 1 RStr A n c xs) (hw : w0.alloc (.cells #[.slice A n c] 23) = w) (hn : n ≤ 1000000000) :
    Calls Try.prog 64 #[.func (.func 107) #[] #[.pointer (some ⟨w0.heap.size, 0, none⟩)]] w fun e w' => ∃ v, e = .returned v ∧ w'.ownsRow w.heap.size 9 1 v (srtS xs).length ((srtS xs).map Value.string) ∧ Below w.heap.size w w' := by
  subst hw
  have h' := h.below mono_str (bel_alloc w0 (.cells #[.slice A n c] 23))
  refine (c_Sorted _ _ ent_Values (fun ys => ys = xs) (fun _ => True) n (by omega) (by rintro ys rfl; rw [h.len]; exact Nat.le_refl _) _ (fun W hW => i_values 3 (by omega) _ w0.heap.size A n c xs _ (by simp) rfl (by simp) h' W hW)).mono ?_
  rintro e w' ⟨v, ys, rfl, rfl, ho, hb⟩
  exact ⟨v, rfl, ho, hb⟩

set_option maxHeartbeats 1000000 in
theorem c_isTwice (A : Option Addr) (n c : Nat) (xs : List Str) (w : World) (h : SlR w 1 RStr A n c xs) (hs : ∀ x ∈ xs, x.size ≤ LIM) (hn : n ≤ 1000000) :
    Calls Try.prog 50 #[.slice A n c] w fun e w' => e = .returned (.bool (decide (¬ xs.Nodup))) ∧ Below w.heap.size w w' := by
  have H := Box.mk h
  have HS := Box.mk hs
  have HT := Box.mk (twice_iff xs)
  have hsl := setS_length_le xs
  rw [h.len] at hsl
  have HL := Box.mk h.len
  clear h hs
  go_enter Try.func50, Try.ntmps50
  go_wp2_with fail
  refine (c_Values A n c w).mono ?_
  rintro e w1 ⟨rfl, hw1⟩
  have HB1 : Box (Below w.heap.size w w1) := ⟨hw1 ▸ bel_alloc _ _⟩
  have C := Box.mk (c_SortedValues A n c xs w w1 H.out hw1 (by omega))
  clear hw1
  go_wp2_with fail
  refine C.out.mono ?_
  rintro e w2 ⟨v, rfl, ho, hb2⟩
  have HO := Box.mk ho
  have HB2 := Box.mk (below_tr HB1.out HB1.out.size hb2)
  clear ho hb2
  go_wp2_with fail
  refine (c_Compact w1.heap.size v xs w2 HO.out HS.out (by rw [HL.out]; omega)).mono ?_
  rintro e w3 ⟨A', c', rfl, _, hg⟩
  have HB3 := Box.mk (below_grown HB2.out HB1.out.size HB2.out.size HO.out hg)
  clear hg
  go_wp2_with fail
  go_ret
  exact ⟨rb (by rw [← HT.out, HL.out] <;> simp), HB3.out⟩
end Go.Proofs.Ytchhjldopecliaa
