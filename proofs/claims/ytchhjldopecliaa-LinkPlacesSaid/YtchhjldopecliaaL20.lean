/-
What Link computes. Condition: the argument is a slice of modules.
-/
import Derived.Test.YtchhjldopecliaaP6
import Derived.Test.YtchhjldopecliaaB7
namespace Go.Proofs.Ytchhjldopecliaa
open Go.RowKit

def nx0 (root : Int) (k : Nat) : List Int := (List.range 16).map (fun o => if 0 < o ∧ o < k then root else 0)
def nxt (root : Int) (D : List Pc) : List Int := (List.range 16).map (fun o => (if 0 < o then root else 0) + szAt D o)
theorem nx0_get (root : Int) (k o : Nat) (h : o < 16) : (nx0 root k)[o]? = some (if 0 < o ∧ o < k then root else 0) := by simp [nx0, h]
theorem nxt_get (root : Int) (D : List Pc) (o : Nat) (h : o < 16) : (nxt root D)[o]? = some ((if 0 < o then root else 0) + szAt D o) := by simp [nxt, h]
theorem nx0_set (root : Int) (k : Nat) (h1 : 1 ≤ k) (h : k < 16) : (nx0 root k).set k root = nx0 root (k + 1) := by
  apply List.ext_getElem?
  intro i
  rw [List.getElem?_set]
  by_cases hi : i < 16
  · rw [nx0_get _ _ _ hi, nx0_get _ _ _ hi]
    by_cases e : k = i
    · subst e
      simp [nx0, h]
      omega
    · rw [if_neg e]
      congr 1
      have : (0 < i ∧ i < k) ↔ (0 < i ∧ i < k + 1) := by omega
      simp only [this]
  · have e1 : ∀ k, (nx0 root k)[i]? = none := fun k => List.getElem?_eq_none (by simp [nx0]; omega)
    rw [e1, e1]
    simp [nx0]
    omega
theorem nx0_start (root : Int) : nx0 root 1 = List.replicate 16 0 := by
  apply List.ext_getElem?
  intro i
  by_cases hi : i < 16
  · rw [nx0_get _ _ _ hi, if_neg (by omega), List.getElem?_replicate, if_pos hi]
  · rw [List.getElem?_eq_none (by simp [nx0]; omega), List.getElem?_eq_none (by simp; omega)]
theorem nx0_end (root : Int) : nx0 root 16 = nxt root [] := by
  apply List.ext_getElem?
  intro i
  by_cases hi : i < 16
  · rw [nx0_get _ _ _ hi, nxt_get _ _ _ hi]
    have : (0 < i ∧ i < 16) ↔ 0 < i := by omega
    simp [this, szAt]
  · rw [List.getElem?_eq_none (by simp [nx0]; omega), List.getElem?_eq_none (by simp [nxt]; omega)]
theorem nxt_snoc (root : Int) (D : List Pc) (p : Pc) (o : Nat) (ho : p.ov = o) (h : o < 16) : (nxt root D).set o ((if 0 < o then root else 0) + szAt D o + p.sz) = nxt root (D ++ [p]) := by
  apply List.ext_getElem?
  intro i
  rw [List.getElem?_set]
  by_cases hi : i < 16
  · rw [nxt_get _ _ _ hi, nxt_get _ _ _ hi, szAt_app]
    by_cases e : o = i
    · subst e
      simp [nxt, h, szAt, ho]
      omega
    · have hne : ¬ p.ov = (i : Int) := by rw [ho]; omega
      simp [e, szAt, hne]
  · have e1 : ∀ D, (nxt root D)[i]? = none := fun k => List.getElem?_eq_none (by simp [nxt]; omega)
    rw [e1, e1]
    simp [nxt]
    omega
theorem szAt_bound {D : List Pc} (h : ∀ p ∈ D, 0 ≤ p.sz ∧ p.sz ≤ 10000) (o : Nat) : 0 ≤ szAt D o ∧ szAt D o ≤ D.length * 10000 := by
  have h1 : ∀ x ∈ (D.filter (fun p => decide (p.ov = (o : Int)))).map (fun p => p.sz), 0 ≤ x ∧ x ≤ 10000 := by
    intro x hx
    obtain ⟨p, hp, rfl⟩ := List.mem_map.1 hx
    exact h p (List.mem_filter.1 hp).1
  have h2 := sum_bound h1
  have h3 : ((D.filter (fun p => decide (p.ov = (o : Int)))).map (fun p => p.sz)).length ≤ D.length := by
    rw [List.length_map]
    exact List.length_filter_le ..
  unfold szAt
  omega
theorem pcOf_at {m : Md} {j : Nat} {x : Str} {z : Int} (h1 : m.pr[j]? = some x) (h2 : m.sz[j]? = some z) : (pcOf m j).nm = x ∧ (pcOf m j).sz = z ∧ (pcOf m j).ov = m.ov := by
  unfold pcOf
  rw [getD_some h1, getD_some h2]
  exact ⟨rfl, rfl, rfl⟩

theorem indexAt77 (r jo : Nat) (h : jo < 16) (W : World) : (Instr.indexAt 77 (.pointer (some ⟨r, 0, none⟩)) (.int .i64 jo)).run Try.prog W = .ok (.pointer (some ⟨r, jo, none⟩)) W := by
  have e1 : Try.prog.arrayLen 77 = 16 := by kernel_rfl
  have e2 : Try.prog.underlying 77 = some (.array (Try.prog.arrayLen 77) (Try.prog.elem 77)) := by kernel_rfl
  have e3 : (sizeOf (Try.prog.elem 77)).run Try.prog W = .ok 1 W := by kernel_rfl
  rw [run_indexAt_array W 77 _ _ _ e2, e1, if_pos (by omega), e3]
  simp [Result.andThen, addr_addq]

/-- What Link's inner round keeps. -/
structure LkG (w0 W : World) (p r : Nat) (nx : List Int) (nm : Str) (jo : Int) (s1 s2 s3 v10 v11 : Value) (ns : List Str) (as_ : List Int) : Prop where
  o10 : W.ownsRow (r + 1) 9 1 v10 ns.length (ns.map Value.string)
  o11 : W.ownsRow (r + 1) 3 1 v11 as_.length (as_.map (Value.int .i64))
  arr : Arr W r nx
  mdb : MdB W p nm jo s1 s2 s3
  ap : Apart v10 v11
  n10 : v10.ownBlock ≠ some p
  n11 : v11.ownBlock ≠ some p
  pr : r < p
  bel : Below w0.heap.size w0 W
  lo : w0.heap.size ≤ r
section
variable {w0 W wa : World} {p r : Nat} {nx : List Int} {nm : Str} {jo : Int} {s1 s2 s3 v10 v11 v' : Value} {ns : List Str} {as_ : List Int}
theorem LkG.alloc (h : LkG w0 W p r nx nm jo s1 s2 s3 v10 v11 ns as_) (o : Obj) : LkG w0 (W.alloc o) p r nx nm jo s1 s2 s3 v10 v11 ns as_ :=
  ⟨h.o10.alloc o, h.o11.alloc o, (Below.heap_alloc _ _ _ h.arr.lt).trans h.arr, (Below.heap_alloc _ _ _ h.mdb.lt).trans h.mdb, h.ap, h.n10, h.n11, h.pr, bel_alloc2 h.bel o, h.lo⟩
theorem LkG.drew (h : LkG w0 W p r nx nm jo s1 s2 s3 v10 v11 ns as_) : LkG w0 W.drew p r nx nm jo s1 s2 s3 v10 v11 ns as_ :=
  ⟨h.o10, h.o11, h.arr, h.mdb, h.ap, h.n10, h.n11, h.pr, ⟨h.bel.os, h.bel.tape, h.bel.output, h.bel.size, h.bel.block⟩, h.lo⟩
theorem LkG.app1 (h : LkG w0 W p r nx nm jo s1 s2 s3 v10 v11 ns as_) {x : Str} (ho : wa.ownsRow (r + 1) 9 1 v' (ns.length + 1) (ns.map Value.string ++ [.string x])) (hg : W.grownBy wa v10.ownBlock) (hat : v'.ownBlock = v10.ownBlock ∨ v'.ownBlock = some W.heap.size) :
    LkG w0 wa p r nx nm jo s1 s2 s3 v' v11 (ns ++ [x]) as_ := by
  refine ⟨by simpa using ho, own_other h.o11 hg h.ap.symm, (hg.block r h.arr.lt (fun e => Nat.not_succ_le_self _ (h.o10.lt r e.symm).1)).trans h.arr, (hg.block p h.mdb.lt (fun e => h.n10 e.symm)).trans h.mdb, h.ap.step (fun B e => (h.o11.lt B e).2) (Nat.le_refl _) hat, ?_, h.n11, h.pr, h.bel.grown hg h.bel.size (fun q hq => by have := (h.o10.lt q hq).1; have := h.lo; omega), h.lo⟩
  rcases hat with e | e
  · rw [e]; exact h.n10
  · rw [e]; intro e2; injection e2 with e2; have := h.mdb.lt; omega
theorem LkG.app2 (h : LkG w0 W p r nx nm jo s1 s2 s3 v10 v11 ns as_) {x : Int} (ho : wa.ownsRow (r + 1) 3 1 v' (as_.length + 1) (as_.map (Value.int .i64) ++ [.int .i64 x])) (hg : W.grownBy wa v11.ownBlock) (hat : v'.ownBlock = v11.ownBlock ∨ v'.ownBlock = some W.heap.size) :
    LkG w0 wa p r nx nm jo s1 s2 s3 v10 v' ns (as_ ++ [x]) := by
  refine ⟨own_other h.o10 hg h.ap, by simpa using ho, (hg.block r h.arr.lt (fun e => Nat.not_succ_le_self _ (h.o11.lt r e.symm).1)).trans h.arr, (hg.block p h.mdb.lt (fun e => h.n11 e.symm)).trans h.mdb, (Apart.step (L := W.heap.size) h.ap.symm (fun B e => (h.o10.lt B e).2) (Nat.le_refl _) hat).symm, h.n10, ?_, h.pr, h.bel.grown hg h.bel.size (fun q hq => by have := (h.o11.lt q hq).1; have := h.lo; omega), h.lo⟩
  rcases hat with e | e
  · rw [e]; exact h.n11
  · rw [e]; intro e2; injection e2 with e2; have := h.mdb.lt; omega
theorem LkG.store (h : LkG w0 W p r nx nm jo s1 s2 s3 v10 v11 ns as_) (j : Nat) (x : Int) : LkG w0 (W.setCell ⟨r, j, none⟩ (.int .i64 x)) p r (nx.set j x) nm jo s1 s2 s3 v10 v11 ns as_ := by
  obtain ⟨hs1, hs2⟩ := h.arr.set j x
  have e10 : v10.ownBlock ≠ some r := fun e => Nat.not_succ_le_self _ (h.o10.lt r e).1
  have e11 : v11.ownBlock ≠ some r := fun e => Nat.not_succ_le_self _ (h.o11.lt r e).1
  exact ⟨own_other h.o10 hs2 (.inr e10), own_other h.o11 hs2 (.inr e11), hs1, (hs2.block p h.mdb.lt (fun e => by injection e with e; have := h.pr; omega)).trans h.mdb, h.ap, h.n10, h.n11, h.pr, h.bel.grown hs2 h.bel.size (fun q hq => by injection hq with hq; have := h.lo; omega), h.lo⟩
theorem LkG.size (h : LkG w0 W p r nx nm jo s1 s2 s3 v10 v11 ns as_) : r + 1 ≤ W.heap.size := h.arr.lt
theorem LkG.s (h : LkG w0 W p r nx nm jo s1 s2 s3 v10 v11 ns as_) {j : Nat} {x : Int} (hx : nx[j]? = some x) : W.cell? ⟨p, 1, none⟩ = some (.int .i64 jo) ∧ W.cell? ⟨r, j, none⟩ = some (.int .i64 x) := ⟨h.mdb.cells.2.1, h.arr.cell hx⟩
end
theorem src_cell {W : World} {p : Nat} {x : Value} (h : W.cell? ⟨p, 0, none⟩ = some x) (h1 : x.oneCell' = true) : Src W (some ⟨p, 0, none⟩) 1 1 [x] := by
  refine ⟨rfl, fun _ => ⟨_, rfl, fun j u hu => ?_⟩, by simpa using h1⟩
  cases j with
  | zero =>
    have : x = u := by simpa using hu
    subst this
    exact h
  | succ j => simp at hu

set_option maxRecDepth 100000 in
theorem index77 (x0 x1 x2 x3 x4 x5 x6 x7 x8 x9 x10 x11 x12 x13 x14 x15 : Int) (W : World) : (Instr.index 77 (.agg #[.int .i64 x0, .int .i64 x1, .int .i64 x2, .int .i64 x3, .int .i64 x4, .int .i64 x5, .int .i64 x6, .int .i64 x7, .int .i64 x8, .int .i64 x9, .int .i64 x10, .int .i64 x11, .int .i64 x12, .int .i64 x13, .int .i64 x14, .int .i64 x15]) (.int .i64 0)).run Try.prog W = .ok (.int .i64 x0) W := by kernel_rfl

set_option maxRecDepth 100000 in
set_option maxHeartbeats 8000000 in
theorem c_Link (A : Option Addr) (n c : Nat) (ms : List Md) (w : World) (h : SlR w 5 RMd A n c ms) :
    Calls Try.prog 26 #[.slice A n c] w fun e w' => ∃ A1 c1 A2 c2, e = .returned (.tuple #[.slice A1 (lnk ms).1.length c1, .slice A2 (lnk ms).2.1.length c2, .int .i64 (lnk ms).2.2]) ∧
      SlR w' 1 RStr A1 (lnk ms).1.length c1 (lnk ms).1 ∧ SlR w' 1 RInt A2 (lnk ms).2.1.length c2 (lnk ms).2.1 ∧ Below w.heap.size w w' := by
  have hlim := h.lim
  have H := Box.mk h
  clear h
  go_enter Try.func26, Try.ntmps26
  go_wp2_with fail
  refine (c_open A n c ms w H.out).mono ?_
  rintro e w1 ⟨⟨v, rfl, hv⟩, hb1⟩
  have HB1 := Box.mk hb1
  clear hb1
  generalize ho : opn ms = V at *
  by_cases h0 : V = 0
  · subst h0
    obtain ⟨hg, b, rfl, _, _⟩ := hv rfl
    have HG := Box.mk hg
    have HO : Box (lnk ms = ((prs ms).map (·.nm), adrs (endAt ms 0) [] (prs ms), 0)) := ⟨by simp [lnk, ho]⟩
    have C := Box.mk (c_ends A n c ms w1 (H.out.below mono_md HB1.out) HG.out)
    have hE : (endsL ms)[0]? = some (endAt ms 0) := by simp [endsL]
    have hRB := HG.out.endAt_bound ms.length 0
    rw [List.take_length] at hRB
    clear hv hg ho
    have hl := endsL_length ms
    generalize hq : endsL ms = Q at *
    clear hq
    match Q, hl, C, hE with
    | [x0, x1, x2, x3, x4, x5, x6, x7, x8, x9, x10, x11, x12, x13, x14, x15], _, C, hE =>
      obtain rfl : x0 = endAt ms 0 := by simpa using hE
      clear hE
      generalize endAt ms 0 = x0 at *
      go_wp2_with fail
      refine C.out.mono ?_
      rintro e w2 ⟨rfl, hb2⟩
      have HB2 := Box.mk (below_tr HB1.out HB1.out.size hb2)
      clear hb2 C
      simp only [List.map_cons, List.map_nil]
      have hix := index77 x0 x1 x2 x3 x4 x5 x6 x7 x8 x9 x10 x11 x12 x13 x14 x15
      go_wp2_with fail
      clear hix
      have HB3 : Box (Below w.heap.size w (w2.alloc (.cells (Array.replicate 16 (.int .i64 0)) 77))) := ⟨bel_alloc2 HB2.out _⟩
      have HA3 : Box (Arr (w2.alloc (.cells (Array.replicate 16 (.int .i64 0)) 77)) w2.heap.size (nx0 x0 1)) := ⟨by
        rw [nx0_start]
        exact heap_alloc_new w2 _⟩
      have hsz3 : Box (w2.heap.size + 1 = (w2.alloc (.cells (Array.replicate 16 (.int .i64 0)) 77)).heap.size) := ⟨by simp⟩
      have hlow : Box (w.heap.size ≤ w2.heap.size) := ⟨HB2.out.size⟩
      go_loopw [9] (fun i wr => ∃ k : Nat, 1 ≤ k ∧ k ≤ 16 ∧ i = .int .i64 k ∧ Box (Below w.heap.size w wr) ∧ Box (Arr wr w2.heap.size (nx0 x0 k))) (fun i _ => 16 - (intOf i).toNat)
      case atStart => exact ⟨1, Nat.le_refl _, by decide, rfl, HB3, HA3⟩
      case round =>
        obtain ⟨k, hk1, hk, rfl, HB, HA⟩ := hrel
        clear HB3 HA3 hsz3
        by_cases hlt : k < 16
        · have hxj := nx0_get x0 k k hlt
          have dj := HA.out.cell hxj
          have fj := HA.out.frozen k
          clear hxj
          go_wp2_with fail
          obtain ⟨hs1, hs2⟩ := HA.out.set k x0
          rw [nx0_set x0 k hk1 hlt] at hs1
          go_roundw
          case rel => exact ⟨k + 1, by omega, by omega, by go_num, ⟨HB.out.grown hs2 HB.out.size (fun q hq => by injection hq with hq; have := hlow.out; omega)⟩, ⟨hs1⟩⟩
          case measure => simp [intOf]; omega
        · obtain rfl : k = 16 := by omega
          rw [nx0_end] at HA
          rw [show ((16 : Nat) : Int) = 16 from rfl]
          have hp8 : Box (w2.heap.size < wr.heap.size) := ⟨HA.out.lt⟩
          go_wp2_with fail
          clear HB2
          have HPL := Box.mk HG.out.plen
          have HMD := Box.mk (fun (k : Nat) (m : Md) (h : ms[k]? = some m) => And.intro (HG.out.md (List.mem_iff_getElem?.2 ⟨k, h⟩)) (HG.out.fit (List.mem_iff_getElem?.2 ⟨k, h⟩)))
          have HBD := Box.mk (fun k o => HG.out.ps.bound k o)
          go_loopw [10, 11, 13, 14, 15, 36] (fun v10 v11 _ _ _ i wx => ∃ k : Nat, k ≤ n ∧ i = .int .i64 k ∧ Box (Below w.heap.size w wx) ∧ Box (Arr wx w2.heap.size (nxt x0 (prs (ms.take k)))) ∧
            Box (wx.ownsRow (w2.heap.size + 1) 9 1 v10 ((prs (ms.take k)).map (·.nm)).length (((prs (ms.take k)).map (·.nm)).map Value.string)) ∧ Box (wx.ownsRow (w2.heap.size + 1) 3 1 v11 (adrs x0 [] (prs (ms.take k))).length ((adrs x0 [] (prs (ms.take k))).map (Value.int .i64))) ∧ Box (Apart v10 v11)) (fun _ _ _ _ _ i _ => n - (intOf i).toNat)
          case atStart => exact ⟨0, Nat.zero_le _, rfl, HB, HA, ⟨World.ownsRow_nil _ _ _ _⟩, ⟨World.ownsRow_nil _ _ _ _⟩, ⟨.inl rfl⟩⟩
          case round =>
            clear HB HA hp8
            obtain ⟨k, hk, rfl, HB, HA, H10, H11, HAP⟩ := hrel
            have hp8 : Box (w2.heap.size < wr.heap.size) := ⟨HA.out.lt⟩
            by_cases hlt : k < n
            · obtain ⟨b, off, m, A1, n1, c1, A2, n2, c2, A3, n3, c3, rfl, hb, hm, hM, h0, h1, h2, h3, h4⟩ := H.out.md_at k hlt
              replace h0 := cellk HB.out hb h0
              replace h1 := cellk HB.out hb h1
              replace h2 := cellk HB.out hb h2
              replace h3 := cellk HB.out hb h3
              replace h4 := cellk HB.out hb h4
              obtain ⟨⟨g1, g2, g3, g4⟩, hf1, hf2⟩ := HMD.out k m hm
              rw [hM.sz.len, hM.pr.len] at hf1
              subst hf1
              have hl1 := hM.pr.lim
              obtain ⟨jo, hj⟩ : ∃ j : Nat, m.ov = j := ⟨m.ov.toNat, by omega⟩
              have hj16 : jo < 16 := by omega
              rw [hj] at h1
              have HM := Box.mk hM
              have HX := Box.mk hm
              have HJ := Box.mk hj
              have HS3 := Box.mk g3
              have HT : Box (prs (ms.take (k + 1)) = prs (ms.take k) ++ prM m) := ⟨prs_take hm⟩
              clear hM hm hj g1 g2 g3 g4 hf2
              go_wp2_with fail
              have HBW : Box (Below w.heap.size w (wr.alloc (.cells #[.string m.nm, .int .i64 jo, .slice A1 n2 c1, .slice A2 n2 c2, .slice A3 n3 c3] 33))) := ⟨bel_alloc2 HB.out _⟩
              have HAW : Box (Arr (wr.alloc (.cells #[.string m.nm, .int .i64 jo, .slice A1 n2 c1, .slice A2 n2 c2, .slice A3 n3 c3] 33)) w2.heap.size (nxt x0 (prs (ms.take k)))) := ⟨(Below.heap_alloc _ _ _ HA.out.lt).trans HA.out⟩
              have H10W := Box.mk (H10.out.alloc (.cells #[.string m.nm, .int .i64 jo, .slice A1 n2 c1, .slice A2 n2 c2, .slice A3 n3 c3] 33))
              have H11W := Box.mk (H11.out.alloc (.cells #[.string m.nm, .int .i64 jo, .slice A1 n2 c1, .slice A2 n2 c2, .slice A3 n3 c3] 33))
              have HMW : Box (MdB (wr.alloc (.cells #[.string m.nm, .int .i64 jo, .slice A1 n2 c1, .slice A2 n2 c2, .slice A3 n3 c3] 33)) wr.heap.size m.nm jo (.slice A1 n2 c1) (.slice A2 n2 c2) (.slice A3 n3 c3)) := ⟨MdB.new _ _ _ _ _ _⟩
              have N10 : Box (u10.ownBlock ≠ some wr.heap.size ∧ u11.ownBlock ≠ some wr.heap.size) := ⟨⟨fun e => by have := (H10.out.lt _ e).2; omega, fun e => by have := (H11.out.lt _ e).2; omega⟩⟩
              have hpr : Box (w2.heap.size < wr.heap.size ∧ w.heap.size ≤ w2.heap.size) := ⟨hp8.out, hlow.out⟩
              have HLEN : Box ((prs (ms.take k)).length + n2 ≤ 100) := ⟨by
                have e1 := sumL_mono ms (k + 1)
                rw [sumL_take HX.out, HM.out.pr.len] at e1
                have := HG.out.total
                rw [prs_length]
                omega⟩
              generalize hp13 : wr.heap.size = p13 at *
              clear hp13
              generalize (wr.alloc (.cells #[.string m.nm, .int .i64 jo, .slice A1 n2 c1, .slice A2 n2 c2, .slice A3 n3 c3] 33)) = W3 at *
              clear HB HA H10 H11 h0 h1 h2 h3 h4 hp8
              go_loopw [10, 11, 14, 15, 43] (fun v10 v11 _ _ i wx => ∃ j : Nat, j ≤ n2 ∧ i = .int .i64 j ∧ Box (Below w.heap.size w wx) ∧ Box (Arr wx w2.heap.size (nxt x0 (prs (ms.take k) ++ (prM m).take j))) ∧ Box (MdB wx p13 m.nm jo (.slice A1 n2 c1) (.slice A2 n2 c2) (.slice A3 n3 c3)) ∧
                Box (wx.ownsRow (w2.heap.size + 1) 9 1 v10 ((prs (ms.take k) ++ (prM m).take j).map (·.nm)).length (((prs (ms.take k) ++ (prM m).take j).map (·.nm)).map Value.string)) ∧ Box (wx.ownsRow (w2.heap.size + 1) 3 1 v11 (adrs x0 [] (prs (ms.take k) ++ (prM m).take j)).length ((adrs x0 [] (prs (ms.take k) ++ (prM m).take j)).map (Value.int .i64))) ∧ Box (Apart v10 v11) ∧ Box (v10.ownBlock ≠ some p13 ∧ v11.ownBlock ≠ some p13)) (fun _ _ _ _ i _ => n2 - (intOf i).toNat)
              case atStart => exact ⟨0, Nat.zero_le _, rfl, HBW, by simpa using HAW, HMW, by simpa using H10W, by simpa using H11W, HAP, N10⟩
              case round =>
                clear HBW HAW HMW H10W H11W HAP N10
                obtain ⟨j, hj, rfl, HB, HA, HMB, H10, H11, HAP, N10⟩ := hrel
                by_cases hjl : j < n2
                · obtain ⟨b5, o5, x, rfl, hb5, hx5, hs5, hc5⟩ := HM.out.pr.str_at j hjl
                  obtain ⟨b6, o6, z, rfl, hb6, hx6, hc6⟩ := HM.out.sz.int_at j hjl
                  replace hc5 := cellk HB.out hb5 hc5
                  have HC6 := Box.mk hc6
                  replace hc6 := cellk HB.out hb6 hc6
                  have hz := HS3.out z (List.mem_iff_getElem?.2 ⟨j, hx6⟩)
                  obtain ⟨e1, e2, e3⟩ := pcOf_at hx5 hx6
                  rw [HJ.out] at e3
                  have HPC := Box.mk (And.intro e1 (And.intro e2 e3))
                  have hjm : j < m.pr.length := by rw [HM.out.pr.len]; exact hjl
                  have HT2 : Box (prs (ms.take k) ++ (prM m).take (j + 1) = (prs (ms.take k) ++ (prM m).take j) ++ [pcOf m j]) := ⟨by rw [prM_take m j hjm, List.append_assoc]⟩
                  have hDl : (prs (ms.take k) ++ (prM m).take j).length ≤ 99 := by
                    have := HLEN.out
                    rw [List.length_append, List.length_take, prM_length]
                    omega
                  have HSZ : Box (∀ p ∈ prs (ms.take k) ++ (prM m).take j, 0 ≤ p.sz ∧ p.sz ≤ 10000) := ⟨fun p hp => by
                    have : p ∈ prs ms := by
                      rcases List.mem_append.1 hp with hp | hp
                      · obtain ⟨m', hm', hp'⟩ := List.mem_flatMap.1 hp
                        exact List.mem_flatMap.2 ⟨m', List.mem_of_mem_take hm', hp'⟩
                      · exact List.mem_flatMap.2 ⟨m, List.mem_iff_getElem?.2 ⟨k, HX.out⟩, List.mem_of_mem_take hp⟩
                    have := HG.out.ps.sz p this
                    omega⟩
                  generalize prs (ms.take k) ++ (prM m).take j = D at *
                  obtain ⟨xE, hxE⟩ : ∃ E, (if 0 < jo then x0 else 0) + szAt D jo = E := ⟨_, rfl⟩
                  have hEb : 0 ≤ xE ∧ xE ≤ 100000000 := by
                    have := szAt_bound HSZ.out jo
                    rw [← hxE]
                    split <;> omega
                  have hgE := nxt_get x0 D jo hj16
                  rw [hxE] at hgE
                  have HADR : Box (adrs x0 [] (D ++ [pcOf m j]) = adrs x0 [] D ++ [xE]) := ⟨by
                    rw [adrs_snoc, HPC.out.2.2, ← hxE]
                    simp⟩
                  have HNM : Box ((D ++ [pcOf m j]).map (·.nm) = D.map (·.nm) ++ [x]) := ⟨by rw [List.map_append]; simp [HPC.out.1]⟩
                  have HNXT : Box ((nxt x0 D).set jo (xE + z) = nxt x0 (D ++ [pcOf m j])) := ⟨by
                    rw [← nxt_snoc x0 D (pcOf m j) jo HPC.out.2.2 hj16, hxE, HPC.out.2.1]⟩
                  have HGE := Box.mk hgE
                  have HXE := Box.mk hxE
                  have G0 : Box (LkG w wr p13 w2.heap.size (nxt x0 D) m.nm jo (.slice (some ⟨b5, o5, none⟩) n2 c1) (.slice (some ⟨b6, o6, none⟩) n2 c2) (.slice A3 n3 c3) u10 u11 (D.map (·.nm)) (adrs x0 [] D)) := ⟨⟨H10.out, H11.out, HA.out, HMB.out, HAP.out, N10.out.1, N10.out.2, hpr.out.1, HB.out, hpr.out.2⟩⟩
                  have GA := Box.mk (G0.out.alloc (.cells #[.string x] 9)).drew
                  have GB := Box.mk (G0.out.alloc (.cells #[.int .i64 xE] 3)).drew
                  have GAB := Box.mk ((G0.out.alloc (.cells #[.string x] 9)).alloc (.cells #[.int .i64 xE] 3)).drew
                  have GBA := Box.mk ((G0.out.alloc (.cells #[.int .i64 xE] 3)).alloc (.cells #[.string x] 9)).drew
                  have CA : Box ((wr.alloc (.cells #[.string x] 9)).drew.cell? ⟨wr.heap.size, 0, none⟩ = some (.string x)) := ⟨by simp⟩
                  have CAB : Box (((wr.alloc (.cells #[.string x] 9)).alloc (.cells #[.int .i64 xE] 3)).drew.cell? ⟨wr.heap.size, 0, none⟩ = some (.string x)) := ⟨cell_al _ CA.out⟩
                  have EB : Box ((wr.alloc (.cells #[.int .i64 xE] 3)).drew.cell? ⟨wr.heap.size, 0, none⟩ = some (.int .i64 xE)) := ⟨by simp⟩
                  have EBA : Box (((wr.alloc (.cells #[.int .i64 xE] 3)).alloc (.cells #[.string x] 9)).drew.cell? ⟨wr.heap.size, 0, none⟩ = some (.int .i64 xE)) := ⟨cell_al _ EB.out⟩
                  have EAB : Box (((wr.alloc (.cells #[.string x] 9)).alloc (.cells #[.int .i64 xE] 3)).drew.cell? ⟨wr.heap.size + 1, 0, none⟩ = some (.int .i64 xE)) := ⟨by simp⟩
                  have CBA : Box (((wr.alloc (.cells #[.int .i64 xE] 3)).alloc (.cells #[.string x] 9)).drew.cell? ⟨wr.heap.size + 1, 0, none⟩ = some (.string x)) := ⟨by simp⟩
                  have NW : Box (∀ q, wr.heap.size ≤ q → some q ≠ u10.ownBlock) := ⟨fun q hq e => by have := (H10.out.lt q e.symm).2; omega⟩
                  obtain ⟨q0, q1, q2, q3, q4, _⟩ := HMB.out.cells
                  clear hgE hxE hx5 hx6 e1 e2 e3 hjm
                  go_upto_region 18 with fail
                  clear q0 q1 q2 q3 q4
                  have HLA : Box (((D.map (·.nm)).length + 1) * 16 ≤ 140737488355328) := ⟨by rw [List.length_map]; omega⟩
                  have HLB : Box (((adrs x0 [] D).length + 1) * 8 ≤ 140737488355328) := ⟨by rw [adrs_length]; omega⟩
                  have hia := indexAt77 w2.heap.size jo hj16
                  go_region_held3 (fun W : World => W.cell? ⟨p13, 1, none⟩ = some (.int .i64 jo) ∧ W.cell? ⟨w2.heap.size, jo, none⟩ = some (.int .i64 xE))
                    (with_reducible first | exact G0.out.drew.s HGE.out | exact GA.out.s HGE.out | exact GB.out.s HGE.out | exact GAB.out.s HGE.out | exact GBA.out.s HGE.out | exact G3.out.s HGE.out | exact (G3.out.alloc _).s HGE.out | exact G4.out.s HGE.out)
                    (first
                      | (refine step_app (o := ⟨some 51, _, _, _, _, _⟩) _ (w2.heap.size + 1) rfl _ _ 23 9 rfl (.string ByteArray.empty) 1 16 Try.underlying23 info_str rfl (by decide) (by decide) u10 _ _ rfl (by with_reducible first | exact GA.out.o10 | exact GAB.out.o10 | exact GBA.out.o10) (some ⟨_, 0, none⟩) 1 1 [.string x] rfl (by with_reducible first | exact src_cell CA.out rfl | exact src_cell CAB.out rfl | exact src_cell CBA.out rfl) HLA.out (by with_reducible first | exact GA.out.size | exact GAB.out.size | exact GBA.out.size) ?_; intro v3' wa ho3 hg3' hat3; have G3 := Box.mk (by with_reducible first | exact GA.out.app1 ho3 hg3' hat3 | exact GAB.out.app1 ho3 hg3' hat3 | exact GBA.out.app1 ho3 hg3' hat3 : LkG w wa p13 w2.heap.size (nxt x0 D) m.nm jo (.slice (some ⟨b5, o5, none⟩) n2 c1) (.slice (some ⟨b6, o6, none⟩) n2 c2) (.slice A3 n3 c3) v3' u11 (D.map (·.nm) ++ [x]) (adrs x0 [] D)); have HG3 := Box.mk hg3'; clear ho3 hg3' hat3)
                      | (refine step_app (o := ⟨some 58, _, _, _, _, _⟩) _ (w2.heap.size + 1) rfl _ _ 30 3 rfl (.int .i64 0) 1 8 Try.underlying30 info_int rfl (by decide) (by decide) u11 _ _ rfl (by with_reducible first | exact (G3.out.alloc _).o11 | exact G3.out.o11) (some ⟨_, 0, none⟩) 1 1 [.int .i64 xE] rfl (by with_reducible first | exact src_one _ _ _ rfl | exact src_cell (HG3.out.cell EAB.out (NW.out _ (Nat.le_succ _))) rfl | exact src_cell (HG3.out.cell EBA.out (NW.out _ (Nat.le_refl _))) rfl) HLB.out (by with_reducible first | exact (G3.out.alloc _).size | exact G3.out.size) ?_; intro v4' wb ho4 hg4' hat4; have G4 := Box.mk (by with_reducible first | exact (G3.out.alloc _).app2 ho4 hg4' hat4 | exact G3.out.app2 ho4 hg4' hat4 : LkG w wb p13 w2.heap.size (nxt x0 D) m.nm jo (.slice (some ⟨b5, o5, none⟩) n2 c1) (.slice (some ⟨b6, o6, none⟩) n2 c2) (.slice A3 n3 c3) v3' v4' (D.map (·.nm) ++ [x]) (adrs x0 [] D ++ [xE])); have HG4 := Box.mk hg4'; clear ho4 hg4' hat4))
                  all_goals
                    clear hia HLA HLB G0 GA GB GAB GBA CA CAB EB EBA EAB CBA NW HG3 HG4 G3 hc5 hc6
                    have hc6 := cellk G4.out.bel hb6 HC6.out
                    obtain ⟨q0, q1, q2, q3, q4, _⟩ := G4.out.mdb.cells
                    have dj := G4.out.arr.cell HGE.out
                    have fj := G4.out.arr.frozen jo
                    have hwr : IntKind.i64.wrap (xE + z) = xE + z := wrap_i64 (by omega) (by omega)
                    clear q0 q2 q4
                    go_upto_region 19 with fail
                    go_region
                    all_goals
                      have G5 := Box.mk (G4.out.store jo (xE + z)).drew
                      rw [HNXT.out] at G5
                      clear q1 q3 dj fj hwr hc6 G4
                      generalize (wb.setCell ⟨w2.heap.size, jo, none⟩ (.int .i64 (xE + z))).drew = W5 at *
                      go_wp2_with fail
                      refine ⟨⟨j + 1, by omega, by go_num, ⟨G5.out.bel⟩, ⟨by rw [HT2.out]; exact G5.out.arr⟩, ⟨G5.out.mdb⟩, ⟨by rw [HT2.out, HNM.out]; exact G5.out.o10⟩, ⟨by rw [HT2.out, HADR.out]; exact G5.out.o11⟩, ⟨G5.out.ap⟩, ⟨G5.out.n10, G5.out.n11⟩⟩, ?_⟩
                      simp [intOf] <;> omega
                · obtain rfl : j = n2 := by omega
                  have e : (prM m).take j = prM m := List.take_of_length_le (by rw [prM_length, HM.out.pr.len]; exact Nat.le_refl _)
                  rw [e, ← HT.out] at HA H10 H11
                  go_wp2_with fail
                  go_roundw
                  case rel => exact ⟨k + 1, by omega, by go_num, HB, HA, H10, H11, HAP⟩
                  case measure => simp [intOf] <;> omega
            · obtain rfl : k = n := by omega
              have e : ms.take k = ms := List.take_of_length_le (by rw [H.out.len]; exact Nat.le_refl _)
              rw [e] at H10 H11
              have hszs : ∀ x ∈ (prs ms).map (·.nm), x.size ≤ LIM := by
                rw [prs_nm]
                exact (mds_sizes H.out).2
              have hpl := HPL.out
              obtain ⟨B10, c10, e10, S10⟩ := own_strs H10.out hszs (by rw [List.length_map, LIM_eq]; omega)
              obtain ⟨B11, c11, e11, S11⟩ := own_ints H11.out (by rw [adrs_length, LIM_eq]; omega)
              have HS10 := Box.mk S10
              have HS11 := Box.mk S11
              subst e10 e11
              clear H10 H11 S10 S11 hszs e HAP
              go_wp2_with fail
              go_ret3
              rw [HO.out]
              exact ⟨_, _, _, _, rfl, HS10.out, HS11.out, HB.out⟩
  · have HO : Box (lnk ms = ([], [], V)) := ⟨by simp [lnk, ho, h0]⟩
    have h0' : (V != 0) = true := by simpa using h0
    clear ho hv
    go_wp2_with fail
    go_ret3
    rw [HO.out]
    exact ⟨_, _, _, _, rfl, slr_nil _ _ _ _ _, slr_nil _ _ _ _ _, HB1.out⟩
end Go.Proofs.Ytchhjldopecliaa
