/-
That LinkApart returns true. Condition: the argument is a slice of modules.
-/
import Derived.Test.YtchhjldopecliaaL21
namespace Go.Proofs.Ytchhjldopecliaa
open Go.RowKit

theorem foldl_max_ge : ∀ (l : List Int) (a : Int), a ≤ l.foldl max a ∧ ∀ x ∈ l, x ≤ l.foldl max a
  | [], a => ⟨Int.le_refl _, by simp⟩
  | y :: r, a => by
    obtain ⟨h1, h2⟩ := foldl_max_ge r (max a y)
    refine ⟨Int.le_trans (Int.le_max_left ..) h1, fun x hx => ?_⟩
    rcases List.mem_cons.1 hx with rfl | hx
    · exact Int.le_trans (Int.le_max_right ..) h1
    · exact h2 x hx
theorem foldl_max_le {B : Int} : ∀ (l : List Int) (a : Int), a ≤ B → (∀ x ∈ l, x ≤ B) → l.foldl max a ≤ B
  | [], a, h, _ => h
  | y :: r, a, h, hl => foldl_max_le r (max a y) (Int.max_le.2 ⟨h, hl y (List.mem_cons_self ..)⟩) (fun x hx => hl x (List.mem_cons_of_mem _ hx))
theorem mxL_ge {l : List Int} {x : Int} (h : x ∈ l) : x ≤ mxL l := by
  cases l with
  | nil => cases h
  | cons y r =>
    rcases List.mem_cons.1 h with rfl | h
    · exact (foldl_max_ge r x).1
    · exact (foldl_max_ge r y).2 x h
theorem Good.room {ms : List Md} (h : Good ms) : 0 ≤ mxL (endsL ms).tail ∧ mxL (endsL ms).tail ≤ 32000000 := by
  have hb : ∀ x ∈ endsL ms, 0 ≤ x ∧ x ≤ 32000000 := by
    intro x hx
    obtain ⟨o, _, rfl⟩ := List.mem_map.1 hx
    have := h.endAt_bound ms.length o
    rwa [List.take_length] at this
  have hl := endsL_length ms
  match hq : endsL ms with
  | [] => rw [hq] at hl; cases hl
  | [x] => rw [hq] at hl; cases hl
  | x :: y :: r =>
    rw [hq] at hb
    show 0 ≤ r.foldl max y ∧ r.foldl max y ≤ 32000000
    exact ⟨Int.le_trans (hb y (by simp)).1 (foldl_max_ge r y).1, foldl_max_le r y (hb y (by simp)).2 (fun z hz => (hb z (by simp [hz])).2)⟩
theorem adr_fits {ms : List Md} (hg : Good ms) {i : Nat} {p : Pc} (hp : (prs ms)[i]? = some p) :
    0 ≤ adr (prs ms) i p ∧ adr (prs ms) i p ≤ 100000000 ∧ adr (prs ms) i p + p.sz ≤ (if p.ov = 0 then endAt ms 0 else endAt ms 0 + mxL (endsL ms).tail) := by
  have h0 := szAt_prs 0 ms (fun m hm => (hg.fit hm).1)
  obtain ⟨h1, h2⟩ := adr_end hg.ps hp
  have hov := hg.ps.ov p (List.mem_iff_getElem?.2 ⟨i, hp⟩)
  have hb := hg.endAt_bound ms.length 0
  rw [List.take_length] at hb
  have hr := hg.room
  have hsz := hg.ps.sz p (List.mem_iff_getElem?.2 ⟨i, hp⟩)
  by_cases ho : p.ov = 0
  · have := adr_root hg.ps hp ho
    rw [if_pos ho]
    omega
  · rw [if_neg ho]
    rw [if_pos (by omega), szAt_prs p.ov.toNat ms (fun m hm => (hg.fit hm).1)] at h2
    have hm : endAt ms p.ov.toNat ∈ (endsL ms).tail := by
      rw [List.mem_iff_getElem?]
      refine ⟨p.ov.toNat - 1, ?_⟩
      rw [List.getElem?_tail]
      have e : p.ov.toNat - 1 + 1 = p.ov.toNat := by omega
      rw [e]
      unfold endsL
      rw [List.getElem?_map, List.getElem?_range (by omega)]
      rfl
    have := mxL_ge hm
    omega

/-- Two rows of numbers of one's own. -/
structure TwoI (w0 W : World) (base : Nat) (v u : Value) (xs ys : List Int) : Prop where
  o1 : W.ownsRow base 3 1 v xs.length (xs.map (Value.int .i64))
  o2 : W.ownsRow base 3 1 u ys.length (ys.map (Value.int .i64))
  ap : Apart v u
  bel : Below w0.heap.size w0 W
  lo : w0.heap.size ≤ base
  hi : base ≤ W.heap.size
section
variable {w0 W wa : World} {base : Nat} {v u v' : Value} {xs ys : List Int}
theorem TwoI.alloc (h : TwoI w0 W base v u xs ys) (o : Obj) : TwoI w0 (W.alloc o) base v u xs ys :=
  ⟨h.o1.alloc o, h.o2.alloc o, h.ap, bel_alloc2 h.bel o, h.lo, Nat.le_trans h.hi (bel_alloc W o).size⟩
theorem TwoI.drew (h : TwoI w0 W base v u xs ys) : TwoI w0 W.drew base v u xs ys :=
  ⟨h.o1, h.o2, h.ap, ⟨h.bel.os, h.bel.tape, h.bel.output, h.bel.size, h.bel.block⟩, h.lo, h.hi⟩
theorem TwoI.app1 (h : TwoI w0 W base v u xs ys) {x : Int} (ho : wa.ownsRow base 3 1 v' (xs.length + 1) (xs.map (Value.int .i64) ++ [.int .i64 x])) (hg : W.grownBy wa v.ownBlock) (hat : v'.ownBlock = v.ownBlock ∨ v'.ownBlock = some W.heap.size) :
    TwoI w0 wa base v' u (xs ++ [x]) ys :=
  ⟨by simpa using ho, own_other h.o2 hg h.ap.symm, h.ap.step (fun B e => (h.o2.lt B e).2) (Nat.le_refl _) hat, h.bel.grown hg h.bel.size (fun q hq => Nat.le_trans h.lo (h.o1.lt q hq).1), h.lo, Nat.le_trans h.hi hg.size⟩
theorem TwoI.app2 (h : TwoI w0 W base v u xs ys) {x : Int} (ho : wa.ownsRow base 3 1 v' (ys.length + 1) (ys.map (Value.int .i64) ++ [.int .i64 x])) (hg : W.grownBy wa u.ownBlock) (hat : v'.ownBlock = u.ownBlock ∨ v'.ownBlock = some W.heap.size) :
    TwoI w0 wa base v v' xs (ys ++ [x]) :=
  ⟨own_other h.o1 hg h.ap, by simpa using ho, (Apart.step (L := W.heap.size) h.ap.symm (fun B e => (h.o1.lt B e).2) (Nat.le_refl _) hat).symm, h.bel.grown hg h.bel.size (fun q hq => Nat.le_trans h.lo (h.o2.lt q hq).1), h.lo, Nat.le_trans h.hi hg.size⟩
end

set_option maxRecDepth 100000 in
set_option maxHeartbeats 8000000 in
theorem c_LinkApart (A : Option Addr) (n c : Nat) (ms : List Md) (w : World) (h : SlR w 5 RMd A n c ms) :
    Calls Try.prog 6 #[.slice A n c] w fun e w' => e = .returned (.bool true) ∧ Below w.heap.size w w' := by
  have hlim := h.lim
  have H := Box.mk h
  clear h
  go_enter Try.func6, Try.ntmps6
  go_wp2_with fail
  refine (c_over A n c ms w H.out).mono ?_
  rintro e w1 ⟨⟨q, rfl, hq⟩, hb1⟩
  have HB1 := Box.mk hb1
  clear hb1 hq
  cases q
  case true =>
    go_wp2_with fail
    refine (c_known w1).mono ?_
    rintro e w2 ⟨rfl, hb2⟩
    have HB2 := Box.mk (below_tr HB1.out HB1.out.size hb2)
    clear hb2
    go_wp2_with fail
    go_ret
    exact ⟨rfl, HB2.out⟩
  case false =>
  go_wp2_with fail
  refine (c_Link A n c ms w1 (H.out.below mono_md HB1.out)).mono ?_
  rintro e w2 ⟨B1, d1, B2, d2, rfl, hs1, hs2, hb2⟩
  have HB2 := Box.mk (below_tr HB1.out HB1.out.size hb2)
  have HS2 := Box.mk hs2
  clear hb2 hs1 hs2
  by_cases h0 : opn ms = 0
  case neg =>
    have hE : ((lnk ms).2.2 != 0) = true := by simp [lnk, h0]
    generalize (lnk ms).2.2 = E at *
    go_wp2_with fail
    refine (c_known w2).mono ?_
    rintro e w3 ⟨rfl, hb3⟩
    have HB3 := Box.mk (below_tr HB2.out HB2.out.size hb3)
    clear hb3
    go_wp2_with fail
    go_ret
    exact ⟨rfl, HB3.out⟩
  case pos =>
  have hL : lnk ms = ((prs ms).map (·.nm), adrs (endAt ms 0) [] (prs ms), 0) := by simp [lnk, h0]
  have HG := Box.mk (opn_good h0)
  rw [hL] at HS2 ⊢
  have e1 : ((prs ms).map (·.nm), adrs (endAt ms 0) [] (prs ms), (0 : Int)).1.length = (prs ms).length := by simp
  have e2 : ((prs ms).map (·.nm), adrs (endAt ms 0) [] (prs ms), (0 : Int)).2.1.length = (prs ms).length := adrs_length _ _ _
  rw [e1, e2]
  rw [e2] at HS2
  have hV : vld ms = 0 := by
    by_cases hz : vld ms = 0
    · exact hz
    · rw [opn, if_pos hz] at h0; exact h0
  have hS : szs ms = (endAt ms 0, mxL (endsL ms).tail, 0) := by simp [szs, hV]
  have CS := Box.mk (c_Sizes A n c ms w2 (H.out.below mono_md HB2.out))
  rw [hS] at CS
  have hrb := HG.out.endAt_bound ms.length 0
  rw [List.take_length] at hrb
  have hrm := HG.out.room
  have HFIT : Box (∀ (i : Nat) (p : Pc), (prs ms)[i]? = some p → 0 ≤ adr (prs ms) i p ∧ adr (prs ms) i p ≤ 100000000 ∧ adr (prs ms) i p + p.sz ≤ (if p.ov = 0 then endAt ms 0 else endAt ms 0 + mxL (endsL ms).tail)) := ⟨fun i p hp => adr_fits HG.out hp⟩
  have HADR : Box (∀ (i : Nat) (p : Pc), (prs ms)[i]? = some p → (adrs (endAt ms 0) [] (prs ms))[i]? = some (adr (prs ms) i p)) := ⟨fun i p hp => by
    rw [adrs_get hp, adr, szAt_prs 0 ms (fun m hm => (HG.out.fit hm).1)]
    simp⟩
  have hpl := HG.out.plen
  have HGP := Box.mk HG.out.ps
  obtain ⟨np, hnp⟩ : ∃ np, np = (prs ms).length := ⟨_, rfl⟩
  rw [← hnp] at HS2 hpl ⊢
  have HNP := Box.mk hnp
  clear hL e1 e2 hV hS h0 hnp
  generalize endAt ms 0 = x0 at *
  generalize mxL (endsL ms).tail = xr at *
  go_wp2_with fail
  refine CS.out.mono ?_
  rintro e w3 ⟨rfl, hb3⟩
  have HB3 := Box.mk (below_tr HB2.out HB2.out.size hb3)
  have HS3 := Box.mk (HS2.out.below mono_int hb3)
  clear hb3 CS HS2
  go_wp2_with fail
  go_loopw [9, 10, 11, 12] (fun v9 v10 i _ wx => ∃ k : Nat, k ≤ n ∧ i = .int .i64 k ∧ Box (TwoI w3 wx w3.heap.size v9 v10 ((prs (ms.take k)).map (·.sz)) ((prs (ms.take k)).map (·.ov)))) (fun _ _ i _ _ => n - (intOf i).toNat)
  case atStart => exact ⟨0, Nat.zero_le _, rfl, ⟨⟨World.ownsRow_nil _ _ _ _, World.ownsRow_nil _ _ _ _, .inl rfl, Below.refl _ _, Nat.le_refl _, Nat.le_refl _⟩⟩⟩
  case round =>
    obtain ⟨k, hk, rfl, HT⟩ := hrel
    by_cases hlt : k < n
    · obtain ⟨b, off, m, A1, n1, c1, A2, n2, c2, A3, n3, c3, rfl, hb, hm, hM, h0, h1, h2, h3, h4⟩ := H.out.md_at k hlt
      obtain ⟨hf1, hf2⟩ := HG.out.fit (List.mem_iff_getElem?.2 ⟨k, hm⟩)
      rw [hM.sz.len, hM.pr.len] at hf1
      subst hf1
      have hl1 := hM.pr.lim
      have HM := Box.mk hM
      have HX := Box.mk hm
      have HTK : Box (prs (ms.take (k + 1)) = prs (ms.take k) ++ prM m) := ⟨prs_take hm⟩
      have HLEN : Box ((prs (ms.take k)).length + n2 ≤ 100) := ⟨by
        have e1 := sumL_mono ms (k + 1)
        rw [sumL_take HX.out, HM.out.pr.len] at e1
        have := HG.out.total
        rw [prs_length]
        omega⟩
      have HC := Box.mk (And.intro hb (And.intro h1 (And.intro h2 h3)))
      clear hM hm hf2 h0 h1 h2 h3 h4 hb
      go_wp2_with fail
      go_loopw [9, 10, 12] (fun v9 v10 i wx => ∃ j : Nat, j ≤ n2 ∧ i = .int .i64 j ∧ Box (TwoI w3 wx w3.heap.size v9 v10 ((prs (ms.take k) ++ (prM m).take j).map (·.sz)) ((prs (ms.take k) ++ (prM m).take j).map (·.ov)))) (fun _ _ i _ => n2 - (intOf i).toNat)
      case atStart => exact ⟨0, Nat.zero_le _, rfl, by simpa using HT⟩
      case round =>
        clear HT
        obtain ⟨j, hj, rfl, HT⟩ := hrel
        have HBw := Box.mk (below_tr HB3.out HB3.out.size HT.out.bel)
        obtain ⟨hb, h1, h2, h3⟩ := HC.out
        replace h2 := cellk HBw.out hb h2
        by_cases hjl : j < n2
        · obtain ⟨b6, o6, z, rfl, hb6, hx6, hc6⟩ := HM.out.sz.int_at j hjl
          obtain ⟨b5, o5, x5, rfl, hb5, hx5, hs5, hc5⟩ := HM.out.pr.str_at j hjl
          obtain ⟨e1, e2, e3⟩ := pcOf_at hx5 hx6
          have hjm : j < m.pr.length := by rw [HM.out.pr.len]; exact hjl
          have HT2 : Box (prs (ms.take k) ++ (prM m).take (j + 1) = (prs (ms.take k) ++ (prM m).take j) ++ [pcOf m j]) := ⟨by rw [prM_take m j hjm, List.append_assoc]⟩
          have hDl : (prs (ms.take k) ++ (prM m).take j).length ≤ 99 := by
            have := HLEN.out
            rw [List.length_append, List.length_take, prM_length]
            omega
          generalize prs (ms.take k) ++ (prM m).take j = D at *
          have HN1 : Box ((D ++ [pcOf m j]).map (·.sz) = D.map (·.sz) ++ [z]) := ⟨by rw [List.map_append]; simp [e2]⟩
          have HN2 : Box ((D ++ [pcOf m j]).map (·.ov) = D.map (·.ov) ++ [m.ov]) := ⟨by rw [List.map_append]; simp [e3]⟩
          have HSS : Box (∀ W, Below w.heap.size w W → W.cell? ⟨b, off + k * 5 + 3, none⟩ = some (.slice (some ⟨b6, o6, none⟩) n2 c2) ∧ W.cell? ⟨b6, o6 + j, none⟩ = some (.int .i64 z) ∧ W.cell? ⟨b, off + k * 5 + 1, none⟩ = some (.int .i64 m.ov)) := ⟨fun W hW => by
            obtain ⟨hb, h1, h2, h3⟩ := HC.out
            exact ⟨cellk hW hb h3, cellk hW hb6 hc6, cellk hW hb h1⟩⟩
          generalize m.ov = mo at *
          have HLA : Box (((D.map (·.sz)).length + 1) * 8 ≤ 140737488355328) := ⟨by rw [List.length_map]; omega⟩
          have HLB : Box (((D.map (·.ov)).length + 1) * 8 ≤ 140737488355328) := ⟨by rw [List.length_map]; omega⟩
          have HBX : Box (∀ W, Below w3.heap.size w3 W → Below w.heap.size w W) := ⟨fun W hW => below_tr HB3.out HB3.out.size hW⟩
          have G0 := HT
          have GA := Box.mk (G0.out.alloc (.cells #[.int .i64 z] 3)).drew
          have GB := Box.mk (G0.out.alloc (.cells #[.int .i64 mo] 3)).drew
          have GAB := Box.mk ((G0.out.alloc (.cells #[.int .i64 z] 3)).alloc (.cells #[.int .i64 mo] 3)).drew
          have GBA := Box.mk ((G0.out.alloc (.cells #[.int .i64 mo] 3)).alloc (.cells #[.int .i64 z] 3)).drew
          have CA : Box ((wr.alloc (.cells #[.int .i64 z] 3)).drew.cell? ⟨wr.heap.size, 0, none⟩ = some (.int .i64 z)) := ⟨by simp⟩
          have CAB : Box (((wr.alloc (.cells #[.int .i64 z] 3)).alloc (.cells #[.int .i64 mo] 3)).drew.cell? ⟨wr.heap.size, 0, none⟩ = some (.int .i64 z)) := ⟨cell_al _ CA.out⟩
          have EB : Box ((wr.alloc (.cells #[.int .i64 mo] 3)).drew.cell? ⟨wr.heap.size, 0, none⟩ = some (.int .i64 mo)) := ⟨by simp⟩
          have EBA : Box (((wr.alloc (.cells #[.int .i64 mo] 3)).alloc (.cells #[.int .i64 z] 3)).drew.cell? ⟨wr.heap.size, 0, none⟩ = some (.int .i64 mo)) := ⟨cell_al _ EB.out⟩
          have EAB : Box (((wr.alloc (.cells #[.int .i64 z] 3)).alloc (.cells #[.int .i64 mo] 3)).drew.cell? ⟨wr.heap.size + 1, 0, none⟩ = some (.int .i64 mo)) := ⟨by simp⟩
          have CBA : Box (((wr.alloc (.cells #[.int .i64 mo] 3)).alloc (.cells #[.int .i64 z] 3)).drew.cell? ⟨wr.heap.size + 1, 0, none⟩ = some (.int .i64 z)) := ⟨by simp⟩
          have NW : Box (∀ q, wr.heap.size ≤ q → some q ≠ u9.ownBlock) := ⟨fun q hq e => by have := (HT.out.o1.lt q e.symm).2; omega⟩
          clear e1 e2 e3 hx5 hx6 hc5 hc6 hs5 hjm h1 h3
          go_upto_region 14 with fail
          clear h2
          go_region_held3 (fun W : World => W.cell? ⟨b, off + k * 5 + 3, none⟩ = some (.slice (some ⟨b6, o6, none⟩) n2 c2) ∧ W.cell? ⟨b6, o6 + j, none⟩ = some (.int .i64 z) ∧ W.cell? ⟨b, off + k * 5 + 1, none⟩ = some (.int .i64 mo))
            (with_reducible first | exact HSS.out _ (HBX.out _ G0.out.drew.bel) | exact HSS.out _ (HBX.out _ GA.out.bel) | exact HSS.out _ (HBX.out _ GB.out.bel) | exact HSS.out _ (HBX.out _ GAB.out.bel) | exact HSS.out _ (HBX.out _ GBA.out.bel) | exact HSS.out _ (HBX.out _ G3.out.bel) | exact HSS.out _ (HBX.out _ (G3.out.alloc _).bel) | exact HSS.out _ (HBX.out _ G4.out.bel))
            (first
              | (refine step_app (o := ⟨some 61, _, _, _, _, _⟩) _ w3.heap.size rfl _ _ 30 3 rfl (.int .i64 0) 1 8 Try.underlying30 info_int rfl (by decide) (by decide) u9 _ _ rfl (by with_reducible first | exact GA.out.o1 | exact GAB.out.o1 | exact GBA.out.o1) (some ⟨_, 0, none⟩) 1 1 [.int .i64 z] rfl (by with_reducible first | exact src_cell CA.out rfl | exact src_cell CAB.out rfl | exact src_cell CBA.out rfl) HLA.out (by with_reducible first | exact GA.out.hi | exact GAB.out.hi | exact GBA.out.hi) ?_; intro v3' wa ho3 hg3' hat3; have G3 := Box.mk (by with_reducible first | exact GA.out.app1 ho3 hg3' hat3 | exact GAB.out.app1 ho3 hg3' hat3 | exact GBA.out.app1 ho3 hg3' hat3 : TwoI w3 wa w3.heap.size v3' u10 (D.map (·.sz) ++ [z]) (D.map (·.ov))); have HG3 := Box.mk hg3'; clear ho3 hg3' hat3)
              | (refine step_app (o := ⟨some 69, _, _, _, _, _⟩) _ w3.heap.size rfl _ _ 30 3 rfl (.int .i64 0) 1 8 Try.underlying30 info_int rfl (by decide) (by decide) u10 _ _ rfl (by with_reducible first | exact (G3.out.alloc _).o2 | exact G3.out.o2) (some ⟨_, 0, none⟩) 1 1 [.int .i64 mo] rfl (by with_reducible first | exact src_one _ _ _ rfl | exact src_cell (HG3.out.cell EAB.out (NW.out _ (Nat.le_succ _))) rfl | exact src_cell (HG3.out.cell EBA.out (NW.out _ (Nat.le_refl _))) rfl) HLB.out (by with_reducible first | exact (G3.out.alloc _).hi | exact G3.out.hi) ?_; intro v4' wb ho4 hg4' hat4; have G4 := Box.mk (by with_reducible first | exact (G3.out.alloc _).app2 ho4 hg4' hat4 | exact G3.out.app2 ho4 hg4' hat4 : TwoI w3 wb w3.heap.size v3' v4' (D.map (·.sz) ++ [z]) (D.map (·.ov) ++ [mo])); have HG4 := Box.mk hg4'; clear ho4 hg4' hat4))
          all_goals
            clear HLA HLB G0 GA GB GAB GBA CA CAB EB EBA EAB CBA NW HG3 HG4 G3
            go_wp2_with fail
            refine ⟨⟨j + 1, by omega, by go_num, ⟨by rw [HT2.out, HN1.out, HN2.out]; exact G4.out⟩⟩, ?_⟩
            simp [intOf] <;> omega
        · obtain rfl : j = n2 := by omega
          have e : (prM m).take j = prM m := List.take_of_length_le (by rw [prM_length, HM.out.pr.len]; exact Nat.le_refl _)
          rw [e, ← HTK.out] at HT
          go_wp2_with fail
          go_roundw
          case rel => exact ⟨k + 1, by omega, by go_num, HT⟩
          case measure => simp [intOf] <;> omega
    · obtain rfl : k = n := by omega
      have e : ms.take k = ms := List.take_of_length_le (by rw [H.out.len]; exact Nat.le_refl _)
      rw [e] at HT
      clear e
      have hw1 : IntKind.i64.wrap (x0 + xr) = x0 + xr := wrap_i64 (by omega) (by omega)
      obtain ⟨B9, c9, e9, S9⟩ := own_ints HT.out.o1 (by rw [List.length_map, LIM_eq, ← HNP.out]; omega)
      obtain ⟨B10, c10, e10, S10⟩ := own_ints HT.out.o2 (by rw [List.length_map, LIM_eq, ← HNP.out]; omega)
      rw [List.length_map, ← HNP.out] at e9 e10 S9 S10
      have HS9 := Box.mk S9
      have HS10 := Box.mk S10
      have HS4 := Box.mk (HS3.out.below mono_int HT.out.bel)
      have HBr := Box.mk (below_tr HB3.out HB3.out.size HT.out.bel)
      subst e9 e10
      clear S9 S10 HT HS3 HB3
      generalize prs ms = ps at *
      generalize hwb : wr = wb at *
      clear hwb
      go_wp2_with fail
      go_loopw [13, 14, 15, 16] (fun i _ _ _ wx => ∃ k : Nat, k ≤ np ∧ i = .int .i64 k ∧ Box (Below wb.heap.size wb wx)) (fun i _ _ _ _ => np - (intOf i).toNat)
      case atStart => exact ⟨0, Nat.zero_le _, rfl, ⟨Below.refl _ _⟩⟩
      case round =>
        obtain ⟨i, hi, rfl, HB⟩ := hrel
        by_cases hil : i < np
        · have hpi : ∃ p, ps[i]? = some p := ⟨_, List.getElem?_eq_getElem (by rw [← HNP.out]; exact hil)⟩
          obtain ⟨p, hp⟩ := hpi
          obtain ⟨f1, f2, f3⟩ := HFIT.out i p hp
          have hadr := HADR.out i p hp
          obtain ⟨b4, o4, xa, rfl, hb4, hx4, hc4⟩ := HS4.out.int_at i hil
          obtain ⟨b9, o9, xz, rfl, hb9, hx9, hc9⟩ := HS9.out.int_at i hil
          obtain ⟨b10, o10, xo, rfl, hb10, hx10, hc10⟩ := HS10.out.int_at i hil
          rw [hadr] at hx4
          rw [List.getElem?_map, hp] at hx9 hx10
          injection hx4 with hx4
          injection hx9 with hx9
          injection hx10 with hx10
          have hx4 : adr ps i p = xa := hx4
          have hx9 : p.sz = xz := hx9
          have hx10 : p.ov = xo := hx10
          have HP := Box.mk (And.intro hp (And.intro hx4 (And.intro hx9 hx10)))
          have hsz := HGP.out.sz p (List.mem_iff_getElem?.2 ⟨i, hp⟩)
          rw [hx4, hx9, hx10] at f3
          rw [hx4] at f1 f2
          rw [hx9] at hsz
          have HC := Box.mk (And.intro hc4 (And.intro hc9 hc10))
          have HBl := Box.mk (And.intro hb4 (And.intro hb9 hb10))
          replace hc4 := cellk HB.out hb4 hc4
          replace hc9 := cellk HB.out hb9 hc9
          replace hc10 := cellk HB.out hb10 hc10
          clear hx4 hx9 hx10 hp hadr hb4 hb9 hb10
          have hw2 : IntKind.i64.wrap (xa + xz) = xa + xz := wrap_i64 (by omega) (by omega)
          generalize hE : (if xo = 0 then x0 else x0 + xr) = E at f3
          have HE := Box.mk hE
          clear hE
          go_upto_if 95 with fail
          go_cut [14] (fun t14 wx => t14 = .int .i64 E ∧ wx = wr)
          case first =>
            by_cases ho : xo = 0
            · subst ho
              go_wp2_with fail
              go_meet
              exact ⟨vi (by rw [← HE.out]; simp), rfl⟩
            · have hq : (xo == 0) = false := by simpa using ho
              go_wp2_with fail
              go_meet
              exact ⟨vi (by rw [← HE.out, if_neg ho]), rfl⟩
          case rest =>
            obtain ⟨rfl, rfl⟩ := hcut
            have hnn : ¬ (xa < 0) := by omega
            have hgt : ¬ (E < xa + xz) := by omega
            go_upto_region 23 with fail
            go_quiet (fail)
            have HBq : Box (Below wb.heap.size wb (wc.drewN nq)) := ⟨⟨HB.out.os, HB.out.tape, HB.out.output, HB.out.size, HB.out.block⟩⟩
            clear hnn hgt hc4 hc9 hc10
            go_wp2_with fail
            go_loopw [15, 16] (fun j _ wx => ∃ k : Nat, k ≤ i ∧ j = .int .i64 k ∧ Box (Below wb.heap.size wb wx)) (fun j _ _ => i - (intOf j).toNat)
            case atStart => exact ⟨0, Nat.zero_le _, rfl, HBq⟩
            case round =>
              clear HBq HB
              obtain ⟨j, hj, rfl, HB⟩ := hrel
              by_cases hjl : j < i
              · obtain ⟨q, hqq⟩ : ∃ q, ps[j]? = some q := ⟨_, List.getElem?_eq_getElem (by rw [← HNP.out]; omega)⟩
                obtain ⟨g1, g2, _⟩ := HFIT.out j q hqq
                have hadr := HADR.out j q hqq
                obtain ⟨b4', o4', ya, e4, hb4, hx4, gc4⟩ := HS4.out.int_at j (by omega)
                obtain ⟨b9', o9', yz, e9, hb9, hx9, gc9⟩ := HS9.out.int_at j (by omega)
                obtain ⟨b10', o10', yo, e10, hb10, hx10, gc10⟩ := HS10.out.int_at j (by omega)
                injection e4 with e4; injection e4 with e4 e4'; subst e4 e4'
                injection e9 with e9; injection e9 with e9 e9'; subst e9 e9'
                injection e10 with e10; injection e10 with e10 e10'; subst e10 e10'
                rw [hadr] at hx4
                rw [List.getElem?_map, hqq] at hx9 hx10
                injection hx4 with hx4
                injection hx9 with hx9
                injection hx10 with hx10
                have hx4 : adr ps j q = ya := hx4
                have hx9 : q.sz = yz := hx9
                have hx10 : q.ov = yo := hx10
                have gsz := HGP.out.sz q (List.mem_iff_getElem?.2 ⟨j, hqq⟩)
                have HAP : Box ((xo = yo ∨ xo = 0 ∨ yo = 0) → ¬ (xa < ya + yz ∧ ya < xa + xz)) := ⟨fun ht => by
                  have := adr_apart HGP.out HP.out.1 hqq hjl (by rw [HP.out.2.2.2, hx10]; exact ht)
                  rwa [HP.out.2.1, HP.out.2.2.1, hx4, hx9] at this⟩
                rw [hx4] at g1 g2
                rw [hx9] at gsz
                have HG4 := Box.mk (And.intro gc4 gc9)
                replace gc4 := cellk HB.out hb4 gc4
                replace gc9 := cellk HB.out hb9 gc9
                replace gc10 := cellk HB.out hb10 gc10
                have hc4 := cellk HB.out HBl.out.1 HC.out.1
                have hc9 := cellk HB.out HBl.out.2.1 HC.out.2.1
                have hc10 := cellk HB.out HBl.out.2.2 HC.out.2.2
                have hw3 : IntKind.i64.wrap (ya + yz) = ya + yz := wrap_i64 (by omega) (by omega)
                have hj2 : j < np := by omega
                clear hx4 hx9 hx10 hadr hqq hb4 hb9 hb10
                go_upto_region 28 with fail
                go_cut [16] (fun t16 wx => t16 = .bool (decide (xo = yo ∨ xo = 0 ∨ yo = 0)) ∧ Box (Below wb.heap.size wb wx))
                case first =>
                  by_cases h1 : xo = yo
                  · have q1 : (xo == yo) = true := by simpa using h1
                    clear h1
                    go_quiet (fail)
                    have HBq : Box (Below wb.heap.size wb (wr.drewN nq)) := ⟨⟨HB.out.os, HB.out.tape, HB.out.output, HB.out.size, HB.out.block⟩⟩
                    go_wp2_with fail
                    all_goals (go_meet; exact ⟨vb (by simp at q1; simp [q1]), HBq⟩)
                  · have q1 : (xo == yo) = false := by simpa using h1
                    by_cases h2 : xo = 0
                    · have q2 : (xo == 0) = true := by simpa using h2
                      clear h1 h2
                      go_quiet (fail)
                      have HBq : Box (Below wb.heap.size wb (wr.drewN nq)) := ⟨⟨HB.out.os, HB.out.tape, HB.out.output, HB.out.size, HB.out.block⟩⟩
                      go_wp2_with fail
                      all_goals (go_meet; exact ⟨vb (by simp at q2; simp [q2]), HBq⟩)
                    · have q2 : (xo == 0) = false := by simpa using h2
                      by_cases h3 : yo = 0
                      · have q3 : (yo == 0) = true := by simpa using h3
                        clear h1 h2 h3
                        go_quiet (fail)
                        have HBq : Box (Below wb.heap.size wb (wr.drewN nq)) := ⟨⟨HB.out.os, HB.out.tape, HB.out.output, HB.out.size, HB.out.block⟩⟩
                        go_wp2_with fail
                        all_goals (go_meet; exact ⟨vb (by simp at q3; simp [q3]), HBq⟩)
                      · have q3 : (yo == 0) = false := by simpa using h3
                        clear h1 h2 h3
                        go_quiet (fail)
                        have HBq : Box (Below wb.heap.size wb (wr.drewN nq)) := ⟨⟨HB.out.os, HB.out.tape, HB.out.output, HB.out.size, HB.out.block⟩⟩
                        go_wp2_with fail
                        all_goals (go_meet; exact ⟨vb (by simp at q1 q2 q3; simp [q1, q2, q3]), HBq⟩)
                case rest =>
                  obtain ⟨rfl, HBc⟩ := hcut
                  clear hc4 hc9 hc10 gc4 gc9 gc10
                  have hc4 := cellk HBc.out HBl.out.1 HC.out.1
                  have hc9 := cellk HBc.out HBl.out.2.1 HC.out.2.1
                  have gc4 := cellk HBc.out HBl.out.1 HG4.out.1
                  have gc9 := cellk HBc.out HBl.out.2.1 HG4.out.2
                  by_cases hT : xo = yo ∨ xo = 0 ∨ yo = 0
                  · have ha := HAP.out hT
                    have eT : decide (xo = yo ∨ xo = 0 ∨ yo = 0) = true := by simpa using hT
                    rw [eT]
                    clear eT hT
                    by_cases h1 : xa < ya + yz
                    · have h2 : ¬ (ya < xa + xz) := fun h => ha ⟨h1, h⟩
                      clear ha
                      go_upto_region 29 with fail
                      go_quiet (fail)
                      have HBq : Box (Below wb.heap.size wb (wc.drewN nq)) := ⟨⟨HBc.out.os, HBc.out.tape, HBc.out.output, HBc.out.size, HBc.out.block⟩⟩
                      go_wp2_with fail
                      refine ⟨⟨j + 1, by omega, by go_num, HBq⟩, ?_⟩
                      simp [intOf] <;> omega
                    · clear ha
                      go_upto_region 29 with fail
                      go_quiet (fail)
                      have HBq : Box (Below wb.heap.size wb (wc.drewN nq)) := ⟨⟨HBc.out.os, HBc.out.tape, HBc.out.output, HBc.out.size, HBc.out.block⟩⟩
                      go_wp2_with fail
                      refine ⟨⟨j + 1, by omega, by go_num, HBq⟩, ?_⟩
                      simp [intOf] <;> omega
                  · have eT : decide (xo = yo ∨ xo = 0 ∨ yo = 0) = false := by simpa using hT
                    rw [eT]
                    clear eT hT
                    go_upto_region 29 with fail
                    go_quiet (fail)
                    have HBq : Box (Below wb.heap.size wb (wc.drewN nq)) := ⟨⟨HBc.out.os, HBc.out.tape, HBc.out.output, HBc.out.size, HBc.out.block⟩⟩
                    go_wp2_with fail
                    refine ⟨⟨j + 1, by omega, by go_num, HBq⟩, ?_⟩
                    simp [intOf] <;> omega
              · obtain rfl : j = i := by omega
                go_wp2_with fail
                go_roundw
                case rel => exact ⟨j + 1, by omega, by go_num, HB⟩
                case measure => simp [intOf] <;> omega
        · obtain rfl : i = np := by omega
          go_wp2_with fail
          refine (c_known wr).mono ?_
          rintro e w9 ⟨rfl, hb9⟩
          have HB9 := Box.mk (below_tr (below_tr HBr.out HBr.out.size HB.out) (by have := HB.out.size; have := HBr.out.size; omega) hb9)
          clear hb9
          go_wp2_with fail
          go_ret
          exact ⟨rfl, HB9.out⟩
end Go.Proofs.Ytchhjldopecliaa
