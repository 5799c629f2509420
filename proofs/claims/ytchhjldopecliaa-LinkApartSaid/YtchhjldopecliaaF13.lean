/-
What the reference's Link computes. Condition: the argument is a slice of modules.
-/
import Derived.Test.YtchhjldopecliaaL20
namespace Go.Proofs.Ytchhjldopecliaa
open Go.RowKit

theorem opn_good {ms : List Md} (ho : opn ms = 0) : Good ms := by
  apply vld_good
  unfold opn at ho
  by_cases hz : vld ms = 0
  · exact hz
  · rw [if_pos hz] at ho; exact ho

set_option maxRecDepth 100000 in
set_option maxHeartbeats 8000000 in
theorem r_Link (A : Option Addr) (n c : Nat) (ms : List Md) (w : World) (h : SlR w 5 RMd A n c ms) :
    Calls Try.prog 27 #[.slice A n c] w fun e w' => ∃ A1 c1 A2 c2, e = .returned (.tuple #[.slice A1 (lnk ms).1.length c1, .slice A2 (lnk ms).2.1.length c2, .int .i64 (lnk ms).2.2]) ∧
      SlR w' 1 RStr A1 (lnk ms).1.length c1 (lnk ms).1 ∧ SlR w' 1 RInt A2 (lnk ms).2.1.length c2 (lnk ms).2.1 ∧ Below w.heap.size w w' := by
  have hlim := h.lim
  have H := Box.mk h
  clear h
  go_enter Try.func27, Try.ntmps27
  go_wp2_with fail
  refine (r_whole A n c ms w H.out).mono ?_
  rintro e w1 ⟨rfl, hb1⟩
  have HB1 := Box.mk hb1
  clear hb1
  generalize ho : opn ms = V at *
  by_cases h0 : V = 0
  · subst h0
    have HG := Box.mk (opn_good ho)
    have HO : Box (lnk ms = ((prs ms).map (·.nm), adrs (endAt ms 0) [] (prs ms), 0)) := ⟨by simp [lnk, ho]⟩
    have C := Box.mk (r_all A n c ms w1 (H.out.below mono_md HB1.out) HG.out)
    have HGP := Box.mk HG.out.ps
    have HS0 : Box (endAt ms 0 = szAt (prs ms) 0) := ⟨(szAt_prs 0 ms (fun m hm => (HG.out.fit hm).1)).symm⟩
    rw [HS0.out] at HO
    have hpl := HG.out.plen
    clear ho
    generalize prs ms = ps at *
    have CS : Box (∀ (W : World) (B : Option Addr) (cb : Nat), SlR W 4 RPc B ps.length cb ps → Calls Try.prog 58 #[.slice B ps.length cb] W fun e w' => e = .returned (.agg ((szsL ps).map (Value.int .i64)).toArray) ∧ Below W.heap.size W w') := ⟨fun W B cb hW =>
      r_sizes B _ cb ps W hW HGP.out⟩
    have hE : (szsL ps)[0]? = some (szAt ps 0) := by simp [szsL]
    have hRB := HGP.out.bound ps.length 0
    rw [List.take_length] at hRB
    have hl := szsL_length ps
    generalize hq : szsL ps = Q at *
    clear hq
    match Q, hl, CS, hE with
    | [x0, x1, x2, x3, x4, x5, x6, x7, x8, x9, x10, x11, x12, x13, x14, x15], _, CS, hE =>
      have hx0 : x0 = szAt ps 0 := by simpa using hE
      have HX0 := Box.mk hx0
      rw [← hx0] at hRB HO
      clear hE hx0
      simp only [List.map_cons, List.map_nil] at CS
      go_wp2_with fail
      refine C.out.mono ?_
      rintro e w2 ⟨B, cb, rfl, hp, hb2⟩
      have HB2 := Box.mk (below_tr HB1.out HB1.out.size hb2)
      obtain ⟨np, hnp⟩ : ∃ np, np = ps.length := ⟨_, rfl⟩
      rw [← hnp] at hp hpl CS ⊢
      have HP := Box.mk hp
      have HNP := Box.mk hnp
      have hlow : Box (w.heap.size ≤ w2.heap.size) := ⟨HB2.out.size⟩
      clear hp hb2 C hnp
      go_wp2_with fail
      go_loopw [7, 8, 9, 10, 11] (fun v7 v8 i _ _ wr => ∃ k : Nat, k ≤ np ∧ i = .int .i64 k ∧ Box (Below w2.heap.size w2 wr) ∧ Box (wr.ownsRow w2.heap.size 9 1 v7 ((ps.take k).map (·.nm)).length (((ps.take k).map (·.nm)).map Value.string)) ∧ Box (wr.ownsRow w2.heap.size 3 1 v8 (adrs x0 [] (ps.take k)).length ((adrs x0 [] (ps.take k)).map (Value.int .i64))) ∧ Box (Apart v7 v8)) (fun _ _ i _ _ _ => np - (intOf i).toNat)
      case atStart => exact ⟨0, Nat.zero_le _, rfl, ⟨Below.refl _ _⟩, ⟨World.ownsRow_nil _ _ _ _⟩, ⟨World.ownsRow_nil _ _ _ _⟩, ⟨.inl rfl⟩⟩
      case round =>
        obtain ⟨k, hk, rfl, HB, H7, H8, HAP⟩ := hrel
        by_cases hlt : k < np
        · obtain ⟨b, off, p, A1, n1, c1, rfl, hb, hx, hnm, hcl, h0, h1, h2, h3⟩ := HP.out.pc_at k hlt
          have HC := Box.mk (And.intro hb (And.intro h0 (And.intro h1 h2)))
          have HX := Box.mk hx
          have hov := HGP.out.ov p (List.mem_iff_getElem?.2 ⟨k, hx⟩)
          have HNM := Box.mk hnm
          replace h1 := cellk HB.out hb h1
          generalize ho : p.ov = o at *
          have HO' := Box.mk ho
          clear h0 h2 h3 hcl hx hnm ho hb
          go_upto_if 30 with fail
          go_cut [10] (fun t10 wx => t10 = .int .i64 (if 0 < o then x0 else 0) ∧ Box (Below wr.heap.size wr wx))
          case first =>
            by_cases h0 : 0 < o
            · go_wp2_with fail
              refine (CS.out wr _ cb (HP.out.below mono_pc HB.out)).mono ?_
              rintro e w3 ⟨rfl, hb3⟩
              have HB3 := Box.mk hb3
              clear hb3
              have hix := index77 x0 x1 x2 x3 x4 x5 x6 x7 x8 x9 x10 x11 x12 x13 x14 x15
              go_wp2_with fail
              go_meet
              exact ⟨vi (by rw [if_pos h0]), HB3⟩
            · go_wp2_with fail
              go_meet
              exact ⟨vi (by rw [if_neg (by omega)]), ⟨Below.refl _ _⟩⟩
          case rest =>
            obtain ⟨rfl, HBc⟩ := hcut
            have HB3 := Box.mk (below_tr HB.out HB.out.size HBc.out)
            have H7c := Box.mk (own_below H7.out HBc.out)
            have H8c := Box.mk (own_below H8.out HBc.out)
            clear HBc H7 H8 HB h1
            have HXE : Box (0 ≤ (if 0 < o then x0 else 0) ∧ (if 0 < o then x0 else 0) ≤ 1000000) := ⟨by split <;> omega⟩
            have HADR : Box (adrs x0 [] (ps.take (k + 1)) = adrs x0 [] (ps.take k) ++ [(if 0 < o then x0 else 0) + szAt (ps.take k) o.toNat]) := ⟨by rw [adrs_take HX.out, HO'.out]⟩
            have HNM2 : Box ((ps.take (k + 1)).map (·.nm) = (ps.take k).map (·.nm) ++ [p.nm]) := ⟨by rw [List.take_add_one, HX.out]; simp⟩
            have HLA : Box ((((ps.take k).map (·.nm)).length + 1) * 16 ≤ 140737488355328) := ⟨by rw [List.length_map, List.length_take]; omega⟩
            have HLB : Box (((adrs x0 [] (ps.take k)).length + 1) * 8 ≤ 140737488355328) := ⟨by rw [adrs_length, List.length_take]; omega⟩
            generalize (if 0 < o then x0 else 0) = E0 at *
            go_wp2_with fail
            go_loopw [10, 11] (fun t10 i wx => ∃ j : Nat, j ≤ k ∧ i = .int .i64 j ∧ t10 = .int .i64 (E0 + szAt (ps.take j) o.toNat) ∧ Box (Below wc.heap.size wc wx)) (fun _ i _ => k - (intOf i).toNat)
            case atStart => exact ⟨0, Nat.zero_le _, rfl, by simp [szAt], ⟨Below.refl _ _⟩⟩
            case round =>
              obtain ⟨j, hj, rfl, rfl, HBx⟩ := hrel
              have HB4 := Box.mk (below_tr HB3.out HB3.out.size HBx.out)
              by_cases hjl : j < k
              · obtain ⟨b2, off2, p2, A2, n2, c2, e2, hb2, hx2, hnm2, hcl2, g0, g1, g2, g3⟩ := HP.out.pc_at j (by omega)
                injection e2 with e2
                injection e2 with e2 e2'
                subst e2 e2'
                obtain ⟨hb, h0, h1, h2⟩ := HC.out
                replace h1 := cellk HB4.out hb h1
                replace g1 := cellk HB4.out hb2 g1
                replace g2 := cellk HB4.out hb2 g2
                have hbd := HGP.out.bound j o.toNat
                have hsz := HGP.out.sz p2 (List.mem_iff_getElem?.2 ⟨j, hx2⟩)
                have hxe := HXE.out
                have HT : Box (szAt (ps.take (j + 1)) o.toNat = szAt (ps.take j) o.toNat + (if p2.ov = o then p2.sz else 0)) := ⟨by
                  rw [szAt_take hx2]
                  have e : ((o.toNat : Nat) : Int) = o := by omega
                  rw [e]⟩
                clear h0 h2 g0 g3 hnm2 hcl2 hx2 hb
                generalize szAt (ps.take j) o.toNat = Z at *
                generalize p2.sz = z at *
                generalize p2.ov = o2 at *
                go_upto_region 16 with fail
                go_quiet (fail)
                have HBq : Box (Below wc.heap.size wc (wr.drewN nq)) := ⟨⟨HBx.out.os, HBx.out.tape, HBx.out.output, HBx.out.size, HBx.out.block⟩⟩
                by_cases ho2 : o2 = o
                · subst ho2
                  rw [if_pos rfl] at HT
                  go_wp2_with fail
                  go_roundw
                  case rel => exact ⟨j + 1, by omega, by go_num, vi (by rw [HT.out]; omega), HBq⟩
                  case measure => simp [intOf] <;> omega
                · rw [if_neg ho2] at HT
                  have hq : (o2 == o) = false := by simpa using ho2
                  go_wp2_with fail
                  go_roundw
                  case rel => exact ⟨j + 1, by omega, by go_num, vi (by rw [HT.out]; omega), HBq⟩
                  case measure => simp [intOf] <;> omega
              · obtain rfl : j = k := by omega
                obtain ⟨hb, h0, h1, h2⟩ := HC.out
                replace h0 := cellk HB4.out hb h0
                have H7d := Box.mk (own_below H7c.out HBx.out)
                have H8d := Box.mk (own_below H8c.out HBx.out)
                have HBS : Box (w2.heap.size ≤ wr.heap.size) := ⟨HB4.out.size⟩
                clear hb h1 h2 H7c H8c HBx HB3
                generalize E0 + szAt (ps.take j) o.toNat = xE at *
                go_wp2_with (first
                  | (at_builtin; refine wpL_app (o := ⟨some 64, _, _, _, _, _⟩) _ w2.heap.size rfl _ _ 23 9 rfl (.string ByteArray.empty) 1 16 Try.underlying23 info_str rfl (by decide) (by decide) u7 _ _ rfl (H7d.out.alloc _) (some ⟨_, 0, none⟩) 1 1 [.string p.nm] rfl (src_at _ _ _ _ (by simp) rfl) HLA.out (Nat.le_trans HBS.out (bel_alloc _ _).size) ?_; intro v7' wa ho7 hg7 hat7; have H8a := Box.mk (own_other (H8d.out.alloc _) hg7 HAP.out.symm); have HBa := Box.mk ((bel_alloc2 HB4.out _).grown hg7 (Nat.le_trans HBS.out (bel_alloc _ _).size) (fun q hq => (H7d.out.lt q hq).1)); have HO7 := Box.mk ho7; have HAPa := Box.mk (HAP.out.step (L := wr.heap.size) (fun B e => (H8d.out.lt B e).2) (Nat.le_of_lt (by simp)) hat7); clear ho7 hg7 hat7)
                  | (at_builtin; refine wpL_app (o := ⟨some 68, _, _, _, _, _⟩) _ w2.heap.size rfl _ _ 30 3 rfl (.int .i64 0) 1 8 Try.underlying30 info_int rfl (by decide) (by decide) u8 _ _ rfl (H8a.out.alloc _) (some ⟨_, 0, none⟩) 1 1 [.int .i64 xE] rfl (src_at _ _ _ _ (by simp) rfl) HLB.out (Nat.le_trans HBa.out.size (bel_alloc _ _).size) ?_; intro v8' wb ho8 hg8 hat8; have H7b := Box.mk (own_other (HO7.out.alloc _) hg8 HAPa.out); have HBb := Box.mk ((bel_alloc2 HBa.out _).grown hg8 (Nat.le_trans HBa.out.size (bel_alloc _ _).size) (fun q hq => (H8a.out.lt q hq).1)); have HO8 := Box.mk ho8; have HAPb := Box.mk (Apart.step (L := wa.heap.size) HAPa.out.symm (fun B e => (HO7.out.lt B e).2) (Nat.le_of_lt (by simp)) hat8).symm; clear ho8 hg8 hat8))
                go_roundw
                case rel => exact ⟨j + 1, by omega, by go_num, HBb, ⟨by rw [HNM2.out, List.map_append, List.length_append]; exact H7b.out⟩, ⟨by rw [HADR.out, List.map_append, List.length_append]; exact HO8.out⟩, HAPb⟩
                case measure => simp [intOf] <;> omega
        · obtain rfl : k = np := by omega
          have e : ps.take k = ps := List.take_of_length_le (by rw [← HNP.out]; exact Nat.le_refl _)
          rw [e] at H7 H8
          have hszs : ∀ x ∈ ps.map (·.nm), x.size ≤ LIM := by
            intro x hx
            obtain ⟨p, hp, rfl⟩ := List.mem_map.1 hx
            obtain ⟨i, hi⟩ := List.mem_iff_getElem?.1 hp
            have hil := (List.getElem?_eq_some_iff.1 hi).1
            obtain ⟨b, off, p', A1, n1, c1, _, _, hx', hnm, _⟩ := HP.out.pc_at i (by rw [HNP.out]; exact hil)
            rw [hi] at hx'
            injection hx' with hx'
            subst hx'
            exact hnm
          obtain ⟨B7, c7, e7, S7⟩ := own_strs H7.out hszs (by rw [List.length_map, LIM_eq, ← HNP.out]; omega)
          obtain ⟨B8, c8, e8, S8⟩ := own_ints H8.out (by rw [adrs_length, LIM_eq, ← HNP.out]; omega)
          have HS7 := Box.mk S7
          have HS8 := Box.mk S8
          subst e7 e8
          clear H7 H8 S7 S8 hszs e HAP
          go_wp2_with fail
          go_ret3
          rw [HO.out]
          exact ⟨_, _, _, _, rfl, HS7.out, HS8.out, below_tr HB2.out HB2.out.size HB.out⟩
  · have HO : Box (lnk ms = ([], [], V)) := ⟨by simp [lnk, ho, h0]⟩
    have h0' : (V != 0) = true := by simpa using h0
    clear ho
    go_wp2_with fail
    go_ret3
    rw [HO.out]
    exact ⟨_, _, _, _, rfl, slr_nil _ _ _ _ _, slr_nil _ _ _ _ _, HB1.out⟩
end Go.Proofs.Ytchhjldopecliaa
