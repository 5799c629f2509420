/-
What the reference's all computes. Condition: modules that Validate lets in.
-/
import Derived.Test.YtchhjldopecliaaF4
import Derived.Deep.RegionHeld3
namespace Go.Proofs.Ytchhjldopecliaa
open Go.RowKit

/-- A procedure of the reference. -/
def RPc : World → Pc → List Value → Prop := fun w p cs => ∃ A n c, cs = [.string p.nm, .int .i64 p.ov, .int .i64 p.sz, .slice A n c] ∧ p.nm.size ≤ LIM ∧ SlR w 1 RStr A n c p.cl
theorem mono_pc : Mono RPc := by
  rintro w w' p cs hb ⟨A, n, c, e, h1, h2⟩
  exact ⟨A, n, c, e, h1, h2.below mono_str hb⟩
theorem SlR.pc_at {w : World} {A : Option Addr} {n c : Nat} {xs : List Pc} (h : SlR w 4 RPc A n c xs) (k : Nat) (hk : k < n) :
    ∃ b off p A1 n1 c1, A = some ⟨b, off, none⟩ ∧ b < w.heap.size ∧ xs[k]? = some p ∧ p.nm.size ≤ LIM ∧ SlR w 1 RStr A1 n1 c1 p.cl ∧
      w.cell? ⟨b, off + k * 4, none⟩ = some (.string p.nm) ∧ w.cell? ⟨b, off + k * 4 + 1, none⟩ = some (.int .i64 p.ov) ∧ w.cell? ⟨b, off + k * 4 + 2, none⟩ = some (.int .i64 p.sz) ∧
      w.cell? ⟨b, off + k * 4 + 3, none⟩ = some (.slice A1 n1 c1) := by
  obtain ⟨b, off, p, cs, e, hlt, hx, hl, ⟨A1, n1, c1, rfl, h1, h2⟩, hc⟩ := h.at_ k hk
  exact ⟨b, off, p, A1, n1, c1, e, hlt, hx, h1, h2, by simpa using hc 0 _ rfl, hc 1 _ rfl, hc 2 _ rfl, hc 3 _ rfl⟩

theorem info_pc : (Try.prog.info? 72).map (fun i => (i.zero, i.size, i.bytes)) = some (some (.agg #[.string ByteArray.empty, .int .i64 0, .int .i64 0, .slice none 0 0]), 4, 56) := by kernel_rfl
theorem pc_zero_size : (Value.agg #[.string ByteArray.empty, .int .i64 0, .int .i64 0, .slice none 0 0]).cells.size = 4 := by kernel_rfl

set_option maxRecDepth 100000 in
set_option maxHeartbeats 4000000 in
theorem r_all (A : Option Addr) (n c : Nat) (ms : List Md) (w : World) (h : SlR w 5 RMd A n c ms) (hg : Good ms) :
    Calls Try.prog 59 #[.slice A n c] w fun e w' => ∃ A' c', e = .returned (.slice A' (prs ms).length c') ∧ SlR w' 4 RPc A' (prs ms).length c' (prs ms) ∧ Below w.heap.size w w' := by
  have hlim := h.lim
  have H := Box.mk h
  have HG := Box.mk hg
  clear h hg
  go_enter Try.func59, Try.ntmps59
  go_wp2_with fail
  go_loopw [3, 4, 5] (fun v i _ wr => ∃ k : Nat, k ≤ n ∧ i = .int .i64 k ∧ Box (Below w.heap.size w wr) ∧ Box (OwnL wr w w.heap.size 72 4 RPc v (prs (ms.take k)))) (fun _ i _ _ => n - (intOf i).toNat)
  case atStart => exact ⟨0, Nat.zero_le _, rfl, ⟨Below.refl _ _⟩, ⟨OwnL.nil⟩⟩
  case round =>
    obtain ⟨k, hk, rfl, HB, HO⟩ := hrel
    by_cases hlt : k < n
    · obtain ⟨b, off, m, A1, n1, c1, A2, n2, c2, A3, n3, c3, rfl, hb, hm, hM, h0, h1, h2, h3, h4⟩ := H.out.md_at k hlt
      have hfit := HG.out.fit (List.mem_iff_getElem?.2 ⟨k, hm⟩)
      rw [hM.pr.len, hM.sz.len, hM.cl.len] at hfit
      obtain ⟨e2, e3⟩ := hfit
      subst e2 e3
      have HM := Box.mk hM
      have HX := Box.mk hm
      have HC := Box.mk (And.intro hb (And.intro h1 (And.intro h2 (And.intro h3 h4))))
      have hl1 := hM.pr.lim
      have HT : Box (prs (ms.take (k + 1)) = prs (ms.take k) ++ prM m) := ⟨prs_take hm⟩
      have HLEN : Box ((prs (ms.take k)).length + n3 ≤ 100) := ⟨by
        have e1 := sumL_mono ms (k + 1)
        rw [sumL_take hm, hM.pr.len] at e1
        have := HG.out.total
        rw [prs_length]
        omega⟩
      clear hM hm hb h0 h1 h2 h3 h4
      go_wp2_with fail
      go_loopw [3, 5] (fun v i wx => ∃ j : Nat, j ≤ n3 ∧ i = .int .i64 j ∧ Box (Below w.heap.size w wx) ∧ Box (OwnL wx w w.heap.size 72 4 RPc v (prs (ms.take k) ++ (prM m).take j))) (fun _ i _ => n3 - (intOf i).toNat)
      case atStart => exact ⟨0, Nat.zero_le _, rfl, HB, ⟨by simpa using HO.out⟩⟩
      case round =>
        clear HB HO
        obtain ⟨j, hj, rfl, HB, HO⟩ := hrel
        obtain ⟨hb, h1, h2, h3, h4⟩ := HC.out
        replace h2 := cellk HB.out hb h2
        clear hb h1 h3 h4
        by_cases hjl : j < n3
        · obtain ⟨b5, o5, x, rfl, hb5, hx5, hs5, hc5⟩ := HM.out.pr.str_at j hjl
          obtain ⟨b6, o6, z, rfl, hb6, hx6, hc6⟩ := HM.out.sz.int_at j hjl
          obtain ⟨b7, o7, l, A7, n7, c7, rfl, hb7, hx7, hc7, hl7⟩ := HM.out.cl.sl_at j hjl
          have HS : Box (∀ W : World, Below w.heap.size w W → W.cell? ⟨b, off + k * 5 + 2, none⟩ = some (.slice (some ⟨b5, o5, none⟩) n3 c1) ∧ W.cell? ⟨b5, o5 + j, none⟩ = some (.string x) ∧ W.cell? ⟨b, off + k * 5 + 1, none⟩ = some (.int .i64 m.ov) ∧
            W.cell? ⟨b, off + k * 5 + 3, none⟩ = some (.slice (some ⟨b6, o6, none⟩) n3 c2) ∧ W.cell? ⟨b6, o6 + j, none⟩ = some (.int .i64 z) ∧ W.cell? ⟨b, off + k * 5 + 4, none⟩ = some (.slice (some ⟨b7, o7, none⟩) n3 c3) ∧ W.cell? ⟨b7, o7 + j, none⟩ = some (.slice A7 n7 c7)) := ⟨fun W hW => by
            obtain ⟨hb, h1, h2, h3, h4⟩ := HC.out
            exact ⟨cellk hW hb h2, cellk hW hb5 hc5, cellk hW hb h1, cellk hW hb h3, cellk hW hb6 hc6, cellk hW hb h4, cellk hW hb7 hc7⟩⟩
          clear hc5 hc6 hc7
          have hpc : Box (pcOf m j = ⟨x, m.ov, z, l⟩) := ⟨by unfold pcOf; rw [getD_some hx5, getD_some hx6, getD_some hx7]⟩
          have HL7 := Box.mk hl7
          have HS5 := Box.mk hs5
          have hjm : Box (j < m.pr.length) := ⟨by rw [HM.out.pr.len]; exact hjl⟩
          clear hx5 hx6 hx7 hl7 hs5
          have HBd : Box (Below w.heap.size w wr.drew) := ⟨⟨HB.out.os, HB.out.tape, HB.out.output, HB.out.size, HB.out.block⟩⟩
          have HOd : Box (OwnL wr.drew w w.heap.size 72 4 RPc u3 (prs (ms.take k) ++ (prM m).take j)) := HO
          obtain ⟨flat, ho, hP⟩ := HOd.out.opened
          have HFL := Box.mk ho
          have HPU := Box.mk hP
          have HLN : Box (((prs (ms.take k) ++ (prM m).take j).length + 1) * 56 ≤ 140737488355328) := ⟨by
            have := HLEN.out
            rw [List.length_append, List.length_take, prM_length]
            omega⟩
          clear ho hP
          go_upto_region 8 with fail
          go_region_held3 (fun W : World => W.cell? ⟨b, off + k * 5 + 2, none⟩ = some (.slice (some ⟨b5, o5, none⟩) n3 c1) ∧ W.cell? ⟨b5, o5 + j, none⟩ = some (.string x) ∧ W.cell? ⟨b, off + k * 5 + 1, none⟩ = some (.int .i64 m.ov) ∧
            W.cell? ⟨b, off + k * 5 + 3, none⟩ = some (.slice (some ⟨b6, o6, none⟩) n3 c2) ∧ W.cell? ⟨b6, o6 + j, none⟩ = some (.int .i64 z) ∧ W.cell? ⟨b, off + k * 5 + 4, none⟩ = some (.slice (some ⟨b7, o7, none⟩) n3 c3) ∧ W.cell? ⟨b7, o7 + j, none⟩ = some (.slice A7 n7 c7))
            (first | exact HS.out _ HBd.out | exact HS.out _ (bel_alloc2 HBd.out _) | exact HS.out _ HBa.out)
            (first | (refine step_app _ w.heap.size rfl _ _ 68 72 rfl (.agg #[.string ByteArray.empty, .int .i64 0, .int .i64 0, .slice none 0 0]) 4 56 Try.underlying68 info_pc pc_zero_size (by decide) (by decide) u3 _ flat rfl (HFL.out.alloc _) (some ⟨_, 0, none⟩) 1 1 [.string x, .int .i64 m.ov, .int .i64 z, .slice A7 n7 c7] rfl (src_new_at _ _ _ _ _ rfl rfl (by simp [Value.oneCell'])) HLN.out (Nat.le_trans HBd.out.size (bel_alloc _ _).size) ?_; intro v3' wa ho3 hg3' hat3; have hg3 := grown_al wr.drew hg3' rfl rfl rfl rfl; have HBa : Box (Below w.heap.size w wa) := ⟨HBd.out.grown hg3 HBd.out.size (fun q hq => (HOd.out.lt q hq).1)⟩; have HO3 := Box.mk ho3; clear ho3 hg3 hg3' hat3))
          have HP' : Box (OwnL wa w w.heap.size 72 4 RPc v3' (prs (ms.take k) ++ (prM m).take (j + 1))) := ⟨by
            rw [prM_take m j hjm.out, ← List.append_assoc, hpc.out]
            exact HPU.out wa v3' ⟨x, m.ov, z, l⟩ _ rfl ⟨A7, n7, c7, rfl, HS5.out, HL7.out⟩ HO3.out⟩
          go_wp2_with fail
          go_roundw
          case rel => exact ⟨j + 1, by omega, by go_num, HBa, HP'⟩
          case measure => simp [intOf]; omega
        · obtain rfl : j = n3 := by omega
          have e : (prM m).take j = prM m := List.take_of_length_le (by rw [prM_length, HM.out.pr.len]; exact Nat.le_refl _)
          rw [e, ← HT.out] at HO
          go_wp2_with fail
          go_roundw
          case rel => exact ⟨k + 1, by omega, by go_num, HB, HO⟩
          case measure => simp [intOf]; omega
    · obtain rfl : k = n := by omega
      rw [List.take_of_length_le (by rw [H.out.len]; exact Nat.le_refl _)] at HO
      obtain ⟨A', c', e', hs⟩ := HO.out.slr mono_pc HB.out (by have := HG.out.plen; rw [LIM_eq]; omega)
      have HS := Box.mk hs
      subst e'
      clear hs HO
      go_wp2_with fail
      go_ret
      exact ⟨_, _, rfl, HS.out, HB.out⟩
end Go.Proofs.Ytchhjldopecliaa
