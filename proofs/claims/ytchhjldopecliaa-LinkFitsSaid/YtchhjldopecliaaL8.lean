/-
What procs computes. Condition: modules that fit, without a name twice.
-/
import Derived.Test.YtchhjldopecliaaP2
namespace Go.Proofs.Ytchhjldopecliaa
open Go.RowKit

theorem zero_proc (w : World) : (zeroValue 64).run Try.prog w = .ok (.agg #[.int .i64 0, .slice none 0 0]) w := by
  kernel_rfl

theorem keyS : KeyOK Try.prog 9 encS := keyOK_string Try.underlying9

theorem getD_some {α : Type} {l : List α} {i : Nat} {x d : α} (h : l[i]? = some x) : l.getD i d = x := by rw [List.getD_eq_getElem?_getD, h]; rfl
theorem prM_last {ms : List Md} {k : Nat} {m : Md} {i : Nat} (hd : (procsOf ms).Nodup) (hk : ms[k]? = some m) (hi : i < m.pr.length) :
    (pcOf m i).nm ∉ (prs (ms.take k) ++ (prM m).take i).map (·.nm) := by
  intro hx
  rw [← prs_nm] at hd
  have e : prs ms = (prs (ms.take k) ++ (prM m).take i) ++ (pcOf m i :: ((prM m).drop (i + 1) ++ prs (ms.drop (k + 1)))) := by
    have e1 : prs ms = prs (ms.take (k + 1)) ++ prs (ms.drop (k + 1)) := by
      unfold prs
      rw [← List.flatMap_append, List.take_append_drop]
    have e2 : prM m = (prM m).take i ++ pcOf m i :: (prM m).drop (i + 1) := by
      have h1 : i < (prM m).length := by rw [prM_length]; exact hi
      have h2 : (prM m)[i] = pcOf m i := by
        have := prM_get m i hi
        rw [List.getElem?_eq_getElem h1] at this
        exact Option.some.inj this
      rw [← h2, ← List.drop_eq_getElem_cons h1, List.take_append_drop]
    rw [e1, prs_take hk]
    conv => lhs; rw [e2]
    simp
  rw [e, List.map_append, List.nodup_append] at hd
  exact hd.2.2 _ hx _ (by simp) rfl

set_option maxRecDepth 100000 in
set_option maxHeartbeats 4000000 in
theorem c_procs (A : Option Addr) (n c : Nat) (ms : List Md) (w : World) (h : SlR w 5 RMd A n c ms) (hf : ∀ m ∈ ms, misfit m = false) (hd : (procsOf ms).Nodup) :
    Calls Try.prog 54 #[.slice A n c] w fun e w' => ∃ b, e = .returned (.map (some b)) ∧ MapP w' b (prs ms) ∧ w.heap.size ≤ b ∧ Below w.heap.size w w' := by
  have hlim := h.lim
  have H := Box.mk h
  have HF := Box.mk hf
  have HD := Box.mk hd
  clear h hf hd
  have hmm := @run_makeMap Try.prog
  go_enter Try.func54, Try.ntmps54
  go_wp2_with fail
  clear hmm
  have HB1 : Box (Below w.heap.size w (w.alloc (.map #[] 0))) := ⟨bel_alloc _ _⟩
  have HM1 : Box (MapK encS (w.alloc (.map #[] 0)) w.heap.size []) := ⟨MapK_made w _⟩
  go_loopw [5, 6, 7, 11] (fun _ _ _ i wr => ∃ k : Nat, k ≤ n ∧ i = .int .i64 k ∧ Box (Below w.heap.size w wr) ∧ Box (∃ kvs, MapK encS wr w.heap.size kvs ∧ PV w kvs (prs (ms.take k)))) (fun _ _ _ i _ => n - (intOf i).toNat)
  case atStart => exact ⟨0, Nat.zero_le _, rfl, HB1, ⟨_, HM1.out, .nil⟩⟩
  case round =>
    obtain ⟨k, hk, rfl, HB, HP⟩ := hrel
    clear HB1 HM1
    by_cases hlt : k < n
    · obtain ⟨b, off, m, A1, n1, c1, A2, n2, c2, A3, n3, c3, rfl, hb, hm, hM, h0, h1, h2, h3, h4⟩ := H.out.md_at k hlt
      have hfit := HF.out m (List.mem_iff_getElem?.2 ⟨k, hm⟩)
      have hfit' : n3 = n1 := by
        unfold misfit at hfit
        rw [hM.pr.len, hM.cl.len] at hfit
        simp at hfit
        exact hfit.2
      subst hfit'
      replace h0 := cellk HB.out hb h0
      replace h1 := cellk HB.out hb h1
      replace h2 := cellk HB.out hb h2
      replace h3 := cellk HB.out hb h3
      replace h4 := cellk HB.out hb h4
      have HM := Box.mk hM
      have HX := Box.mk hm
      have hn3 := hM.pr.lim
      have BM : Box (w.heap.size < wr.heap.size) := ⟨by obtain ⟨kvs, h, _⟩ := HP.out; exact h.lt⟩
      clear hM hm hfit
      go_wp2_with fail
      have hba := bel_alloc wr (.cells #[.string m.nm, .int .i64 m.ov, .slice A1 n3 c1, .slice A2 n2 c2, .slice A3 n3 c3] 33)
      have HB1 : Box (Below w.heap.size w (wr.alloc (.cells #[.string m.nm, .int .i64 m.ov, .slice A1 n3 c1, .slice A2 n2 c2, .slice A3 n3 c3] 33))) := ⟨bel_alloc2 HB.out _⟩
      have HP1 : Box (∃ kvs, MapK encS (wr.alloc (.cells #[.string m.nm, .int .i64 m.ov, .slice A1 n3 c1, .slice A2 n2 c2, .slice A3 n3 c3] 33)) w.heap.size kvs ∧ PV w kvs (prs (ms.take k))) := ⟨by
        obtain ⟨kvs, h1, h2⟩ := HP.out
        exact ⟨kvs, h1.alloc _, h2⟩⟩
      have HS1 : Box (wr.heap.size < (wr.alloc (.cells #[.string m.nm, .int .i64 m.ov, .slice A1 n3 c1, .slice A2 n2 c2, .slice A3 n3 c3] 33)).heap.size) := ⟨by simp⟩
      clear hba HP HB h0 h1 h2 h3 h4
      generalize wr = wr' at *
      go_loopw [6, 7, 18] (fun _ _ i wx => ∃ j : Nat, j ≤ n3 ∧ i = .int .i64 j ∧ Box (Below w.heap.size w wx) ∧ wx.cell? ⟨wr'.heap.size, 1, none⟩ = some (.int .i64 m.ov) ∧ wx.cell? ⟨wr'.heap.size, 4, none⟩ = some (.slice A3 n3 c3) ∧ Box (wr'.heap.size < wx.heap.size) ∧
        Box (∃ kvs, MapK encS wx w.heap.size kvs ∧ PV w kvs (prs (ms.take k) ++ (prM m).take j))) (fun _ _ i _ => n3 - (intOf i).toNat)
      case atStart => exact ⟨0, Nat.zero_le _, rfl, HB1, by simp, by simp, HS1, ⟨by simpa using HP1.out⟩⟩
      case round =>
        obtain ⟨j, hj, rfl, HB, d1, d4, HS, HP⟩ := hrel
        clear HB1 HP1 HS1
        by_cases hjl : j < n3
        · obtain ⟨b5, o5, x, rfl, hb5, hx5, hs5, hc5⟩ := HM.out.pr.str_at j hjl
          obtain ⟨b6, o6, l, A6, n6, c6, rfl, hb6, hx6, hc6, hl6⟩ := HM.out.cl.sl_at j hjl
          replace hc5 := cellk HB.out hb5 hc5
          replace hc6 := cellk HB.out hb6 hc6
          have hpc : Box ((pcOf m j).nm = x ∧ (pcOf m j).cl = l ∧ (pcOf m j).ov = m.ov) := ⟨getD_some hx5, getD_some hx6, rfl⟩
          have HL := Box.mk hl6
          have dlt := HS.out
          clear hx5 hx6 hl6 hs5
          obtain ⟨kvs, hkv, hpv⟩ := HP.out
          have HKV := Box.mk hkv
          have HPV := Box.mk hpv
          clear hkv hpv HP
          obtain ⟨w2, hr, hk2, hg2, hs2⟩ := MapK.update (P := Try.prog) (w := wr.drew) HKV.out keyS Try.underlying57 x (.agg #[.int .i64 m.ov, .slice A6 n6 c6])
          have HK2 := Box.mk hk2
          have HG2 := Box.mk hg2
          have HS2 := Box.mk hs2
          clear hk2 hg2 hs2
          go_upto_region 8 with fail
          go_region
          clear hr
          have HBW : Box (Below w.heap.size w w2) := ⟨HB.out.grown (w := wr) ⟨HG2.out.os, HG2.out.tape, HG2.out.output, HG2.out.size, HG2.out.block⟩ HB.out.size (fun q hq => by injection hq with hq; omega)⟩
          have e1 := HG2.out.cell (w := wr.drew) d1 (by intro e; injection e with e; have e : wr'.heap.size = w.heap.size := e; have := BM.out; omega)
          have e4 := HG2.out.cell (w := wr.drew) d4 (by intro e; injection e with e; have e : wr'.heap.size = w.heap.size := e; have := BM.out; omega)
          have HSZ : Box (wr'.heap.size < w2.heap.size) := ⟨by have := HG2.out.size; have e : wr.heap.size ≤ w2.heap.size := this; have := HS.out; omega⟩
          go_wp2_with fail
          go_roundw
          case rel =>
            refine ⟨j + 1, by omega, by go_num, HBW, e1, e4, HSZ, ⟨_, HK2.out, ?_⟩⟩
            have hjm : j < m.pr.length := by rw [HM.out.pr.len]; exact hjl
            have hno : getK x kvs = none := HPV.out.get_none (fnd_none.2 (hpc.out.1 ▸ prM_last HD.out HX.out hjm))
            rw [setK_new hno, prM_take m j hjm, ← List.append_assoc]
            have := HPV.out.app (p := pcOf m j) (v := .agg #[.int .i64 m.ov, .slice A6 n6 c6]) ⟨A6, n6, c6, rfl, by rw [hpc.out.2.1]; exact HL.out⟩
            rwa [hpc.out.1] at this
          case measure => simp [intOf]; omega
        · obtain rfl : j = n3 := by omega
          go_wp2_with fail
          go_roundw
          case rel =>
            refine ⟨k + 1, by omega, by go_num, HB, ?_⟩
            rw [prs_take HX.out]
            have e : (prM m).take j = prM m := List.take_of_length_le (by rw [prM_length, HM.out.pr.len]; exact Nat.le_refl _)
            rw [e] at HP
            exact HP
          case measure => simp [intOf]; omega
    · obtain rfl : k = n := by omega
      go_wp2_with fail
      go_ret
      obtain ⟨kvs, h1, h2⟩ := HP.out
      rw [List.take_of_length_le (by rw [H.out.len]; exact Nat.le_refl _)] at h2
      exact ⟨_, rfl, ⟨kvs, h1, h2.mono HB.out⟩, Nat.le_refl _, HB.out⟩
end Go.Proofs.Ytchhjldopecliaa
