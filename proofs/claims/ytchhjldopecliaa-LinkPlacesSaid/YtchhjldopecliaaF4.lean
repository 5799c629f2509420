/-
What the reference's Validate computes. Condition: the argument is a slice of modules.
-/
import Derived.Test.YtchhjldopecliaaF3
namespace Go.Proofs.Ytchhjldopecliaa
open Go.RowKit

/-- A set of texts in a map. -/
def MapS (w : World) (b : Nat) (l : List Str) : Prop := MapK encS w b (l.map (fun s => (s, Value.bool true)))
theorem getK_set (x : Str) : ∀ l : List Str, getK x (l.map (fun s => (s, Value.bool true))) = if x ∈ l then some (.bool true) else none
  | [] => rfl
  | s :: l => by
    rw [List.map_cons, getK_cons, getK_set x l]
    by_cases h : x = s
    · simp [h]
    · simp [h]
theorem zero_bool (w : World) : (zeroValue 4).run Try.prog w = .ok (.bool false) w := by kernel_rfl
theorem MapS.look {w : World} {b : Nat} {l : List Str} (h : MapS w b l) (x : Str) : (Instr.lookup 82 (.map (some b)) (.string x) false).run Try.prog w = .ok (.bool (decide (x ∈ l))) w := by
  have := (MapK.look h keyS Try.underlying82 (zero_bool w) (getK_set x l)).1
  by_cases hx : x ∈ l
  · simpa [hx] using this
  · simpa [hx] using this
theorem MapS.add {w : World} {b : Nat} {l : List Str} (h : MapS w b l) (x : Str) (hx : x ∉ l) :
    ∃ w', (Instr.mapUpdate 82 (.map (some b)) (.string x) (.bool true)).run Try.prog w = .ok () w' ∧ MapS w' b (l ++ [x]) ∧ w.grownBy w' (some b) ∧ w'.heap.size = w.heap.size := by
  obtain ⟨w', h1, h2, h3, h4⟩ := MapK.update (P := Try.prog) h keyS Try.underlying82 x (.bool true)
  refine ⟨w', h1, ?_, h3, h4⟩
  rw [setK_new (by rw [getK_set, if_neg hx])] at h2
  unfold MapS
  rw [List.map_append]
  exact h2
theorem MapS.below {w w' : World} {b : Nat} {l : List Str} (h : MapS w b l) (hb : Below w.heap.size w w') : MapS w' b l := MapK.below h hb
theorem MapS.kept {w w' : World} {b : Nat} {l : List Str} {row : Option Nat} (h : MapS w b l) (hg : w.grownBy w' row) (hne : some b ≠ row) : MapS w' b l := MapK.kept h hg hne
theorem MapS.lt {w : World} {b : Nat} {l : List Str} (h : MapS w b l) : b < w.heap.size := MapK.lt h
theorem MapS_made (w : World) : MapS (w.alloc (.map #[] 0)) w.heap.size [] := MapK_made w encS

theorem not_nodup_take {α : Type} [DecidableEq α] {l : List α} {a : List α} {x : α} {r : List α} (h : l = a ++ x :: r) (hx : x ∈ a) : ¬ l.Nodup := by
  subst h
  intro hn
  rw [List.nodup_append] at hn
  exact hn.2.2 x hx x (List.mem_cons_self ..) rfl
theorem namesOf_split {ms : List Md} {k : Nat} {m : Md} (h : ms[k]? = some m) : namesOf ms = namesOf (ms.take k) ++ m.nm :: namesOf (ms.drop (k + 1)) := by
  obtain ⟨h1, h2⟩ := List.getElem?_eq_some_iff.1 h
  have e : ms = ms.take k ++ m :: ms.drop (k + 1) := by
    rw [← h2, ← List.drop_eq_getElem_cons h1, List.take_append_drop]
  unfold namesOf
  conv => lhs; rw [e]
  simp
theorem procsOf_split {ms : List Md} {k : Nat} {m : Md} (h : ms[k]? = some m) {j : Nat} {x : Str} (hj : m.pr[j]? = some x) :
    procsOf ms = (procsOf (ms.take k) ++ m.pr.take j) ++ x :: (m.pr.drop (j + 1) ++ procsOf (ms.drop (k + 1))) := by
  obtain ⟨h1, h2⟩ := List.getElem?_eq_some_iff.1 h
  obtain ⟨h3, h4⟩ := List.getElem?_eq_some_iff.1 hj
  have e : ms = ms.take k ++ m :: ms.drop (k + 1) := by
    rw [← h2, ← List.drop_eq_getElem_cons h1, List.take_append_drop]
  have e2 : m.pr = m.pr.take j ++ x :: m.pr.drop (j + 1) := by
    rw [← h4, ← List.drop_eq_getElem_cons h3, List.take_append_drop]
  unfold procsOf
  conv => lhs; rw [e]
  rw [List.flatMap_append, List.flatMap_cons]
  conv => lhs; rw [e2]
  simp
theorem nodup_snoc {α : Type} {l : List α} {x : α} (h : l.Nodup) (hx : x ∉ l) : (l ++ [x]).Nodup := by
  rw [List.nodup_append]
  refine ⟨h, by simp, fun a ha b hb => ?_⟩
  obtain rfl : b = x := by simpa using hb
  exact fun e => hx (e ▸ ha)

set_option maxRecDepth 100000 in
set_option maxHeartbeats 4000000 in
theorem r_Validate (A : Option Addr) (n c : Nat) (ms : List Md) (w : World) (h : SlR w 5 RMd A n c ms) :
    Calls Try.prog 24 #[.slice A n c] w fun e w' => e = .returned (.int .i64 (vld ms)) ∧ Below w.heap.size w w' := by
  have hlim := h.lim
  have H := Box.mk h
  clear h
  have hmm := @run_makeMap Try.prog
  go_enter Try.func24, Try.ntmps24
  go_wp2_with fail
  refine (r_isLarge A n c ms w H.out).mono ?_
  rintro e w1 ⟨rfl, rfl⟩
  generalize hL : largeB ms = L
  have HL := Box.mk hL
  clear hL
  cases L
  case true =>
    go_wp2_with fail
    go_ret
    exact ⟨ret_int (by simp [vld, HL.out]), Below.refl _ _⟩
  case false =>
  go_wp2_with fail
  go_loopw [3] (fun i wr => ∃ k : Nat, k ≤ n ∧ i = .int .i64 k ∧ Box (Below w.heap.size w wr) ∧ Box ((ms.take k).any (fun m => !rightB m) = false)) (fun i _ => n - (intOf i).toNat)
  case atStart => exact ⟨0, Nat.zero_le _, rfl, ⟨Below.refl _ _⟩, ⟨by simp⟩⟩
  case round =>
    obtain ⟨k, hk, rfl, HB, HR⟩ := hrel
    by_cases hlt : k < n
    · obtain ⟨b, off, m, A1, n1, c1, A2, n2, c2, A3, n3, c3, rfl, hb, hm, hM, h0, h1, h2, h3, h4⟩ := H.out.md_at k hlt
      replace h0 := cellk HB.out hb h0
      replace h1 := cellk HB.out hb h1
      replace h2 := cellk HB.out hb h2
      replace h3 := cellk HB.out hb h3
      replace h4 := cellk HB.out hb h4
      have HM := Box.mk hM
      have HX := Box.mk hm
      clear hM hm
      go_wp2_with fail
      refine (r_isModule m A1 n1 c1 A2 n2 c2 A3 n3 c3 wr (HM.out.below HB.out)).mono ?_
      rintro e w2 ⟨rfl, hb2⟩
      have HB2 := Box.mk (below_tr HB.out HB.out.size hb2)
      clear hb2
      generalize hq : rightB m = R at *
      have HQ := Box.mk hq
      clear hq
      cases R
      · go_wp2_with fail
        go_ret
        refine ⟨ret_int ?_, HB2.out⟩
        simp [vld, HL.out, any_of_at (p := fun m => !rightB m) HX.out (by rw [HQ.out]; rfl)]
      · go_wp2_with fail
        go_roundw
        case rel => exact ⟨k + 1, by omega, by go_num, HB2, ⟨anyTake_succ HX.out HR.out (by rw [HQ.out]; rfl)⟩⟩
        case measure => simp [intOf]; omega
    · obtain rfl : k = n := by omega
      have HRA : Box (ms.any (fun m => !rightB m) = false) := ⟨by
        have := HR.out
        rwa [List.take_of_length_le (by rw [H.out.len]; exact Nat.le_refl _)] at this⟩
      clear HR
      go_wp2_with fail
      go_loopw [4] (fun i wq => ∃ j : Nat, j ≤ k ∧ i = .int .i64 j ∧ Box (Below w.heap.size w wq) ∧ Box ((ms.take j).any misfit = false)) (fun i _ => k - (intOf i).toNat)
      case atStart => exact ⟨0, Nat.zero_le _, rfl, HB, ⟨by simp⟩⟩
      case round =>
        clear HB
        obtain ⟨j, hj, rfl, HB, HF⟩ := hrel
        by_cases hlt2 : j < k
        · obtain ⟨b, off, m, A1, n1, c1, A2, n2, c2, A3, n3, c3, rfl, hb, hm, hM, h0, h1, h2, h3, h4⟩ := H.out.md_at j hlt2
          replace h2 := cellk HB.out hb h2
          replace h3 := cellk HB.out hb h3
          replace h4 := cellk HB.out hb h4
          have HX := Box.mk hm
          have hmis : Box (misfit m = !((n2 == n1) && (n3 == n1))) := ⟨by rw [misfit, hM.pr.len, hM.sz.len, hM.cl.len]⟩
          have hl1 := hM.pr.lim
          have hl2 := hM.sz.lim
          have hl3 := hM.cl.lim
          clear hM hm h0 h1
          by_cases e2 : n2 = n1
          · subst e2
            by_cases e3 : n3 = n2
            · subst e3
              have hq : Box (misfit m = false) := ⟨by rw [hmis.out]; simp⟩
              go_upto_region 11 with fail
              go_quiet (fail)
              have HBq : Box (Below w.heap.size w (wr.drewN nq)) := ⟨⟨HB.out.os, HB.out.tape, HB.out.output, HB.out.size, HB.out.block⟩⟩
              go_wp2_with fail
              go_roundw
              case rel => exact ⟨j + 1, by omega, by go_num, HBq, ⟨anyTake_succ HX.out HF.out hq.out⟩⟩
              case measure => simp [intOf]; omega
            · have hq : Box (misfit m = true) := ⟨by rw [hmis.out]; simp [e3]⟩
              have hz1 : ((n3 : Int) != n2) = true := by simp; omega
              go_upto_region 11 with fail
              go_quiet (fail)
              have HBq : Box (Below w.heap.size w (wr.drewN nq)) := ⟨⟨HB.out.os, HB.out.tape, HB.out.output, HB.out.size, HB.out.block⟩⟩
              go_wp2_with fail
              go_ret
              refine ⟨ret_int ?_, HBq.out⟩
              simp [vld, HL.out, HRA.out, any_of_at HX.out hq.out]
          · have hq : Box (misfit m = true) := ⟨by rw [hmis.out]; simp [e2]⟩
            have hz1 : ((n2 : Int) != n1) = true := by simp; omega
            go_upto_region 11 with fail
            go_quiet (fail)
            have HBq : Box (Below w.heap.size w (wr.drewN nq)) := ⟨⟨HB.out.os, HB.out.tape, HB.out.output, HB.out.size, HB.out.block⟩⟩
            go_wp2_with fail
            go_ret
            refine ⟨ret_int ?_, HBq.out⟩
            simp [vld, HL.out, HRA.out, any_of_at HX.out hq.out]
        · obtain rfl : j = k := by omega
          have HFA : Box (ms.any misfit = false) := ⟨by
            have := HF.out
            rwa [List.take_of_length_le (by rw [H.out.len]; exact Nat.le_refl _)] at this⟩
          clear HF
          have HMa : Box (MapS (wr.alloc (.map #[] 0)) wr.heap.size []) := ⟨MapS_made wr⟩
          have HMb : Box (MapS ((wr.alloc (.map #[] 0)).alloc (.map #[] 0)) wr.heap.size [] ∧ MapS ((wr.alloc (.map #[] 0)).alloc (.map #[] 0)) (wr.heap.size + 1) []) := ⟨HMa.out.below (bel_alloc _ _), by
            have := MapS_made (wr.alloc (.map #[] 0))
            simpa using this⟩
          have HB2 : Box (Below w.heap.size w ((wr.alloc (.map #[] 0)).alloc (.map #[] 0))) := ⟨bel_alloc2 (bel_alloc2 HB.out _) _⟩
          have HWR : Box (w.heap.size ≤ wr.heap.size) := ⟨HB.out.size⟩
          go_wp2_with fail
          clear hmm
          generalize hp : wr.heap.size = p at *
          clear hp
          go_loopw [7, 8] (fun i _ wq => ∃ q : Nat, q ≤ j ∧ i = .int .i64 q ∧ Box (Below w.heap.size w wq) ∧ Box (MapS wq p (namesOf (ms.take q))) ∧ Box (MapS wq (p + 1) (procsOf (ms.take q))) ∧ Box ((namesOf (ms.take q)).Nodup ∧ (procsOf (ms.take q)).Nodup)) (fun i _ _ => j - (intOf i).toNat)
          case atStart => exact ⟨0, Nat.zero_le _, rfl, HB2, ⟨HMb.out.1⟩, ⟨HMb.out.2⟩, ⟨by simp [namesOf, procsOf]⟩⟩
          case round =>
            clear HMa HMb HB2 HB
            obtain ⟨q, hqj, rfl, HB, HN, HP, HD⟩ := hrel
            by_cases hlt3 : q < j
            · obtain ⟨b, off, m, A1, n1, c1, A2, n2, c2, A3, n3, c3, rfl, hb, hm, hM, h0, h1, h2, h3, h4⟩ := H.out.md_at q hlt3
              have HH2 := Box.mk h2
              replace h0 := cellk HB.out hb h0
              replace h2 := cellk HB.out hb h2
              have HM := Box.mk hM
              have HX := Box.mk hm
              have hl1 := hM.pr.lim
              have HBB := Box.mk hb
              have hlk := HN.out.look m.nm
              clear hM hm h1 h3 h4
              by_cases hin : m.nm ∈ namesOf (ms.take q)
              · have hd : decide (m.nm ∈ namesOf (ms.take q)) = true := by simpa using hin
                rw [hd] at hlk
                have HV : Box (vld ms = 5) := ⟨by simp [vld, HL.out, HRA.out, HFA.out, not_nodup_take (namesOf_split HX.out) hin]⟩
                clear hd hin
                go_wp2_with fail
                go_ret
                exact ⟨ret_int (by rw [HV.out]), HB.out⟩
              · have hd : decide (m.nm ∈ namesOf (ms.take q)) = false := by simpa using hin
                rw [hd] at hlk
                obtain ⟨w2, hr2, hs2, hg2, hz2⟩ := HN.out.add m.nm hin
                have HN2 : Box (MapS w2 p (namesOf (ms.take (q + 1)))) := ⟨by rw [namesOf_take HX.out]; exact hs2⟩
                have HP2 : Box (MapS w2 (p + 1) (procsOf (ms.take q) ++ m.pr.take 0)) := ⟨by simpa using HP.out.kept hg2 (by simp)⟩
                have HB2 : Box (Below w.heap.size w w2) := ⟨HB.out.grown hg2 HB.out.size (fun z hz => by injection hz with hz; have := HWR.out; omega)⟩
                have HD2 : Box ((namesOf (ms.take (q + 1))).Nodup ∧ (procsOf (ms.take q) ++ m.pr.take 0).Nodup) := ⟨by rw [namesOf_take HX.out]; exact nodup_snoc HD.out.1 hin, by simpa using HD.out.2⟩
                clear hd hin hs2 hg2 hz2
                go_wp2_with fail
                clear hlk hr2
                go_loopw [8] (fun i wz => ∃ l : Nat, l ≤ n1 ∧ i = .int .i64 l ∧ Box (Below w.heap.size w wz) ∧ Box (MapS wz p (namesOf (ms.take (q + 1)))) ∧ Box (MapS wz (p + 1) (procsOf (ms.take q) ++ m.pr.take l)) ∧ Box ((namesOf (ms.take (q + 1))).Nodup ∧ (procsOf (ms.take q) ++ m.pr.take l).Nodup)) (fun i _ => n1 - (intOf i).toNat)
                case atStart => exact ⟨0, Nat.zero_le _, rfl, HB2, HN2, HP2, HD2⟩
                case round =>
                  clear HB2 HN2 HP2 HD2 HB HN HP HD h0 h2
                  obtain ⟨l, hl, rfl, HB, HN, HP, HD⟩ := hrel
                  have h2 := cellk HB.out HBB.out HH2.out
                  by_cases hlt4 : l < n1
                  · obtain ⟨b5, o5, x, rfl, hb5, hx5, hs5, hc5⟩ := HM.out.pr.str_at l hlt4
                    replace hc5 := cellk HB.out hb5 hc5
                    have HX5 := Box.mk hx5
                    have htk : Box (m.pr.take (l + 1) = m.pr.take l ++ [x]) := ⟨by rw [List.take_add_one, hx5]; rfl⟩
                    clear hx5
                    have hlk := HP.out.look x
                    by_cases hin : x ∈ procsOf (ms.take q) ++ m.pr.take l
                    · have hd : decide (x ∈ procsOf (ms.take q) ++ m.pr.take l) = true := by simpa using hin
                      rw [hd] at hlk
                      have HV : Box (vld ms = 5) := ⟨by simp [vld, HL.out, HRA.out, HFA.out, not_nodup_take (procsOf_split HX.out HX5.out) hin]⟩
                      clear hd hin
                      go_wp2_with fail
                      go_ret
                      exact ⟨ret_int (by rw [HV.out]), HB.out⟩
                    · have hd : decide (x ∈ procsOf (ms.take q) ++ m.pr.take l) = false := by simpa using hin
                      rw [hd] at hlk
                      obtain ⟨w2, hr2, hs2, hg2, hz2⟩ := HP.out.add x hin
                      have HP2 : Box (MapS w2 (p + 1) (procsOf (ms.take q) ++ m.pr.take (l + 1))) := ⟨by rw [htk.out, ← List.append_assoc]; exact hs2⟩
                      have HN2 : Box (MapS w2 p (namesOf (ms.take (q + 1)))) := ⟨HN.out.kept hg2 (by simp)⟩
                      have HB2 : Box (Below w.heap.size w w2) := ⟨HB.out.grown hg2 HB.out.size (fun z hz => by injection hz with hz; have := HWR.out; omega)⟩
                      have HD2 : Box ((namesOf (ms.take (q + 1))).Nodup ∧ (procsOf (ms.take q) ++ m.pr.take (l + 1)).Nodup) := ⟨HD.out.1, by rw [htk.out, ← List.append_assoc]; exact nodup_snoc HD.out.2 hin⟩
                      clear hd hin hs2 hg2 hz2
                      go_wp2_with fail
                      go_roundw
                      case rel => exact ⟨l + 1, by omega, by go_num, HB2, HN2, HP2, HD2⟩
                      case measure => simp [intOf]; omega
                  · obtain rfl : l = n1 := by omega
                    have e : m.pr.take l = m.pr := List.take_of_length_le (by rw [HM.out.pr.len]; exact Nat.le_refl _)
                    rw [e, ← procsOf_take HX.out] at HP HD
                    go_wp2_with fail
                    go_roundw
                    case rel => exact ⟨q + 1, by omega, by go_num, HB, HN, HP, HD⟩
                    case measure => simp [intOf]; omega
            · obtain rfl : q = j := by omega
              rw [List.take_of_length_le (by rw [H.out.len]; exact Nat.le_refl _)] at HD
              have HV : Box (vld ms = 0) := ⟨by simp [vld, HL.out, HRA.out, HFA.out, HD.out.1, HD.out.2]⟩
              go_wp2_with fail
              go_ret
              exact ⟨ret_int (by rw [HV.out]), HB.out⟩
end Go.Proofs.Ytchhjldopecliaa
