/-
What Validate computes. Condition: the argument is a slice of modules.
-/
import Derived.Test.YtchhjldopecliaaL6
import Derived.Test.YtchhjldopecliaaS2
namespace Go.Proofs.Ytchhjldopecliaa
open Go.RowKit

def misfit (m : Md) : Bool := !((m.sz.length == m.pr.length) && (m.cl.length == m.pr.length))
def namesOf (ms : List Md) : List Str := ms.map (·.nm)
def procsOf (ms : List Md) : List Str := ms.flatMap (·.pr)
/-- What Validate tells. -/
def vld (ms : List Md) : Int :=
  if largeB ms then 3 else if ms.any (fun m => !rightB m) then 1 else if ms.any misfit then 10 else if ¬ (namesOf ms).Nodup ∨ ¬ (procsOf ms).Nodup then 5 else 0

theorem namesOf_take {ms : List Md} {k : Nat} {m : Md} (h : ms[k]? = some m) : namesOf (ms.take (k + 1)) = namesOf (ms.take k) ++ [m.nm] := by
  unfold namesOf
  rw [List.take_add_one, h]
  simp
theorem procsOf_take {ms : List Md} {k : Nat} {m : Md} (h : ms[k]? = some m) : procsOf (ms.take (k + 1)) = procsOf (ms.take k) ++ m.pr := by
  unfold procsOf
  rw [List.take_add_one, h]
  simp
theorem procsOf_length (ms : List Md) : (procsOf ms).length = sumL ms := by
  unfold procsOf sumL
  rw [List.length_flatMap]
theorem sumL_mono (ms : List Md) (k : Nat) : sumL (ms.take k) ≤ sumL ms := by
  have : sumL (ms.take k ++ ms.drop k) = sumL (ms.take k) + sumL (ms.drop k) := by unfold sumL; rw [List.map_append, List.sum_append]
  rw [List.take_append_drop] at this
  omega

/-- Two rows of one's own, apart. -/
def Apart (v u : Value) : Prop := v.ownBlock = none ∨ v.ownBlock ≠ u.ownBlock
theorem Apart.symm {v u : Value} (h : Apart v u) : u.ownBlock = none ∨ u.ownBlock ≠ v.ownBlock := by
  unfold Apart at h
  cases hv : v.ownBlock <;> cases hu : u.ownBlock <;> simp_all
  intro e; exact h e.symm
theorem Apart.step {v v' u : Value} {L M : Nat} (h : Apart v u) (hu : ∀ B, u.ownBlock = some B → B < L) (hM : L ≤ M) (hat : v'.ownBlock = v.ownBlock ∨ v'.ownBlock = some M) : Apart v' u := by
  unfold Apart at *
  rcases hat with hat | hat
  · rw [hat]; exact h
  · right
    rw [hat]
    intro e
    have := hu _ e.symm
    omega

theorem mds_sizes {w : World} {A : Option Addr} {n c : Nat} {ms : List Md} (h : SlR w 5 RMd A n c ms) : (∀ x ∈ namesOf ms, x.size ≤ LIM) ∧ (∀ x ∈ procsOf ms, x.size ≤ LIM) := by
  have key : ∀ m ∈ ms, m.nm.size ≤ LIM ∧ ∀ x ∈ m.pr, x.size ≤ LIM := by
    intro m hm
    obtain ⟨k, hk⟩ := List.mem_iff_getElem?.1 hm
    have hl := (List.getElem?_eq_some_iff.1 hk).1
    rw [h.len] at hl
    obtain ⟨b, off, m', A1, n1, c1, A2, n2, c2, A3, n3, c3, rfl, hb, hm', hM, _⟩ := h.md_at k hl
    rw [hk] at hm'
    injection hm' with hm'
    subst hm'
    refine ⟨hM.nm, fun x hx => ?_⟩
    obtain ⟨i, hi⟩ := List.mem_iff_getElem?.1 hx
    have hl := (List.getElem?_eq_some_iff.1 hi).1
    rw [hM.pr.len] at hl
    obtain ⟨b, off, x', rfl, hb, hx', hs, _⟩ := hM.pr.str_at i hl
    rw [hi] at hx'
    injection hx' with hx'
    subst hx'
    exact hs
  constructor
  · intro x hx
    obtain ⟨m, hm, rfl⟩ := List.mem_map.1 hx
    exact (key m hm).1
  · intro x hx
    obtain ⟨m, hm, hx⟩ := List.mem_flatMap.1 hx
    exact (key m hm).2 x hx

set_option maxRecDepth 100000 in
set_option maxHeartbeats 4000000 in
theorem c_Validate (A : Option Addr) (n c : Nat) (ms : List Md) (w : World) (h : SlR w 5 RMd A n c ms) :
    Calls Try.prog 18 #[.slice A n c] w fun e w' => e = .returned (.int .i64 (vld ms)) ∧ Below w.heap.size w w' := by
  have hlim := h.lim
  have H := Box.mk h
  clear h
  go_enter Try.func18, Try.ntmps18
  go_wp2_with fail
  refine (c_isLarge A n c ms w H.out).mono ?_
  rintro e w1 ⟨rfl, hb1⟩
  have HB1 := Box.mk hb1
  clear hb1
  generalize hL : largeB ms = L
  have HL := Box.mk hL
  clear hL
  cases L
  case true =>
    go_wp2_with fail
    go_ret
    exact ⟨ret_int (by simp [vld, HL.out]), HB1.out⟩
  case false =>
    have hn32 : n ≤ 32 ∧ sumL ms ≤ 100 := by
      have := HL.out
      simp only [largeB, Bool.or_eq_false_iff, decide_eq_false_iff_not, H.out.len] at this
      omega
    have HN := Box.mk hn32
    clear hn32
    go_wp2_with fail
    go_loopw [3, 4, 5, 7, 12] (fun v3 v4 f _ i wr => ∃ k : Nat, k ≤ n ∧ i = .int .i64 k ∧ Box (Below w.heap.size w wr) ∧ Box ((ms.take k).any (fun m => !rightB m) = false) ∧ f = .bool (!(ms.take k).any misfit) ∧
      Box (wr.ownsRow w.heap.size 9 1 v3 (namesOf (ms.take k)).length ((namesOf (ms.take k)).map Value.string)) ∧ Box (wr.ownsRow w.heap.size 9 1 v4 (procsOf (ms.take k)).length ((procsOf (ms.take k)).map Value.string)) ∧ Box (Apart v3 v4)) (fun _ _ _ _ i _ => n - (intOf i).toNat)
    case atStart => exact ⟨0, Nat.zero_le _, rfl, HB1, ⟨rfl⟩, rfl, ⟨World.ownsRow_nil _ _ _ _⟩, ⟨World.ownsRow_nil _ _ _ _⟩, ⟨.inl rfl⟩⟩
    case round =>
      obtain ⟨k, hk, rfl, HB, HR, rfl, H3, H4, HAp⟩ := hrel
      by_cases hlt : k < n
      · obtain ⟨b, off, m, A1, n1, c1, A2, n2, c2, A3, n3, c3, rfl, hb, hm, hM, h0, h1, h2, h3, h4⟩ := H.out.md_at k hlt
        replace h0 := cellk HB.out hb h0
        replace h1 := cellk HB.out hb h1
        replace h2 := cellk HB.out hb h2
        replace h3 := cellk HB.out hb h3
        replace h4 := cellk HB.out hb h4
        have HM := Box.mk hM
        have HX := Box.mk hm
        have hk100 : Box (k < 32 ∧ (procsOf (ms.take k)).length + n1 ≤ 100 ∧ (namesOf (ms.take k)).length ≤ 32) := ⟨by
          have e1 := sumL_mono ms (k + 1)
          rw [sumL_take hm, hM.pr.len] at e1
          have e2 := HN.out
          have e3 : (namesOf (ms.take k)).length ≤ k := by simp [namesOf]; omega
          rw [procsOf_length]
          omega⟩
        clear hM hm
        generalize hF : (ms.take k).any misfit = F at *
        have HF := Box.mk hF
        clear hF
        go_wp2_with fail
        have hba := bel_alloc wr (.cells #[.string m.nm, .int .i64 m.ov, .slice A1 n1 c1, .slice A2 n2 c2, .slice A3 n3 c3] 33)
        refine (c_isRight m A1 n1 c1 A2 n2 c2 A3 n3 c3 _ (HM.out.below (bel_alloc2 HB.out _))).mono ?_
        rintro e w2 ⟨rfl, hb2⟩
        have d0 : w2.cell? ⟨wr.heap.size, 0, none⟩ = some (.string m.nm) := cellk hb2 (by simp) (by simp)
        have d2 : w2.cell? ⟨wr.heap.size, 2, none⟩ = some (.slice A1 n1 c1) := cellk hb2 (by simp) (by simp)
        have d3 : w2.cell? ⟨wr.heap.size, 3, none⟩ = some (.slice A2 n2 c2) := cellk hb2 (by simp) (by simp)
        have d4 : w2.cell? ⟨wr.heap.size, 4, none⟩ = some (.slice A3 n3 c3) := cellk hb2 (by simp) (by simp)
        have HBr2 := Box.mk (below_tr hba (by simp) hb2)
        have D : Box (wr.heap.size < w2.heap.size) := ⟨by have := hb2.size; simp at this; omega⟩
        have HB2 := Box.mk (below_tr HB.out HB.out.size HBr2.out)
        clear hba hb2 h0 h1 h2 h3 h4
        generalize hq : rightB m = R at *
        have HQ := Box.mk hq
        clear hq
        cases R
        case false =>
          go_wp2_with fail
          go_ret
          refine ⟨ret_int ?_, HB2.out⟩
          simp [vld, HL.out, any_of_at (p := fun m => !rightB m) HX.out (by rw [HQ.out]; rfl)]
        case true =>
          have H3' := Box.mk (own_below H3.out HBr2.out)
          have H4' := Box.mk (own_below H4.out HBr2.out)
          have N3 : Box (∀ B, u3.ownBlock = some B → B < wr.heap.size) := ⟨fun B e => (H3.out.lt B e).2⟩
          have N4 : Box (∀ B, u4.ownBlock = some B → B < wr.heap.size) := ⟨fun B e => (H4.out.lt B e).2⟩
          clear H3 H4
          have dlt := D.out
          go_upto_region 10 with fail
          go_cut [3, 4] (fun s3 s4 wx => Box (Below w.heap.size w wx) ∧ wx.cell? ⟨wr.heap.size, 2, none⟩ = some (.slice A1 n1 c1) ∧ wx.cell? ⟨wr.heap.size, 3, none⟩ = some (.slice A2 n2 c2) ∧ wx.cell? ⟨wr.heap.size, 4, none⟩ = some (.slice A3 n3 c3) ∧
            Box (wx.ownsRow w.heap.size 9 1 s3 (namesOf (ms.take (k + 1))).length ((namesOf (ms.take (k + 1))).map Value.string)) ∧ Box (wx.ownsRow w.heap.size 9 1 s4 (procsOf (ms.take (k + 1))).length ((procsOf (ms.take (k + 1))).map Value.string)) ∧ Box (Apart s3 s4) ∧ Box (wr.heap.size < wx.heap.size))
          case first =>
            go_region_law (first
              | (refine step_app _ w.heap.size rfl _ _ 23 9 rfl (.string ByteArray.empty) 1 16 Try.underlying23 info_str rfl (by decide) (by decide) u3 _ _ rfl (H3'.out.alloc _) (some ⟨_, 0, none⟩) 1 1 [.string m.nm] rfl (src_one _ _ _ rfl) (by have := hk100.out; omega) (by have := HB2.out.size; simp; omega) ?_; intro v3' wa ho3 hg3' hat3; have hg3 := grown_al w2 hg3' rfl rfl rfl rfl; clear hg3'; have e2 := gcell hg3 N3.out d2; have e3 := gcell hg3 N3.out d3; have e4 := gcell hg3 N3.out d4; have HO3 := Box.mk ho3; have HG3 := Box.mk hg3; have HT3 := Box.mk hat3; clear ho3 hg3 hat3)
              | (refine step_app _ w.heap.size rfl _ _ 23 9 rfl (.string ByteArray.empty) 1 16 Try.underlying23 info_str rfl (by decide) (by decide) u4 _ _ rfl (own_other H4'.out HG3.out HAp.out.symm) A1 n1 c1 (m.pr.map Value.string) rfl (src_strs (HM.out.pr.below mono_str (below_grown HB2.out (Nat.le_refl _) HB2.out.size H3'.out HG3.out))) (by have := hk100.out; omega) (by have := HB2.out.size; have := HG3.out.size; omega) ?_; intro v4' wb ho4 hg4 hat4; have f2 := gcell hg4 N4.out e2; have f3 := gcell hg4 N4.out e3; have f4 := gcell hg4 N4.out e4; have HO4 := Box.mk ho4; have HG4 := Box.mk hg4; have HT4 := Box.mk hat4; clear ho4 hg4 hat4))
            go_wp2_with fail
            all_goals
              go_meet
              refine ⟨⟨below_grown (below_grown HB2.out (Nat.le_refl _) HB2.out.size H3'.out HG3.out) (Nat.le_refl _) (by have := HB2.out.size; have := HG3.out.size; omega) (own_other H4'.out HG3.out HAp.out.symm) HG4.out⟩, f2, f3, f4, ⟨?_⟩, ⟨?_⟩, ⟨?_⟩, ⟨by have := D.out; have := HG3.out.size; have := HG4.out.size; omega⟩⟩
              · rw [namesOf_take HX.out, List.map_append, List.length_append]
                exact own_other HO3.out HG4.out (HAp.out.step N4.out (Nat.le_of_lt (by simp; omega)) HT3.out)
              · rw [procsOf_take HX.out, List.map_append, List.length_append, HM.out.pr.len]
                exact HO4.out
              · have a1 : Apart v3' u4 := HAp.out.step N4.out (Nat.le_of_lt (by simp; omega)) HT3.out
                exact (Apart.step (L := wa.heap.size) a1.symm (fun B e => (HO3.out.lt B e).2) (Nat.le_refl _) HT4.out).symm
          case rest =>
            obtain ⟨HBc, d2, d3, d4, H3c, H4c, HApc, D'⟩ := hcut
            have ePR : m.pr.length = n1 := HM.out.pr.len
            have eSZ : m.sz.length = n2 := HM.out.sz.len
            have eCL : m.cl.length = n3 := HM.out.cl.len
            have hmis : Box (misfit m = !((n2 == n1) && (n3 == n1))) := ⟨by rw [misfit, ePR, eSZ, eCL]⟩
            have hany : Box ((ms.take (k + 1)).any misfit = (F || misfit m)) := ⟨by rw [List.take_add_one, HX.out, List.any_append, HF.out]; simp⟩
            clear ePR eSZ eCL
            have hl2 := HM.out.sz.lim
            have hl1 := HM.out.pr.lim
            have hl3 := HM.out.cl.lim
            have HRk : Box ((ms.take (k + 1)).any (fun m => !rightB m) = false) := ⟨anyTake_succ HX.out HR.out (by rw [HQ.out]; rfl)⟩
            have dlt' := D'.out
            cases F
            case true =>
              go_wp2_with fail
              go_roundw
              case rel => exact ⟨k + 1, by omega, by go_num, HBc, HRk, by rw [hany.out]; rfl, H3c, H4c, HApc⟩
              case measure => simp [intOf]; omega
            case false =>
              by_cases e2 : n2 = n1
              · by_cases e3 : n3 = n1
                · have hq : Box (misfit m = false) := ⟨by rw [hmis.out, e2, e3]; simp⟩
                  subst e2
                  subst e3
                  go_wp2_with fail
                  go_roundw
                  case rel => exact ⟨k + 1, by omega, by go_num, HBc, HRk, vb (by rw [hany.out, hq.out]; simp; try omega), H3c, H4c, HApc⟩
                  case measure => simp [intOf]; omega
                · have hq : Box (misfit m = true) := ⟨by rw [hmis.out, e2]; simp [e3]⟩
                  subst e2
                  go_wp2_with fail
                  go_roundw
                  case rel => exact ⟨k + 1, by omega, by go_num, HBc, HRk, vb (by rw [hany.out, hq.out]; simp; try omega), H3c, H4c, HApc⟩
                  case measure => simp [intOf]; omega
              · have hq : Box (misfit m = true) := ⟨by rw [hmis.out]; simp [e2]⟩
                go_wp2_with fail
                go_roundw
                case rel => exact ⟨k + 1, by omega, by go_num, HBc, HRk, vb (by rw [hany.out, hq.out]; simp; try omega), H3c, H4c, HApc⟩
                case measure => simp [intOf]; omega
      · obtain rfl : k = n := by omega
        have hT : ms.take k = ms := List.take_of_length_le (by rw [H.out.len]; exact Nat.le_refl _)
        rw [hT] at HR H3 H4
        rw [hT]
        clear hT
        have hnl : (namesOf ms).length ≤ 32 ∧ (procsOf ms).length ≤ 100 := by
          rw [procsOf_length]; have := H.out.len; have := HN.out; simp [namesOf]; omega
        have hsz : (∀ x ∈ namesOf ms, x.size ≤ LIM) ∧ (∀ x ∈ procsOf ms, x.size ≤ LIM) := mds_sizes H.out
        obtain ⟨B3, c3, rfl, S3⟩ := own_strs H3.out hsz.1 (by have := hnl.1; simp only [LIM]; omega)
        obtain ⟨B4, c4, rfl, S4⟩ := own_strs H4.out hsz.2 (by have := hnl.2; simp only [LIM]; omega)
        have HNL := Box.mk hnl
        have HS3 := Box.mk S3
        have HSZ := Box.mk hsz
        have HS4 := Box.mk S4
        clear S3 S4 hsz hnl H3 H4
        generalize hF : ms.any misfit = F at *
        have HF := Box.mk hF
        clear hF
        cases F
        case true =>
          go_wp2_with fail
          go_ret
          exact ⟨ret_int (by simp [vld, HL.out, HR.out, HF.out]), HB.out⟩
        case false =>
          go_wp2_with fail
          refine (c_isTwice _ _ _ (namesOf ms) wr HS3.out HSZ.out.1 (by have := HNL.out; omega)).mono ?_
          rintro e w1 ⟨rfl, hb1⟩
          have HB1 := Box.mk (below_tr HB.out HB.out.size hb1)
          have HS4' := Box.mk (HS4.out.below mono_str hb1)
          clear hb1
          by_cases hn : (namesOf ms).Nodup
          · have e0 : decide (¬ (namesOf ms).Nodup) = false := by simp [hn]
            rw [e0]
            have HNN := Box.mk hn
            clear hn e0
            go_wp2_with fail
            refine (c_isTwice _ _ _ (procsOf ms) w1 HS4'.out HSZ.out.2 (by have := HNL.out; omega)).mono ?_
            rintro e w2 ⟨rfl, hb2⟩
            have HB2 := Box.mk (below_tr HB1.out HB1.out.size hb2)
            clear hb2
            by_cases hp : (procsOf ms).Nodup
            · have e0 : decide (¬ (procsOf ms).Nodup) = false := by simp [hp]
              rw [e0]
              have HP := Box.mk hp
              clear hp e0
              go_wp2_with fail
              go_ret
              exact ⟨ret_int (by simp [vld, HL.out, HR.out, HF.out, HNN.out, HP.out]), HB2.out⟩
            · have e0 : decide (¬ (procsOf ms).Nodup) = true := by simp [hp]
              rw [e0]
              have HP := Box.mk hp
              clear hp e0
              go_wp2_with fail
              go_ret
              exact ⟨ret_int (by simp [vld, HL.out, HR.out, HF.out, HNN.out, HP.out]), HB2.out⟩
          · have e0 : decide (¬ (namesOf ms).Nodup) = true := by simp [hn]
            rw [e0]
            have HNN := Box.mk hn
            clear hn e0
            go_wp2_with fail
            go_ret
            exact ⟨ret_int (by simp [vld, HL.out, HR.out, HF.out, HNN.out]), HB1.out⟩
end Go.Proofs.Ytchhjldopecliaa
