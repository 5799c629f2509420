/-
What the reference's Loads computes. Condition: the arguments are a slice of modules and a slice of texts.
What Missing (of the program and of the reference) and SameTexts compute. Condition: the arguments are slices of modules; slices of the same texts.
What the reference's sizes computes. Condition: procedures whose overlays and sizes are those of modules that Validate lets in.
What the reference's Sizes computes. Condition: the argument is a slice of modules.
That LinkFits returns true. Condition: the argument is a slice of modules.
Where procedures stand, in plain Lean. No conditions.
What is reached by calls, in plain Lean. No conditions.
What Link computes. Condition: the argument is a slice of modules.
What the reference's Link computes. Condition: the argument is a slice of modules.
That LinkPlaces returns true. Condition: the argument is a slice of modules.
That LinkApart returns true. Condition: the argument is a slice of modules.
-/
import Derived.Test.YtchhjldopecliaaK2
namespace Go.Proofs.Ytchhjldopecliaa
open Go.RowKit

theorem info_int : (Try.prog.info? 3).map (fun i => (i.zero, i.size, i.bytes)) = some (some (.int .i64 0), 1, 8) := by kernel_rfl

/-- A stack of numbers of procedures: the top first; the row holds it from below. -/
structure StkI (ps : List Pc) (w : World) (B : Nat) (v : Value) (top : Str) (rest : List Str) : Prop where
  own : w.ownsRow B 3 1 v (rest.length + 1) ((top :: rest).reverse.map (fun t => Value.int .i64 (fdx t ps)))
theorem StkI.form {ps : List Pc} {w : World} {B : Nat} {v : Value} {top : Str} {rest : List Str} (h : StkI ps w B v top rest) :
    ∃ g cap, v = .slice (some ⟨g, 0, none⟩) (rest.length + 1) cap ∧ B ≤ g ∧ g < w.heap.size ∧ rest.length + 1 ≤ cap ∧ cap ≤ maxLen ∧ w.cell? ⟨g, rest.length, none⟩ = some (.int .i64 (fdx top ps)) := by
  rcases h.own.2 with ⟨_, h0⟩ | ⟨g, cap, cur, rfl, hb, hg, hnc, hcm, hcs, ht⟩
  · omega
  · refine ⟨g, cap, rfl, hb, (Array.getElem?_eq_some_iff.1 hg).1, hnc, hcm, ?_⟩
    have := h.own.cells (g := g) rfl rest.length (.int .i64 (fdx top ps)) (by
      rw [List.getElem?_map, List.reverse_cons, List.getElem?_append_right (by simp)]
      simp)
    have ha : (⟨g, 0, none⟩ : Addr).add rest.length = ⟨g, rest.length, none⟩ := by unfold Addr.add; split <;> simp_all
    rwa [ha] at this
theorem StkI.pop {ps : List Pc} {w : World} {B : Nat} {g cap : Nat} {top t : Str} {rest : List Str} (h : StkI ps w B (.slice (some ⟨g, 0, none⟩) ((t :: rest).length + 1) cap) top (t :: rest)) :
    StkI ps w B (.slice (some ⟨g, 0, none⟩) (rest.length + 1) cap) t rest := by
  rcases h.own.2 with ⟨h0, _⟩ | ⟨g', cap', cur, e, hb, hg, hnc, hcm, hcs, ht⟩
  · cases h0
  · injection e with e1 e2 e3
    injection e1 with e1
    injection e1 with e1
    subst e1 e3
    refine ⟨by simp, .inr ⟨g, cap, cur, rfl, hb, hg, by simp at hnc; omega, hcm, hcs, ?_⟩⟩
    have h2 := congrArg (List.take (rest.length + 1)) ht
    rw [List.take_take] at h2
    simp only [List.length_cons, Nat.mul_one] at h2 ⊢
    rw [Nat.min_eq_left (by omega)] at h2
    rw [h2]
    rw [← List.map_take]
    congr 1
    rw [List.reverse_cons, List.take_append_of_le_length (by simp)]
    exact List.take_of_length_le (by simp)

theorem fdx_found {ps : List Pc} {t : Str} {p : Pc} (h : fnd t ps = some p) : ∃ q : Nat, fdx t ps = q ∧ ps[q]? = some p := by
  rcases fdx_spec t ps with ⟨_, h2⟩ | ⟨k, p', h1, h2, h3⟩
  · rw [h] at h2; cases h2
  · rw [h] at h3
    injection h3 with h3
    subst h3
    exact ⟨k, h1, h2⟩

set_option maxRecDepth 100000 in
set_option maxHeartbeats 8000000 in
theorem r_Loads (A : Option Addr) (n c : Nat) (ms : List Md) (x : Str) (A2 : Option Addr) (n2 c2 : Nat) (walk : List Str) (w : World) (h : SlR w 5 RMd A n c ms) (h2 : SlR w 1 RStr A2 n2 c2 walk) :
    Calls Try.prog 19 #[.slice A n c, .string x, .slice A2 n2 c2] w fun e w' => e = .returned (.tuple #[.int .i64 (lds ms x walk).1, .int .i64 (lds ms x walk).2]) ∧ Below w.heap.size w w' := by
  have hlim2 := h2.lim
  have H2 := Box.mk h2
  have C := Box.mk (r_from A n c ms x w h)
  clear h h2
  by_cases h0 : opf ms x = 0
  · have HLD : Box (lds ms x walk = if 1000 < walk.length then (0, 3) else ldsR (prs ms) x walk) := ⟨by simp [lds, h0]⟩
    have HL := Box.mk H2.out.len
    unfold FromOk at C
    rw [h0] at C
    have HGC : Box (Good ms → ∀ p ∈ prs ms, 0 ≤ p.ov) := ⟨fun hg p hp => by
      obtain ⟨m, hm, i, _, rfl⟩ := prs_mem hp
      exact (hg.md hm).1⟩
    have HTC : Box (opn ms = 0 → ∀ p ∈ prs ms, ∀ s ∈ p.cl, ∃ q, fnd s (prs ms) = some q) := ⟨fun ho p hp s hs => opn_there ho hp hs⟩
    have HCC : Box (Good ms → ∀ p ∈ prs ms, p.cl.length ≤ 100) := ⟨fun hg p hp => hg.pcalls hp⟩
    have HPC : Box (Good ms → (prs ms).length ≤ 100) := ⟨fun hg => hg.plen⟩
    clear h0
    generalize prs ms = ps at *
    go_enter Try.func19, Try.ntmps19
    go_wp2_with fail
    refine C.out.mono ?_
    rintro e w1 ⟨⟨v, k0, rfl, hv⟩, hb1⟩
    obtain ⟨hop, hg, p0, B, cb, rfl, hf0, rfl, hsl⟩ := hv trivial
    have HB1 := Box.mk hb1
    have HTH := Box.mk (HTC.out hop)
    have HOV := Box.mk (HGC.out hg)
    have HCL := Box.mk (HCC.out hg)
    have hpl := HPC.out hg
    have HP := Box.mk hsl
    have HF0 := Box.mk hf0
    clear C hop hg hb1 hv hsl hf0 HTC HGC HCC HPC
    by_cases hn2 : 1000 < n2
    · go_wp2_with fail
      go_ret2
      exact ⟨by rw [HLD.out, HL.out, if_pos hn2]; rfl, HB1.out⟩
    · generalize hfx : fdx x ps = fx at *
      have HFX := Box.mk hfx
      clear hfx
      go_wp2_with fail
      have HS0 : Box (StkI ps (w1.alloc (.cells #[.int .i64 fx] 3)) w1.heap.size (.slice (some ⟨w1.heap.size, 0, none⟩) 1 1) x []) := ⟨⟨rfl, .inr ⟨w1.heap.size, 1, #[.int .i64 fx], rfl, Nat.le_refl _, heap_alloc_new w1 _, Nat.le_refl _, by decide, rfl, by simp [HFX.out]⟩⟩⟩
      have HB0 : Box (Below w1.heap.size w1 (w1.alloc (.cells #[.int .i64 fx] 3))) := ⟨bel_alloc _ _⟩
      have HT0 : Box (∀ t ∈ [x], ∃ p ∈ ps, fnd t ps = some p) := ⟨fun t ht => by
        obtain rfl : t = x := by simpa using ht
        exact ⟨p0, (fnd_some HF0.out).1, HF0.out⟩⟩
      go_loopw [11, 12, 13, 14, 15, 16, 17, 18] (fun v11 v12 v13 i _ _ _ _ wr => ∃ (k : Nat) (top : Str) (rest : List Str) (a l : Int), k ≤ n2 + 1 ∧ i = .int .i64 ((k : Int) - 1) ∧ v12 = .int .i64 a ∧ v13 = .int .i64 l ∧ Box (StkI ps wr w1.heap.size v11 top rest) ∧ Box (Below w1.heap.size w1 wr) ∧
        Box ((k = 0 → top = x ∧ rest = [] ∧ a = 0 ∧ l = 0) ∧ (0 < k → lRun ps x [] (entR (0, 0) (ovOf ps x)) walk = lRun ps top rest (a, l) (walk.drop (k - 1)))) ∧ Box (0 ≤ l ∧ l ≤ k) ∧
        Box (∀ t ∈ top :: rest, ∃ p ∈ ps, fnd t ps = some p) ∧ Box (rest.length ≤ k)) (fun _ _ _ i _ _ _ _ _ => n2 + 1 - (intOf i + 1).toNat)
      case atStart => exact ⟨0, x, [], 0, 0, Nat.zero_le _, rfl, rfl, rfl, HS0, HB0, ⟨fun _ => ⟨rfl, rfl, rfl, rfl⟩, fun h => absurd h (Nat.lt_irrefl 0)⟩, ⟨by decide⟩, HT0, ⟨Nat.zero_le _⟩⟩
      case round =>
        clear HS0 HB0 HT0
        obtain ⟨k, top, rest, a, l, hk, rfl, rfl, rfl, HS, HB, HRUN, HLL, HT, HRL⟩ := hrel
        by_cases hlt : k ≤ n2
        · cases k with
          | zero =>
            obtain ⟨ht, rfl, ha, hl⟩ := HRUN.out.1 rfl
            obtain rfl : x = top := ht.symm
            have HAL := Box.mk (And.intro ha hl)
            obtain ⟨g, cap, rfl, hgB, hgl, hcap, hcm, htop⟩ := HS.out.form
            have e0 : (((0 : Nat) : Int) - 1) = -1 := rfl
            rw [e0]
            clear ha hl
            simp only [List.length_nil] at hcap htop
            go_upto_block 2 with fail
            go_cut [11] (fun s11 wx => Box (Below w1.heap.size w1 wx) ∧ ∃ t' r', Box (StkI ps wx w1.heap.size s11 t' r') ∧ Box (lRun ps x [] (entR (0, 0) (ovOf ps x)) walk = lRun ps t' r' (entR (a, l) (ovOf ps t')) (walk.drop (0))) ∧ Box (∀ t ∈ t' :: r', ∃ p ∈ ps, fnd t ps = some p) ∧ Box (r'.length ≤ 0 + 1))
            case first =>
              go_wp2_with fail
              go_meet
              exact ⟨HB, x, [], HS, ⟨by rw [HAL.out.1, HAL.out.2]; rfl⟩, HT, ⟨Nat.zero_le _⟩⟩
            case rest =>
              obtain ⟨HBc, t', r', HSc, HRc, HTc, HRLc⟩ := hcut
              obtain ⟨g', cap', rfl, hgB', hgl', hcap', hcm', htop'⟩ := HSc.out.form
              obtain ⟨p, hp, hpf⟩ := HTc.out t' (List.mem_cons_self ..)
              obtain ⟨q', hq1, hq2⟩ := fdx_found hpf
              rw [hq1] at htop'
              have hql : q' < ps.length := (List.getElem?_eq_some_iff.1 hq2).1
              obtain ⟨b3, off3, p3, A3, n3, c3, rfl, hb3, hp3, _, _, _, h31, _, _⟩ := HP.out.pc_at q' hql
              rw [hq2] at hp3
              injection hp3 with hp3
              subst hp3
              replace h31 := cellk HBc.out hb3 h31
              have hov : Box (ovOf ps t' = p.ov) := ⟨by simp [ovOf, hpf]⟩
              have ho0 := HOV.out p hp
              have hrl' := HRLc.out
              have hll := HLL.out
              have hwr : IntKind.i64.wrap (r'.length : Int) = r'.length := wrap_i64 (by omega) (by omega)
              clear hp hpf hq1 hq2
              generalize p.ov = o at *
              by_cases ho : o = 0
              · subst ho
                have HE : Box (entR (a, l) (ovOf ps t') = (a, l)) := ⟨by rw [hov.out]; simp [entR]⟩
                rw [HE.out] at HRc
                clear hov
                go_wp2_with fail
                go_roundw
                case rel => exact ⟨0 + 1, t', r', _, _, by omega, vi (by omega), rfl, rfl, HSc, HBc, ⟨fun h => by omega, fun _ => HRc.out⟩, ⟨by omega⟩, HTc, ⟨by omega⟩⟩
                case measure => simp [intOf] <;> omega
              · by_cases hoa : o = a
                · subst hoa
                  have HE : Box (entR (o, l) (ovOf ps t') = (o, l)) := ⟨by rw [hov.out]; simp [entR]⟩
                  rw [HE.out] at HRc
                  clear hov
                  go_wp2_with fail
                  go_roundw
                  case rel => exact ⟨0 + 1, t', r', _, _, by omega, vi (by omega), rfl, rfl, HSc, HBc, ⟨fun h => by omega, fun _ => HRc.out⟩, ⟨by omega⟩, HTc, ⟨by omega⟩⟩
                  case measure => simp [intOf] <;> omega
                · have HE : Box (entR (a, l) (ovOf ps t') = (o, l + 1)) := ⟨by rw [hov.out]; simp [entR, ho, hoa]⟩
                  rw [HE.out] at HRc
                  clear hov
                  have hoa' : (o != a) = true := by simpa using hoa
                  go_wp2_with fail
                  go_roundw
                  case rel => exact ⟨0 + 1, t', r', _, _, by omega, vi (by omega), rfl, rfl, HSc, HBc, ⟨fun h => by omega, fun _ => HRc.out⟩, ⟨by omega⟩, HTc, ⟨by omega⟩⟩
                  case measure => simp [intOf] <;> omega
          | succ q =>
            have e0 : (((q + 1 : Nat) : Int) - 1) = q := by omega
            rw [e0]
            obtain ⟨b5, o5, s, rfl, hb5, hx5, hs5, hc5⟩ := H2.out.str_at q (by omega)
            have HBw : Box (Below w.heap.size w wr) := ⟨below_tr HB1.out HB1.out.size HB.out⟩
            have HC5 := Box.mk (And.intro hb5 hc5)
            replace hc5 := cellk HBw.out hb5 hc5
            have HX : Box (walk.drop q = s :: walk.drop (q + 1)) := ⟨by
              obtain ⟨h1, h2⟩ := List.getElem?_eq_some_iff.1 hx5
              rw [← h2]
              exact List.drop_eq_getElem_cons h1⟩
            obtain ⟨g, cap, rfl, hgB, hgl, hcap, hcm, htop⟩ := HS.out.form
            have hrl := HRL.out
            have HRS : Box (lRun ps x [] (entR (0, 0) (ovOf ps x)) walk = match lStep ps top rest s with | none => none | some (t, l') => lRun ps t l' (entR (a, l) (ovOf ps t)) (walk.drop (q + 1))) := ⟨by
              have := HRUN.out.2 (by omega)
              rw [Nat.add_sub_cancel, HX.out] at this
              rw [this]
              rfl⟩
            obtain ⟨p, hp, hpf⟩ := HT.out top (List.mem_cons_self ..)
            obtain ⟨qt, hq1, hq2⟩ := fdx_found hpf
            rw [hq1] at htop
            have HTOP := Box.mk (And.intro hp (And.intro hpf hq2))
            clear hp hpf hq1 hq2
            clear hx5 hs5 hb5
            go_upto_block 2 with fail
            go_cut [11] (fun s11 wx => Box (Below w1.heap.size w1 wx) ∧ ∃ t' r', Box (StkI ps wx w1.heap.size s11 t' r') ∧ Box (lRun ps x [] (entR (0, 0) (ovOf ps x)) walk = lRun ps t' r' (entR (a, l) (ovOf ps t')) (walk.drop (q + 1))) ∧ Box (∀ t ∈ t' :: r', ∃ p ∈ ps, fnd t ps = some p) ∧ Box (r'.length ≤ q + 1 + 1))
            case first =>
              by_cases hse : s = ByteArray.empty
              · subst hse
                cases rest with
                | nil =>
                  have HR : Box (ldsR ps x walk = (0, 7)) := ⟨by unfold ldsR; rw [HRS.out]; simp [lStep]⟩
                  go_wp2_with fail
                  go_ret2
                  have e : lds ms x walk = (0, 7) := by rw [HLD.out, HL.out, if_neg hn2, HR.out]
                  exact ⟨by rw [e]; rfl, below_tr HB1.out HB1.out.size HB.out⟩
                | cons t r =>
                  have hp := HS.out.pop
                  have HP2 := Box.mk hp
                  clear hp
                  simp only [List.length_cons] at hrl hcap htop
                  have hnz : (((r.length : Int) + 1) == 0) = false := by simp; omega
                  have HRN : Box (lRun ps x [] (entR (0, 0) (ovOf ps x)) walk = lRun ps t r (entR (a, l) (ovOf ps t)) (walk.drop (q + 1))) := ⟨by rw [HRS.out]; simp [lStep]⟩
                  go_wp2_with fail
                  go_meet
                  exact ⟨HB, t, r, HP2, HRN, ⟨fun z hz => HT.out z (List.mem_cons_of_mem _ hz)⟩, ⟨by omega⟩⟩
              · obtain ⟨hp, hpf, hq2⟩ := HTOP.out
                have hql : qt < ps.length := (List.getElem?_eq_some_iff.1 hq2).1
                obtain ⟨b3, off3, p3, A3, n3, c3, rfl, hb3, hp3, _, hcl3, _, _, _, h33⟩ := HP.out.pc_at qt hql
                rw [hq2] at hp3
                injection hp3 with hp3
                subst hp3
                have h33o := Box.mk h33
                replace h33 := cellk HB.out hb3 h33
                have HC3 := Box.mk hcl3
                have hn3 : n3 ≤ 100 := by rw [← hcl3.len]; exact HCL.out p hp
                have hcl : Box (clOf ps top = p.cl) := ⟨by simp [clOf, hpf]⟩
                have HPS := Box.mk hp
                have HSE := Box.mk hse
                have hse1 : (ByteArray.toList s == []) = false := by
                  rw [← show ByteArray.toList ByteArray.empty = [] from by simp [ByteArray.toList_eq], tleq]
                  simpa using hse
                clear hp hpf hq2 hcl3 hse
                go_wp2_with fail
                have HH33 : Box (∀ W : World, Below w1.heap.size w1 W → W.cell? ⟨b3, off3 + qt * 4 + 3, none⟩ = some (.slice A3 n3 c3)) := ⟨fun W hW => cellk hW hb3 (h33o.out)⟩
                clear h33
                go_loopw [16, 17] (fun b16 i wx => ∃ j : Nat, j ≤ n3 ∧ i = .int .i64 j ∧ b16 = .bool ((p.cl.take j).any (fun y => decide (y = s))) ∧ Box (Below w1.heap.size w1 wx) ∧ Box (StkI ps wx w1.heap.size (.slice (some ⟨g, 0, none⟩) (rest.length + 1) cap) top rest)) (fun _ i _ => n3 - (intOf i).toNat)
                case atStart => exact ⟨0, Nat.zero_le _, rfl, rfl, HB, HS⟩
                case round =>
                  clear HB HS HBw hc5
                  obtain ⟨j, hj, rfl, rfl, HB, HS⟩ := hrel
                  have HBw : Box (Below w.heap.size w wr) := ⟨below_tr HB1.out HB1.out.size HB.out⟩
                  have h33 := HH33.out wr HB.out
                  have hc5 := cellk HBw.out HC5.out.1 HC5.out.2
                  by_cases hjl : j < n3
                  · obtain ⟨b7, o7, y, rfl, hb7, hx7, hs7, hc7⟩ := HC3.out.str_at j hjl
                    replace hc7 := cellk HB.out hb7 hc7
                    have htk : Box ((p.cl.take (j + 1)).any (fun y => decide (y = s)) = ((p.cl.take j).any (fun y => decide (y = s)) || decide (y = s))) := ⟨by rw [List.take_add_one, hx7, List.any_append]; simp⟩
                    clear hx7 hs7
                    generalize (p.cl.take j).any (fun y => decide (y = s)) = P at htk
                    cases P
                    case true =>
                      go_upto_region 16 with fail
                      go_quiet (fail)
                      have HBq : Box (Below w1.heap.size w1 (wr.drewN nq)) := ⟨⟨HB.out.os, HB.out.tape, HB.out.output, HB.out.size, HB.out.block⟩⟩
                      have HSq : Box (StkI ps (wr.drewN nq) w1.heap.size (.slice (some ⟨g, 0, none⟩) (rest.length + 1) cap) top rest) := ⟨⟨HS.out.own⟩⟩
                      go_wp2_with fail
                      go_roundw
                      case rel => exact ⟨j + 1, by omega, by go_num, vb (by rw [htk.out]; simp), HBq, HSq⟩
                      case measure => simp [intOf] <;> omega
                    case false =>
                      have hq : (ByteArray.toList y == ByteArray.toList s) = decide (y = s) := tleq y s
                      generalize decide (y = s) = Y at hq htk
                      go_upto_region 16 with fail
                      go_quiet (fail)
                      have HBq : Box (Below w1.heap.size w1 (wr.drewN nq)) := ⟨⟨HB.out.os, HB.out.tape, HB.out.output, HB.out.size, HB.out.block⟩⟩
                      have HSq : Box (StkI ps (wr.drewN nq) w1.heap.size (.slice (some ⟨g, 0, none⟩) (rest.length + 1) cap) top rest) := ⟨⟨HS.out.own⟩⟩
                      go_wp2_with fail
                      go_roundw
                      case rel => exact ⟨j + 1, by omega, by go_num, vb (by rw [htk.out]; simp), HBq, HSq⟩
                      case measure => simp [intOf] <;> omega
                  · obtain rfl : j = n3 := by omega
                    have e : p.cl.take j = p.cl := List.take_of_length_le (by rw [HC3.out.len]; exact Nat.le_refl _)
                    rw [e]
                    clear e
                    by_cases hin : s ∈ p.cl
                    · have hd : (p.cl.any fun y => decide (y = s)) = true := List.any_eq_true.2 ⟨s, hin, by simp⟩
                      rw [hd]
                      have HRN : Box (lRun ps x [] (entR (0, 0) (ovOf ps x)) walk = lRun ps s (top :: rest) (entR (a, l) (ovOf ps s)) (walk.drop (q + 1))) := ⟨by rw [HRS.out]; simp [lStep, HSE.out, hcl.out, hin]⟩
                      have HFS := Box.mk (HTH.out p HPS.out s hin)
                      clear hd hin
                      go_wp2_with fail
                      refine (r_find s _ ps.length cb ps wr (HP.out.below mono_pc HB.out)).mono ?_
                      rintro e w3 ⟨rfl, rfl⟩
                      generalize hfs : fdx s ps = fs
                      have HFX2 := Box.mk hfs
                      clear hfs
                      go_wp2_with (at_builtin; refine wpL_app _ w1.heap.size rfl _ _ 30 3 rfl (.int .i64 0) 1 8 Try.underlying30 info_int rfl (by decide) (by decide) (.slice (some ⟨g, 0, none⟩) (rest.length + 1) cap) (rest.length + 1) ((top :: rest).reverse.map (fun t => Value.int .i64 (fdx t ps))) rfl (HS.out.own.alloc _) (some ⟨_, 0, none⟩) 1 1 [.int .i64 fs] rfl (src_at _ _ _ _ (by simp) rfl) (by omega) (Nat.le_trans HB.out.size (bel_alloc _ _).size) ?_; intro v3' wa ho3 hg3' hat3)
                      have hg3 := grown_al wr hg3' rfl rfl rfl rfl
                      have HBa : Box (Below w1.heap.size w1 wa) := ⟨HB.out.grown hg3 HB.out.size (fun z hz => (HS.out.own.lt z hz).1)⟩
                      have HO3 : Box (StkI ps wa w1.heap.size v3' s (top :: rest)) := ⟨⟨by rw [List.reverse_cons, List.map_append, List.map_singleton, HFX2.out]; exact ho3⟩⟩
                      clear hg3 hg3' ho3 hat3
                      go_meet
                      refine ⟨HBa, s, top :: rest, HO3, HRN, ⟨fun z hz => ?_⟩, ⟨by simp; omega⟩⟩
                      rcases List.mem_cons.1 hz with rfl | hz
                      · obtain ⟨u, hu⟩ := HFS.out
                        exact ⟨u, (fnd_some hu).1, hu⟩
                      · exact HT.out z hz
                    · have hd : (p.cl.any fun y => decide (y = s)) = false := by rw [List.any_eq_false]; intro y hy; simp; exact fun e => hin (e ▸ hy)
                      rw [hd]
                      have HR : Box (ldsR ps x walk = (0, 7)) := ⟨by unfold ldsR; rw [HRS.out]; simp [lStep, HSE.out, hcl.out, hin]⟩
                      clear hd hin
                      go_wp2_with fail
                      go_ret2
                      have e : lds ms x walk = (0, 7) := by rw [HLD.out, HL.out, if_neg hn2, HR.out]
                      exact ⟨by rw [e]; rfl, HBw.out⟩
            case rest =>
              obtain ⟨HBc, t', r', HSc, HRc, HTc, HRLc⟩ := hcut
              obtain ⟨g', cap', rfl, hgB', hgl', hcap', hcm', htop'⟩ := HSc.out.form
              obtain ⟨p, hp, hpf⟩ := HTc.out t' (List.mem_cons_self ..)
              obtain ⟨q', hq1, hq2⟩ := fdx_found hpf
              rw [hq1] at htop'
              have hql : q' < ps.length := (List.getElem?_eq_some_iff.1 hq2).1
              obtain ⟨b3, off3, p3, A3, n3, c3, rfl, hb3, hp3, _, _, _, h31, _, _⟩ := HP.out.pc_at q' hql
              rw [hq2] at hp3
              injection hp3 with hp3
              subst hp3
              replace h31 := cellk HBc.out hb3 h31
              have hov : Box (ovOf ps t' = p.ov) := ⟨by simp [ovOf, hpf]⟩
              have ho0 := HOV.out p hp
              have hrl' := HRLc.out
              have hll := HLL.out
              have hwr : IntKind.i64.wrap (r'.length : Int) = r'.length := wrap_i64 (by omega) (by omega)
              clear hp hpf hq1 hq2
              generalize p.ov = o at *
              by_cases ho : o = 0
              · subst ho
                have HE : Box (entR (a, l) (ovOf ps t') = (a, l)) := ⟨by rw [hov.out]; simp [entR]⟩
                rw [HE.out] at HRc
                clear hov
                go_wp2_with fail
                go_roundw
                case rel => exact ⟨q + 1 + 1, t', r', _, _, by omega, vi (by omega), rfl, rfl, HSc, HBc, ⟨fun h => by omega, fun _ => HRc.out⟩, ⟨by omega⟩, HTc, ⟨by omega⟩⟩
                case measure => simp [intOf] <;> omega
              · by_cases hoa : o = a
                · subst hoa
                  have HE : Box (entR (o, l) (ovOf ps t') = (o, l)) := ⟨by rw [hov.out]; simp [entR]⟩
                  rw [HE.out] at HRc
                  clear hov
                  go_wp2_with fail
                  go_roundw
                  case rel => exact ⟨q + 1 + 1, t', r', _, _, by omega, vi (by omega), rfl, rfl, HSc, HBc, ⟨fun h => by omega, fun _ => HRc.out⟩, ⟨by omega⟩, HTc, ⟨by omega⟩⟩
                  case measure => simp [intOf] <;> omega
                · have HE : Box (entR (a, l) (ovOf ps t') = (o, l + 1)) := ⟨by rw [hov.out]; simp [entR, ho, hoa]⟩
                  rw [HE.out] at HRc
                  clear hov
                  have hoa' : (o != a) = true := by simpa using hoa
                  go_wp2_with fail
                  go_roundw
                  case rel => exact ⟨q + 1 + 1, t', r', _, _, by omega, vi (by omega), rfl, rfl, HSc, HBc, ⟨fun h => by omega, fun _ => HRc.out⟩, ⟨by omega⟩, HTc, ⟨by omega⟩⟩
                  case measure => simp [intOf] <;> omega
        · obtain rfl : k = n2 + 1 := by omega
          have e0 : (((n2 + 1 : Nat) : Int) - 1) = n2 := by omega
          rw [e0]
          have hd : walk.drop (n2 + 1 - 1) = [] := List.drop_eq_nil_of_le (by rw [HL.out]; omega)
          have HR : Box (ldsR ps x walk = (l, 0)) := ⟨by unfold ldsR; rw [HRUN.out.2 (by omega), hd]; rfl⟩
          clear hd
          go_wp2_with fail
          go_ret2
          have e : lds ms x walk = (l, 0) := by rw [HLD.out, HL.out, if_neg hn2, HR.out]
          exact ⟨by rw [e]; rfl, below_tr HB1.out HB1.out.size HB.out⟩
  · have HLD : Box (lds ms x walk = (0, opf ms x)) := ⟨by simp [lds, h0]⟩
    have h0' : (opf ms x != 0) = true := by simpa using h0
    go_enter Try.func19, Try.ntmps19
    go_wp2_with fail
    refine C.out.mono ?_
    rintro e w1 ⟨⟨v, k0, rfl, hv⟩, hb1⟩
    have HB1 := Box.mk hb1
    clear hb1 hv C
    generalize opf ms x = V at *
    go_wp2_with fail
    go_ret2
    exact ⟨by rw [HLD.out]; rfl, HB1.out⟩
end Go.Proofs.Ytchhjldopecliaa
namespace Go.Proofs.Ytchhjldopecliaa
open Go.RowKit

/-- What Missing tells. -/
def mss (ms : List Md) : List Str × Int := if vld ms ≠ 0 then ([], vld ms) else (missS (prs ms), 0)

set_option maxHeartbeats 1000000 in
theorem c_Missing (A : Option Addr) (n c : Nat) (ms : List Md) (w : World) (h : SlR w 5 RMd A n c ms) :
    Calls Try.prog 20 #[.slice A n c] w fun e w' => ∃ A' c', e = .returned (.tuple #[.slice A' (mss ms).1.length c', .int .i64 (mss ms).2]) ∧ SlR w' 1 RStr A' (mss ms).1.length c' (mss ms).1 ∧ Below w.heap.size w w' := by
  have H := Box.mk h
  clear h
  go_enter Try.func20, Try.ntmps20
  go_wp2_with fail
  refine (c_Validate A n c ms w H.out).mono ?_
  rintro e w1 ⟨rfl, hb1⟩
  have HB1 := Box.mk hb1
  clear hb1
  generalize hv : vld ms = V
  by_cases h0 : V = 0
  · subst h0
    have HG := Box.mk (vld_good hv)
    have HO : Box (mss ms = (missS (prs ms), 0)) := ⟨by simp [mss, hv]⟩
    clear hv
    go_wp2_with fail
    refine (c_procs A n c ms w1 (H.out.below mono_md HB1.out) HG.out.fits HG.out.procs).mono ?_
    rintro e w2 ⟨b, rfl, hm, hbl, hb2⟩
    have HM := Box.mk hm
    have HB2 := Box.mk (below_tr HB1.out HB1.out.size hb2)
    clear hm hbl hb2
    go_wp2_with fail
    refine (c_missing b (prs ms) w2 HM.out HG.out.nms HG.out.plen (fun p hp => HG.out.pcalls hp)).mono ?_
    rintro e w3 ⟨A', c', rfl, hs, hb3⟩
    have HB3 := Box.mk (below_tr HB2.out HB2.out.size hb3)
    have HS := Box.mk hs
    clear hs hb3
    go_wp2_with fail
    go_ret2
    rw [HO.out]
    exact ⟨_, _, rfl, HS.out, HB3.out⟩
  · have HO : Box (mss ms = ([], V)) := ⟨by simp [mss, hv, h0]⟩
    have h0' : (V != 0) = true := by simpa using h0
    clear hv
    go_wp2_with fail
    go_ret2
    rw [HO.out]
    exact ⟨_, _, rfl, slr_nil _ _ _ _ _, HB1.out⟩

set_option maxHeartbeats 1000000 in
theorem r_Missing (A : Option Addr) (n c : Nat) (ms : List Md) (w : World) (h : SlR w 5 RMd A n c ms) :
    Calls Try.prog 21 #[.slice A n c] w fun e w' => ∃ A' c', e = .returned (.tuple #[.slice A' (mss ms).1.length c', .int .i64 (mss ms).2]) ∧ SlR w' 1 RStr A' (mss ms).1.length c' (mss ms).1 ∧ Below w.heap.size w w' := by
  have H := Box.mk h
  clear h
  go_enter Try.func21, Try.ntmps21
  go_wp2_with fail
  refine (r_Validate A n c ms w H.out).mono ?_
  rintro e w1 ⟨rfl, hb1⟩
  have HB1 := Box.mk hb1
  clear hb1
  generalize hv : vld ms = V
  by_cases h0 : V = 0
  · subst h0
    have HG := Box.mk (vld_good hv)
    have HO : Box (mss ms = (missS (prs ms), 0)) := ⟨by simp [mss, hv]⟩
    clear hv
    go_wp2_with fail
    refine (r_missing A n c ms w1 (H.out.below mono_md HB1.out) HG.out).mono ?_
    rintro e w3 ⟨A', c', rfl, hs, hb3⟩
    have HB3 := Box.mk (below_tr HB1.out HB1.out.size hb3)
    have HS := Box.mk hs
    clear hs hb3
    go_wp2_with fail
    go_ret2
    rw [HO.out]
    exact ⟨_, _, rfl, HS.out, HB3.out⟩
  · have HO : Box (mss ms = ([], V)) := ⟨by simp [mss, hv, h0]⟩
    have h0' : (V != 0) = true := by simpa using h0
    clear hv
    go_wp2_with fail
    go_ret2
    rw [HO.out]
    exact ⟨_, _, rfl, slr_nil _ _ _ _ _, HB1.out⟩

set_option maxRecDepth 100000 in
set_option maxHeartbeats 1000000 in
/-- Two slices of the same texts are equal. -/
theorem c_SameTexts (A : Option Addr) (n c : Nat) (B : Option Addr) (c' : Nat) (xs : List Str) (w : World) (h : SlR w 1 RStr A n c xs) (h' : SlR w 1 RStr B n c' xs) :
    Calls Try.prog 25 #[.slice A n c, .slice B n c'] w fun e w' => e = .returned (.bool true) ∧ Below w.heap.size w w' := by
  have hlim := h.lim
  have H := Box.mk h
  have H' := Box.mk h'
  clear h h'
  go_enter Try.func25, Try.ntmps25
  go_wp2_with fail
  go_loopw [5] (fun i wr => ∃ k : Nat, k ≤ n ∧ i = .int .i64 k ∧ Box (Below w.heap.size w wr)) (fun i _ => n - (intOf i).toNat)
  case atStart => exact ⟨0, Nat.zero_le _, rfl, ⟨Below.refl _ _⟩⟩
  case round =>
    obtain ⟨k, hk, rfl, HB⟩ := hrel
    by_cases hlt : k < n
    · obtain ⟨b, off, x, rfl, hb, hx, _, hc⟩ := H.out.str_at k hlt
      obtain ⟨b2, off2, y, rfl, hb2, hy, _, hc2⟩ := H'.out.str_at k hlt
      obtain rfl : x = y := by rw [hx] at hy; exact Option.some.inj hy
      replace hc := cellk HB.out hb hc
      replace hc2 := cellk HB.out hb2 hc2
      have hq : (ByteArray.toList x == ByteArray.toList x) = true := by simp
      clear hx hy
      go_upto_region 6 with fail
      go_quiet (fail)
      have HBq : Box (Below w.heap.size w (wr.drewN nq)) := ⟨⟨HB.out.os, HB.out.tape, HB.out.output, HB.out.size, HB.out.block⟩⟩
      go_wp2_with fail
      go_roundw
      case rel => exact ⟨k + 1, by omega, by go_num, HBq⟩
      case measure => simp [intOf] <;> omega
    · go_wp2_with fail
      go_ret
      exact ⟨rfl, HB.out⟩
end Go.Proofs.Ytchhjldopecliaa
namespace Go.Proofs.Ytchhjldopecliaa
open Go.RowKit

def szAt (ps : List Pc) (o : Nat) : Int := ((ps.filter (fun p => decide (p.ov = (o : Int)))).map (fun p => p.sz)).sum
def szsL (ps : List Pc) : List Int := (List.range 16).map (szAt ps)
theorem szsL_length (ps : List Pc) : (szsL ps).length = 16 := by simp [szsL]
theorem szAt_take {ps : List Pc} {k : Nat} {p : Pc} (h : ps[k]? = some p) (o : Nat) : szAt (ps.take (k + 1)) o = szAt (ps.take k) o + (if p.ov = (o : Int) then p.sz else 0) := by
  unfold szAt
  rw [List.take_add_one, h]
  by_cases ho : p.ov = (o : Int)
  · simp [List.filter_append, ho]
  · simp [List.filter_append, ho]
theorem szsL_take {ps : List Pc} {k : Nat} {p : Pc} (h : ps[k]? = some p) {j : Nat} (hj : p.ov = j) (hj16 : j < 16) :
    szsL (ps.take (k + 1)) = (szsL (ps.take k)).set j (szAt (ps.take k) j + p.sz) := by
  apply List.ext_getElem?
  intro i
  rw [List.getElem?_set]
  by_cases hi : i < 16
  · simp only [szsL, List.getElem?_map, List.length_map, List.length_range, List.getElem?_range hi, Option.map_some, szAt_take h]
    by_cases e : j = i
    · subst e
      simp [hi, hj]
    · have : ¬ p.ov = (i : Int) := by rw [hj]; omega
      simp [this, e]
  · have e1 : ∀ l : List Pc, (szsL l)[i]? = none := fun l => List.getElem?_eq_none (by rw [szsL_length]; omega)
    rw [e1, e1, szsL_length]
    simp
    omega

/-- Procedures of modules that Validate lets in. -/
structure GoodP (ps : List Pc) : Prop where
  len : ps.length ≤ 100
  ov : ∀ p ∈ ps, 0 ≤ p.ov ∧ p.ov ≤ 15
  sz : ∀ p ∈ ps, 1 ≤ p.sz ∧ p.sz ≤ 10000
theorem Good.ps {ms : List Md} (h : Good ms) : GoodP (prs ms) := by
  refine ⟨h.plen, fun p hp => ?_, fun p hp => ?_⟩
  · obtain ⟨m, hm, i, _, rfl⟩ := prs_mem hp
    exact ⟨(h.md hm).1, (h.md hm).2.1⟩
  · obtain ⟨m, hm, i, hi, rfl⟩ := prs_mem hp
    have hl : i < m.sz.length := by rw [(h.fit hm).1]; exact hi
    have e : (pcOf m i).sz = m.sz[i] := getD_some (List.getElem?_eq_getElem hl)
    rw [e]
    exact (h.md hm).2.2.1 _ (List.getElem_mem hl)
theorem GoodP.bound {ps : List Pc} (h : GoodP ps) (k o : Nat) : 0 ≤ szAt (ps.take k) o ∧ szAt (ps.take k) o ≤ 1000000 := by
  have h1 : ∀ x ∈ ((ps.take k).filter (fun p => decide (p.ov = (o : Int)))).map (fun p => p.sz), 0 ≤ x ∧ x ≤ 10000 := by
    intro x hx
    obtain ⟨p, hp, rfl⟩ := List.mem_map.1 hx
    have := h.sz p (List.mem_of_mem_take (List.mem_filter.1 hp).1)
    omega
  have h2 := sum_bound h1
  have h3 : (((ps.take k).filter (fun p => decide (p.ov = (o : Int)))).map (fun p => p.sz)).length ≤ 100 := by
    rw [List.length_map]
    exact Nat.le_trans (List.length_filter_le ..) (Nat.le_trans (List.length_take_le' ..) h.len)
  unfold szAt
  omega

set_option maxRecDepth 100000 in
set_option maxHeartbeats 2000000 in
theorem r_sizes (A : Option Addr) (n c : Nat) (ps : List Pc) (w : World) (h : SlR w 4 RPc A n c ps) (hg : GoodP ps) :
    Calls Try.prog 58 #[.slice A n c] w fun e w' => e = .returned (.agg ((szsL ps).map (Value.int .i64)).toArray) ∧ Below w.heap.size w w' := by
  have hlim := h.lim
  have H := Box.mk h
  have HG := Box.mk hg
  clear h hg
  go_enter Try.func58, Try.ntmps58
  go_wp2_with fail
  have A0 : Box (Arr ((w.alloc (.cells (Array.replicate 16 (.int .i64 0)) 77)).alloc (.cells (Array.replicate 16 (.int .i64 0)) 77)) w.heap.size (List.replicate 16 0)) := ⟨by
    unfold Arr
    rw [Below.heap_alloc _ _ _ (by simp), heap_alloc_new]
    rfl⟩
  have A1 : Box (Arr ((w.alloc (.cells (Array.replicate 16 (.int .i64 0)) 77)).alloc (.cells (Array.replicate 16 (.int .i64 0)) 77)) (w.heap.size + 1) (szsL (ps.take 0))) := ⟨by
    unfold Arr
    have e : w.heap.size + 1 = (w.alloc (.cells (Array.replicate 16 (.int .i64 0)) 77)).heap.size := by simp
    rw [e, heap_alloc_new]
    rfl⟩
  go_loopw [4] (fun i wr => ∃ k : Nat, k ≤ n ∧ i = .int .i64 k ∧ Box (Below w.heap.size w wr) ∧ Box (Arr wr w.heap.size (List.replicate 16 0)) ∧ Box (Arr wr (w.heap.size + 1) (szsL (ps.take k)))) (fun i _ => n - (intOf i).toNat)
  case atStart =>
    refine ⟨0, Nat.zero_le _, rfl, ⟨bel_alloc2 (bel_alloc _ _) _⟩, A0, A1⟩
  case round =>
    obtain ⟨k, hk, rfl, HB, HZ, HA⟩ := hrel
    clear A0 A1
    by_cases hlt : k < n
    · obtain ⟨b, off, p, A1, n1, c1, rfl, hb, hm, _, _, h0, h1, h2, h3⟩ := H.out.pc_at k hlt
      replace h1 := cellk HB.out hb h1
      replace h2 := cellk HB.out hb h2
      have hp := List.mem_iff_getElem?.2 ⟨k, hm⟩
      have g1 := HG.out.ov p hp
      have g2 := HG.out.sz p hp
      obtain ⟨j, hj⟩ : ∃ j : Nat, p.ov = j := ⟨p.ov.toNat, by omega⟩
      have hj16 : j < 16 := by omega
      have hb1 := HG.out.bound k j
      have hxj : (szsL (ps.take k))[j]? = some (szAt (ps.take k) j) := by simp [szsL, hj16]
      have HT : Box (szsL (ps.take (k + 1)) = (szsL (ps.take k)).set j (szAt (ps.take k) j + p.sz)) := ⟨szsL_take hm hj hj16⟩
      have HXJ := Box.mk hxj
      rw [hj] at h1
      clear hm hp g1 hj hxj h0 h3
      have hRl := HA.out.lt
      generalize p.sz = S at *
      generalize hE : szAt (ps.take k) j = E at *
      clear hE
      go_upto_region 5 with fail
      have dj := HA.out.cell HXJ.out
      have fj := HA.out.frozen j
      have hwr : IntKind.i64.wrap (E + S) = E + S := wrap_i64 (by omega) (by omega)
      go_region
      all_goals
        obtain ⟨hs1, hs2⟩ := HA.out.set j (E + S)
        have HS1 : Box (Arr (wr.setCell ⟨w.heap.size + 1, j, none⟩ (.int .i64 (E + S))).drew (w.heap.size + 1) (szsL (ps.take (k + 1)))) := ⟨by rw [HT.out]; exact hs1⟩
        have HB1 : Box (Below w.heap.size w (wr.setCell ⟨w.heap.size + 1, j, none⟩ (.int .i64 (E + S))).drew) := ⟨by
          have := HB.out.grown hs2 HB.out.size (fun q hq => by injection hq with hq; omega)
          exact ⟨this.os, this.tape, this.output, this.size, this.block⟩⟩
        have HZ1 : Box (Arr (wr.setCell ⟨w.heap.size + 1, j, none⟩ (.int .i64 (E + S))).drew w.heap.size (List.replicate 16 0)) := ⟨(hs2.block _ HZ.out.lt (by intro e; injection e with e; omega)).trans HZ.out⟩
        clear hs1 hs2 dj fj h1 h2
        generalize (wr.setCell ⟨w.heap.size + 1, j, none⟩ (.int .i64 (E + S))).drew = W5 at *
        go_wp2_with fail
        go_roundw
        case rel => exact ⟨k + 1, by omega, by go_num, HB1, HZ1, HS1⟩
        case measure => simp [intOf] <;> omega
    · obtain rfl : k = n := by omega
      rw [List.take_of_length_le (by rw [H.out.len]; exact Nat.le_refl _)] at HA
      have hAA := HA.out
      have hZZ := HZ.out
      generalize hq : szsL ps = Q at *
      have hl : Q.length = 16 := by rw [← hq, szsL_length]
      have HQ := Box.mk hq
      clear hq
      match Q, hl, HQ with
      | [x0, x1, x2, x3, x4, x5, x6, x7, x8, x9, x10, x11, x12, x13, x14, x15], _, HQ =>
        have a0 := hAA.cell (j := 0) rfl
        have z0 := hZZ.cell (j := 0) rfl
        have f0 := hZZ.frozen 0
        have a1 := hAA.cell (j := 1) rfl
        have z1 := hZZ.cell (j := 1) rfl
        have f1 := hZZ.frozen 1
        have a2 := hAA.cell (j := 2) rfl
        have z2 := hZZ.cell (j := 2) rfl
        have f2 := hZZ.frozen 2
        have a3 := hAA.cell (j := 3) rfl
        have z3 := hZZ.cell (j := 3) rfl
        have f3 := hZZ.frozen 3
        have a4 := hAA.cell (j := 4) rfl
        have z4 := hZZ.cell (j := 4) rfl
        have f4 := hZZ.frozen 4
        have a5 := hAA.cell (j := 5) rfl
        have z5 := hZZ.cell (j := 5) rfl
        have f5 := hZZ.frozen 5
        have a6 := hAA.cell (j := 6) rfl
        have z6 := hZZ.cell (j := 6) rfl
        have f6 := hZZ.frozen 6
        have a7 := hAA.cell (j := 7) rfl
        have z7 := hZZ.cell (j := 7) rfl
        have f7 := hZZ.frozen 7
        have a8 := hAA.cell (j := 8) rfl
        have z8 := hZZ.cell (j := 8) rfl
        have f8 := hZZ.frozen 8
        have a9 := hAA.cell (j := 9) rfl
        have z9 := hZZ.cell (j := 9) rfl
        have f9 := hZZ.frozen 9
        have a10 := hAA.cell (j := 10) rfl
        have z10 := hZZ.cell (j := 10) rfl
        have f10 := hZZ.frozen 10
        have a11 := hAA.cell (j := 11) rfl
        have z11 := hZZ.cell (j := 11) rfl
        have f11 := hZZ.frozen 11
        have a12 := hAA.cell (j := 12) rfl
        have z12 := hZZ.cell (j := 12) rfl
        have f12 := hZZ.frozen 12
        have a13 := hAA.cell (j := 13) rfl
        have z13 := hZZ.cell (j := 13) rfl
        have f13 := hZZ.frozen 13
        have a14 := hAA.cell (j := 14) rfl
        have z14 := hZZ.cell (j := 14) rfl
        have f14 := hZZ.frozen 14
        have a15 := hAA.cell (j := 15) rfl
        have z15 := hZZ.cell (j := 15) rfl
        have f15 := hZZ.frozen 15
        clear hAA
        have HZB := Box.mk hZZ
        clear hZZ
        go_wp2_with fail
        have HF := Box.mk (Arr.all (x0 := x0) (x1 := x1) (x2 := x2) (x3 := x3) (x4 := x4) (x5 := x5) (x6 := x6) (x7 := x7) (x8 := x8) (x9 := x9) (x10 := x10) (x11 := x11) (x12 := x12) (x13 := x13) (x14 := x14) (x15 := x15) HZB.out)
        have HBF : Box (Below w.heap.size w ((((((((((((((((wr.setCell ⟨w.heap.size, 0, none⟩ (.int .i64 x0)).setCell ⟨w.heap.size, 1, none⟩ (.int .i64 x1)).setCell ⟨w.heap.size, 2, none⟩ (.int .i64 x2)).setCell ⟨w.heap.size, 3, none⟩ (.int .i64 x3)).setCell ⟨w.heap.size, 4, none⟩ (.int .i64 x4)).setCell ⟨w.heap.size, 5, none⟩ (.int .i64 x5)).setCell ⟨w.heap.size, 6, none⟩ (.int .i64 x6)).setCell ⟨w.heap.size, 7, none⟩ (.int .i64 x7)).setCell ⟨w.heap.size, 8, none⟩ (.int .i64 x8)).setCell ⟨w.heap.size, 9, none⟩ (.int .i64 x9)).setCell ⟨w.heap.size, 10, none⟩ (.int .i64 x10)).setCell ⟨w.heap.size, 11, none⟩ (.int .i64 x11)).setCell ⟨w.heap.size, 12, none⟩ (.int .i64 x12)).setCell ⟨w.heap.size, 13, none⟩ (.int .i64 x13)).setCell ⟨w.heap.size, 14, none⟩ (.int .i64 x14)).setCell ⟨w.heap.size, 15, none⟩ (.int .i64 x15))) := ⟨HB.out.grown HF.out.2 HB.out.size (fun q hq => by injection hq with hq; omega)⟩
        clear a0 z0 f0 a1 z1 f1 a2 z2 f2 a3 z3 f3 a4 z4 f4 a5 z5 f5 a6 z6 f6 a7 z7 f7 a8 z8 f8 a9 z9 f9 a10 z10 f10 a11 z11 f11 a12 z12 f12 a13 z13 f13 a14 z14 f14 a15 z15 f15
        generalize ((((((((((((((((wr.setCell ⟨w.heap.size, 0, none⟩ (.int .i64 x0)).setCell ⟨w.heap.size, 1, none⟩ (.int .i64 x1)).setCell ⟨w.heap.size, 2, none⟩ (.int .i64 x2)).setCell ⟨w.heap.size, 3, none⟩ (.int .i64 x3)).setCell ⟨w.heap.size, 4, none⟩ (.int .i64 x4)).setCell ⟨w.heap.size, 5, none⟩ (.int .i64 x5)).setCell ⟨w.heap.size, 6, none⟩ (.int .i64 x6)).setCell ⟨w.heap.size, 7, none⟩ (.int .i64 x7)).setCell ⟨w.heap.size, 8, none⟩ (.int .i64 x8)).setCell ⟨w.heap.size, 9, none⟩ (.int .i64 x9)).setCell ⟨w.heap.size, 10, none⟩ (.int .i64 x10)).setCell ⟨w.heap.size, 11, none⟩ (.int .i64 x11)).setCell ⟨w.heap.size, 12, none⟩ (.int .i64 x12)).setCell ⟨w.heap.size, 13, none⟩ (.int .i64 x13)).setCell ⟨w.heap.size, 14, none⟩ (.int .i64 x14)).setCell ⟨w.heap.size, 15, none⟩ (.int .i64 x15)) = W9 at *
        have c0 := HF.out.1.cell (j := 0) rfl
        have c1 := HF.out.1.cell (j := 1) rfl
        have c2 := HF.out.1.cell (j := 2) rfl
        have c3 := HF.out.1.cell (j := 3) rfl
        have c4 := HF.out.1.cell (j := 4) rfl
        have c5 := HF.out.1.cell (j := 5) rfl
        have c6 := HF.out.1.cell (j := 6) rfl
        have c7 := HF.out.1.cell (j := 7) rfl
        have c8 := HF.out.1.cell (j := 8) rfl
        have c9 := HF.out.1.cell (j := 9) rfl
        have c10 := HF.out.1.cell (j := 10) rfl
        have c11 := HF.out.1.cell (j := 11) rfl
        have c12 := HF.out.1.cell (j := 12) rfl
        have c13 := HF.out.1.cell (j := 13) rfl
        have c14 := HF.out.1.cell (j := 14) rfl
        have c15 := HF.out.1.cell (j := 15) rfl
        refine bodyPost_ret (v := .agg #[.int .i64 x0, .int .i64 x1, .int .i64 x2, .int .i64 x3, .int .i64 x4, .int .i64 x5, .int .i64 x6, .int .i64 x7, .int .i64 x8, .int .i64 x9, .int .i64 x10, .int .i64 x11, .int .i64 x12, .int .i64 x13, .int .i64 x14, .int .i64 x15]) (by simp [results, Try.results58, go_sem, *]) rfl ⟨by rw [HQ.out]; rfl, HBF.out⟩
end Go.Proofs.Ytchhjldopecliaa
namespace Go.Proofs.Ytchhjldopecliaa
open Go.RowKit

theorem szAt_app (a b : List Pc) (o : Nat) : szAt (a ++ b) o = szAt a o + szAt b o := by
  unfold szAt
  rw [List.filter_append, List.map_append, List.sum_append]
theorem getD_range_sum : ∀ (l : List Int), ((List.range l.length).map (fun i => l.getD i 0)).sum = l.sum := by
  intro l
  have : (List.range l.length).map (fun i => l.getD i 0) = l := by
    apply List.ext_getElem?
    intro i
    by_cases h : i < l.length
    · simp [h]
    · rw [List.getElem?_eq_none (by simp; omega), List.getElem?_eq_none (by omega)]
  rw [this]
theorem szAt_prM (m : Md) (h : m.sz.length = m.pr.length) (o : Nat) : szAt (prM m) o = if m.ov = (o : Int) then m.sz.sum else 0 := by
  have hov : ∀ p ∈ prM m, p.ov = m.ov := by
    intro p hp
    obtain ⟨i, _, rfl⟩ := List.mem_map.1 hp
    rfl
  unfold szAt
  by_cases ho : m.ov = (o : Int)
  · rw [if_pos ho]
    have : (prM m).filter (fun p => decide (p.ov = (o : Int))) = prM m := List.filter_eq_self.2 (fun p hp => by rw [hov p hp]; simpa using ho)
    rw [this]
    unfold prM
    rw [List.map_map, ← h]
    exact getD_range_sum m.sz
  · rw [if_neg ho]
    have : (prM m).filter (fun p => decide (p.ov = (o : Int))) = [] := List.filter_eq_nil_iff.2 (fun p hp => by rw [hov p hp]; simpa using ho)
    rw [this]
    rfl
theorem szAt_prs (o : Nat) : ∀ (ms : List Md), (∀ m ∈ ms, m.sz.length = m.pr.length) → szAt (prs ms) o = endAt ms o
  | [], _ => rfl
  | m :: r, h => by
    have e1 : prs (m :: r) = prM m ++ prs r := rfl
    rw [e1, szAt_app, szAt_prM m (h m (List.mem_cons_self ..)), szAt_prs o r (fun x hx => h x (List.mem_cons_of_mem _ hx))]
    unfold endAt
    by_cases ho : m.ov = (o : Int)
    · simp [ho]
    · simp [ho]
theorem szsL_prs {ms : List Md} (h : Good ms) : szsL (prs ms) = endsL ms := by
  unfold szsL endsL
  apply List.map_congr_left
  intro o _
  exact szAt_prs o ms (fun m hm => (h.fit hm).1)
theorem foldl_max_zero {l : List Int} (hl : l ≠ []) (h : ∀ x ∈ l, 0 ≤ x) : l.foldl max 0 = mxL l := by
  cases l with
  | nil => exact absurd rfl hl
  | cons x r =>
    have := h x (List.mem_cons_self ..)
    show r.foldl max (max 0 x) = r.foldl max x
    rw [Int.max_eq_right this]
theorem Good.ends_nonneg {ms : List Md} (h : Good ms) : ∀ x ∈ endsL ms, 0 ≤ x := by
  intro x hx
  obtain ⟨o, _, rfl⟩ := List.mem_map.1 hx
  have := h.endAt_bound ms.length o
  rw [List.take_length] at this
  exact this.1

set_option maxRecDepth 100000 in
set_option maxHeartbeats 4000000 in
theorem r_Sizes (A : Option Addr) (n c : Nat) (ms : List Md) (w : World) (h : SlR w 5 RMd A n c ms) :
    Calls Try.prog 23 #[.slice A n c] w fun e w' => e = .returned (.tuple #[.int .i64 (szs ms).1, .int .i64 (szs ms).2.1, .int .i64 (szs ms).2.2]) ∧ Below w.heap.size w w' := by
  have H := Box.mk h
  clear h
  go_enter Try.func23, Try.ntmps23
  go_wp2_with fail
  refine (r_Validate A n c ms w H.out).mono ?_
  rintro e w1 ⟨rfl, hb1⟩
  have HB1 := Box.mk hb1
  clear hb1
  generalize hv : vld ms = V
  by_cases h0 : V = 0
  · subst h0
    have HG := Box.mk (vld_good hv)
    have HV : Box (szs ms = (endAt ms 0, mxL (endsL ms).tail, 0)) := ⟨by simp [szs, hv]⟩
    have C := Box.mk (r_all A n c ms w1 (H.out.below mono_md HB1.out) HG.out)
    have CS : Box (∀ (W : World) (B : Option Addr) (cb : Nat), SlR W 4 RPc B (prs ms).length cb (prs ms) → Calls Try.prog 58 #[.slice B (prs ms).length cb] W fun e w' => e = .returned (.agg ((endsL ms).map (Value.int .i64)).toArray) ∧ Below W.heap.size W w') := ⟨fun W B cb hW => by
      have := r_sizes B _ cb (prs ms) W hW HG.out.ps
      rwa [szsL_prs HG.out] at this⟩
    have hE : (endsL ms)[0]? = some (endAt ms 0) := by simp [endsL]
    have HE := Box.mk hE
    have HNN := Box.mk HG.out.ends_nonneg
    clear hv hE
    have hl := endsL_length ms
    generalize prs ms = ps at *
    generalize hq : endsL ms = Q at *
    clear hq
    match Q, hl, CS, HV, HE, HNN with
    | [x0, x1, x2, x3, x4, x5, x6, x7, x8, x9, x10, x11, x12, x13, x14, x15], _, CS, HV, HE, HNN =>
      go_wp2_with fail
      refine C.out.mono ?_
      rintro e w2 ⟨B, cb, rfl, hp, hb2⟩
      have HB2 := Box.mk (below_tr HB1.out HB1.out.size hb2)
      have HP := Box.mk hp
      clear hp hb2
      go_wp2_with fail
      refine (CS.out w2 B cb HP.out).mono ?_
      rintro e w3 ⟨rfl, hb3⟩
      have HB3 := Box.mk (below_tr HB2.out HB2.out.size hb3)
      clear hb3
      have HA : Box (Arr (w3.alloc (.cells #[.int .i64 x0, .int .i64 x1, .int .i64 x2, .int .i64 x3, .int .i64 x4, .int .i64 x5, .int .i64 x6, .int .i64 x7, .int .i64 x8, .int .i64 x9, .int .i64 x10, .int .i64 x11, .int .i64 x12, .int .i64 x13, .int .i64 x14, .int .i64 x15] 77)) w3.heap.size [x0, x1, x2, x3, x4, x5, x6, x7, x8, x9, x10, x11, x12, x13, x14, x15]) := ⟨heap_alloc_new w3 _⟩
      have HB4 : Box (Below w.heap.size w (w3.alloc (.cells #[.int .i64 x0, .int .i64 x1, .int .i64 x2, .int .i64 x3, .int .i64 x4, .int .i64 x5, .int .i64 x6, .int .i64 x7, .int .i64 x8, .int .i64 x9, .int .i64 x10, .int .i64 x11, .int .i64 x12, .int .i64 x13, .int .i64 x14, .int .i64 x15] 77))) := ⟨bel_alloc2 HB3.out _⟩
      have HMX : Box ([x1, x2, x3, x4, x5, x6, x7, x8, x9, x10, x11, x12, x13, x14, x15].foldl max 0 = mxL [x1, x2, x3, x4, x5, x6, x7, x8, x9, x10, x11, x12, x13, x14, x15]) := ⟨foldl_max_zero (by simp) (fun z hz => HNN.out z (List.mem_cons_of_mem _ hz))⟩
      simp only [List.map_cons, List.map_nil]
      clear CS C
      go_upto_region 5 with fail
      generalize (w3.alloc (.cells #[.int .i64 x0, .int .i64 x1, .int .i64 x2, .int .i64 x3, .int .i64 x4, .int .i64 x5, .int .i64 x6, .int .i64 x7, .int .i64 x8, .int .i64 x9, .int .i64 x10, .int .i64 x11, .int .i64 x12, .int .i64 x13, .int .i64 x14, .int .i64 x15] 77)) = W at *
      go_wp2_with fail
      go_loop [7, 8] (fun t i => ∃ k : Nat, k ≤ 15 ∧ i = .int .i64 ((k : Int) + 1) ∧ t = .int .i64 (([x1, x2, x3, x4, x5, x6, x7, x8, x9, x10, x11, x12, x13, x14, x15].take k).foldl max 0)) (fun _ i => 16 - (intOf i).toNat)
      case atStart => exact ⟨0, by decide, rfl, rfl⟩
      case round =>
        obtain ⟨k, hk, rfl, rfl⟩ := hrel
        by_cases hlt : k < 15
        · obtain ⟨y, hy⟩ : ∃ y, [x1, x2, x3, x4, x5, x6, x7, x8, x9, x10, x11, x12, x13, x14, x15][k]? = some y := ⟨_, List.getElem?_eq_getElem (by simpa using hlt)⟩
          have hc : W.cell? ⟨w3.heap.size, k + 1, none⟩ = some (.int .i64 y) := HA.out.cell (by simpa using hy)
          have HT : Box (([x1, x2, x3, x4, x5, x6, x7, x8, x9, x10, x11, x12, x13, x14, x15].take (k + 1)).foldl max 0 = max (([x1, x2, x3, x4, x5, x6, x7, x8, x9, x10, x11, x12, x13, x14, x15].take k).foldl max 0) y) := ⟨by rw [List.take_add_one, hy, List.foldl_append]; rfl⟩
          clear hy
          generalize ([x1, x2, x3, x4, x5, x6, x7, x8, x9, x10, x11, x12, x13, x14, x15].take k).foldl max 0 = z at HT
          go_wp2_with fail
          refine ⟨⟨k + 1, by omega, by go_num, vi (by rw [HT.out])⟩, ?_⟩
          simp [intOf]
          omega
        · obtain rfl : k = 15 := by omega
          have d0 := HA.out.cell (j := 0) rfl
          have HZ : Box (([x1, x2, x3, x4, x5, x6, x7, x8, x9, x10, x11, x12, x13, x14, x15].take 15).foldl max 0 = mxL [x1, x2, x3, x4, x5, x6, x7, x8, x9, x10, x11, x12, x13, x14, x15]) := ⟨HMX.out⟩
          clear HMX
          generalize ([x1, x2, x3, x4, x5, x6, x7, x8, x9, x10, x11, x12, x13, x14, x15].take 15).foldl max 0 = z at HZ ⊢
          go_wp2_with fail
          go_ret3
          refine ⟨ret3 ?_ ?_ ?_, HB4.out⟩
          · rw [HV.out]; have := HE.out; simpa using this
          · rw [HV.out]; exact HZ.out
          · rw [HV.out]
  · have HO : Box (szs ms = (0, 0, V)) := ⟨by simp [szs, hv, h0]⟩
    have h0' : (V != 0) = true := by simpa using h0
    clear hv
    go_wp2_with fail
    go_ret3
    exact ⟨ret3 (by rw [HO.out]) (by rw [HO.out]) (by rw [HO.out]), HB1.out⟩
end Go.Proofs.Ytchhjldopecliaa
namespace Go.Proofs.Ytchhjldopecliaa
open Go.RowKit

set_option maxRecDepth 100000 in
set_option maxHeartbeats 2000000 in
theorem c_LinkFits (A : Option Addr) (n c : Nat) (ms : List Md) (w : World) (h : SlR w 5 RMd A n c ms) :
    Calls Try.prog 5 #[.slice A n c] w fun e w' => e = .returned (.bool true) ∧ Below w.heap.size w w' := by
  have hlim := h.lim
  have H := Box.mk h
  clear h
  go_enter Try.func5, Try.ntmps5
  go_wp2_with fail
  refine (c_over A n c ms w H.out).mono ?_
  rintro e w1 ⟨⟨q, rfl, hq⟩, hb1⟩
  have HB1 := Box.mk hb1
  clear hb1 hq
  cases q
  case true =>
    go_wp2_with fail
    refine (c_known w1).mono ?_
    rintro e w2 ⟨rfl, hb2⟩
    have HB2 := Box.mk (below_tr HB1.out HB1.out.size hb2)
    clear hb2
    go_wp2_with fail
    go_ret
    exact ⟨rfl, HB2.out⟩
  case false =>
    go_wp2_with fail
    refine (c_Missing A n c ms w1 (H.out.below mono_md HB1.out)).mono ?_
    rintro e w2 ⟨B1, d1, rfl, hs2, hb2⟩
    have HB2 := Box.mk (below_tr HB1.out HB1.out.size hb2)
    have HS2 := Box.mk hs2
    clear hb2 hs2
    have CM := Box.mk (r_Missing A n c ms w2 (H.out.below mono_md HB2.out))
    obtain ⟨nm, hnm⟩ : ∃ nm, nm = (mss ms).1.length := ⟨_, rfl⟩
    rw [← hnm] at HS2 CM ⊢
    clear hnm
    generalize (mss ms).1 = xs at *
    generalize (mss ms).2 = E at *
    go_wp2_with fail
    refine CM.out.mono ?_
    rintro e w3 ⟨B2, d2, rfl, hs3, hb3⟩
    have HB3 := Box.mk (below_tr HB2.out HB2.out.size hb3)
    have HS3 := Box.mk hs3
    have HS2' := Box.mk (HS2.out.below mono_str hb3)
    clear hb3 hs3 CM
    have CS := Box.mk (c_Sizes A n c ms w3 (H.out.below mono_md HB3.out))
    have CR := Box.mk (fun W hW => r_Sizes A n c ms W (H.out.below mono_md hW))
    generalize (szs ms).1 = E1 at *
    generalize (szs ms).2.1 = E2 at *
    generalize (szs ms).2.2 = E3 at *
    go_wp2_with fail
    refine CS.out.mono ?_
    rintro e w4 ⟨rfl, hb4⟩
    have HB4 := Box.mk (below_tr HB3.out HB3.out.size hb4)
    have HS2b := Box.mk (HS2'.out.below mono_str hb4)
    have HS3b := Box.mk (HS3.out.below mono_str hb4)
    clear hb4 CS
    go_wp2_with fail
    refine (CR.out w4 HB4.out).mono ?_
    rintro e w5 ⟨rfl, hb5⟩
    have HB5 := Box.mk (below_tr HB4.out HB4.out.size hb5)
    have HS2c := Box.mk (HS2b.out.below mono_str hb5)
    have HS3c := Box.mk (HS3b.out.below mono_str hb5)
    clear hb5 CR
    go_wp2_with fail
    refine (c_Validate A n c ms w5 (H.out.below mono_md HB5.out)).mono ?_
    rintro e w6 ⟨rfl, hb6⟩
    have HB6 := Box.mk (below_tr HB5.out HB5.out.size hb6)
    have HS2d := Box.mk (HS2c.out.below mono_str hb6)
    have HS3d := Box.mk (HS3c.out.below mono_str hb6)
    clear hb6
    go_wp2_with fail
    refine (r_Validate A n c ms w6 (H.out.below mono_md HB6.out)).mono ?_
    rintro e w7 ⟨rfl, hb7⟩
    have HB7 := Box.mk (below_tr HB6.out HB6.out.size hb7)
    have HS2e := Box.mk (HS2d.out.below mono_str hb7)
    have HS3e := Box.mk (HS3d.out.below mono_str hb7)
    clear hb7
    generalize vld ms = V at *
    go_wp2_with fail
    refine (c_SameTexts B1 nm d1 B2 d2 xs w7 HS2e.out HS3e.out).mono ?_
    rintro e w8 ⟨rfl, hb8⟩
    have HB8 := Box.mk (below_tr HB7.out HB7.out.size hb8)
    clear hb8
    go_wp2_with fail
    refine (c_known w8).mono ?_
    rintro e w9 ⟨rfl, hb9⟩
    have HB9 := Box.mk (below_tr HB8.out HB8.out.size hb9)
    clear hb9
    go_wp2_with fail
    go_ret
    exact ⟨rfl, HB9.out⟩
end Go.Proofs.Ytchhjldopecliaa
namespace Go.Proofs.Ytchhjldopecliaa
open Go.RowKit

/-- The addresses of procedures behind others. -/
def adrs (root : Int) : List Pc → List Pc → List Int
  | _, [] => []
  | prev, p :: r => ((if 0 < p.ov then root else 0) + szAt prev p.ov.toNat) :: adrs root (prev ++ [p]) r
theorem adrs_snoc (root : Int) (p : Pc) : ∀ (l prev : List Pc), adrs root prev (l ++ [p]) = adrs root prev l ++ [(if 0 < p.ov then root else 0) + szAt (prev ++ l) p.ov.toNat]
  | [], prev => by simp [adrs]
  | q :: l, prev => by
    simp only [List.cons_append, adrs, adrs_snoc root p l]
    simp
theorem adrs_length (root : Int) : ∀ (l prev : List Pc), (adrs root prev l).length = l.length
  | [], _ => rfl
  | p :: l, prev => by simp [adrs, adrs_length root l]
theorem adrs_take {ps : List Pc} {k : Nat} {p : Pc} (h : ps[k]? = some p) (root : Int) : adrs root [] (ps.take (k + 1)) = adrs root [] (ps.take k) ++ [(if 0 < p.ov then root else 0) + szAt (ps.take k) p.ov.toNat] := by
  have e : ps.take (k + 1) = ps.take k ++ [p] := by rw [List.take_add_one, h]; rfl
  rw [e, adrs_snoc]
  simp
theorem adrs_get {root : Int} : ∀ {l prev : List Pc} {i : Nat} {p : Pc}, l[i]? = some p → (adrs root prev l)[i]? = some ((if 0 < p.ov then root else 0) + szAt (prev ++ l.take i) p.ov.toNat)
  | [], _, _, _, h => by simp at h
  | q :: l, prev, 0, p, h => by
    obtain rfl : q = p := by simpa using h
    simp [adrs]
  | q :: l, prev, i + 1, p, h => by
    have := adrs_get (root := root) (l := l) (prev := prev ++ [q]) (i := i) (p := p) (by simpa using h)
    simpa [adrs] using this
theorem GoodP.adr {ps : List Pc} (h : GoodP ps) {i : Nat} {p : Pc} (_hp : ps[i]? = some p) : 0 ≤ (if 0 < p.ov then szAt ps 0 else 0) + szAt (ps.take i) p.ov.toNat ∧ (if 0 < p.ov then szAt ps 0 else 0) + szAt (ps.take i) p.ov.toNat ≤ 2000000 := by
  have h1 := h.bound i p.ov.toNat
  have h2 := h.bound ps.length 0
  rw [List.take_length] at h2
  split <;> omega

/-- What Link tells. -/
def lnk (ms : List Md) : List Str × List Int × Int := if opn ms ≠ 0 then ([], [], opn ms) else ((prs ms).map (·.nm), adrs (endAt ms 0) [] (prs ms), 0)

theorem szAt_mono {ps : List Pc} (h : GoodP ps) (o : Nat) : ∀ {i k : Nat}, i ≤ k → szAt (ps.take i) o ≤ szAt (ps.take k) o := by
  intro i k hik
  obtain ⟨d, rfl⟩ := Nat.exists_eq_add_of_le hik
  clear hik
  induction d with
  | zero => exact Int.le_refl _
  | succ d ih =>
    refine Int.le_trans ih ?_
    rw [← Nat.add_assoc]
    cases hx : ps[i + d]? with
    | none =>
      have hl := List.getElem?_eq_none_iff.1 hx
      rw [List.take_of_length_le hl, List.take_of_length_le (by omega)]
      exact Int.le_refl _
    | some p =>
      rw [szAt_take hx]
      have := h.sz p (List.mem_iff_getElem?.2 ⟨_, hx⟩)
      split <;> omega
theorem szAt_next {ps : List Pc} {i : Nat} {p : Pc} (hp : ps[i]? = some p) (h0 : 0 ≤ p.ov) : szAt (ps.take (i + 1)) p.ov.toNat = szAt (ps.take i) p.ov.toNat + p.sz := by
  rw [szAt_take hp, if_pos (by omega)]
theorem szAt_all {ps : List Pc} (h : GoodP ps) (i o : Nat) : szAt (ps.take i) o ≤ szAt ps o := by
  have := szAt_mono h o (i := i) (k := i + ps.length) (by omega)
  rwa [List.take_of_length_le (l := ps) (i := i + ps.length) (by omega)] at this

/-- The address of a procedure. -/
def adr (ps : List Pc) (i : Nat) (p : Pc) : Int := (if 0 < p.ov then szAt ps 0 else 0) + szAt (ps.take i) p.ov.toNat
/-- No procedure stands outside its place. -/
theorem adr_end {ps : List Pc} (h : GoodP ps) {i : Nat} {p : Pc} (hp : ps[i]? = some p) : 0 ≤ adr ps i p ∧ adr ps i p + p.sz ≤ (if 0 < p.ov then szAt ps 0 else 0) + szAt ps p.ov.toNat := by
  have h1 := h.ov p (List.mem_iff_getElem?.2 ⟨_, hp⟩)
  have h2 := szAt_next hp h1.1
  have h3 := szAt_all h (i + 1) p.ov.toNat
  have h4 := (h.adr hp).1
  unfold adr
  omega
theorem adr_root {ps : List Pc} (h : GoodP ps) {i : Nat} {p : Pc} (hp : ps[i]? = some p) (h0 : p.ov = 0) : adr ps i p + p.sz ≤ szAt ps 0 := by
  have := (adr_end h hp).2
  rw [h0] at this
  simpa using this
theorem adr_over {ps : List Pc} (h : GoodP ps) {i : Nat} {p : Pc} (hp : ps[i]? = some p) (h0 : p.ov ≠ 0) : szAt ps 0 ≤ adr ps i p := by
  have h1 := h.ov p (List.mem_iff_getElem?.2 ⟨_, hp⟩)
  have h2 := h.bound i p.ov.toNat
  unfold adr
  rw [if_pos (by omega)]
  omega
/-- Two that can be there at the same time stand apart. -/
theorem adr_apart {ps : List Pc} (h : GoodP ps) {i k : Nat} {p q : Pc} (hp : ps[i]? = some p) (hq : ps[k]? = some q) (hki : k < i) (ht : p.ov = q.ov ∨ p.ov = 0 ∨ q.ov = 0) :
    ¬ (adr ps i p < adr ps k q + q.sz ∧ adr ps k q < adr ps i p + p.sz) := by
  rintro ⟨h1, h2⟩
  by_cases e : p.ov = q.ov
  · have h3 := h.ov q (List.mem_iff_getElem?.2 ⟨_, hq⟩)
    have h4 := szAt_next hq h3.1
    have h5 := szAt_mono h q.ov.toNat (i := k + 1) (k := i) hki
    unfold adr at h1
    rw [e] at h1
    omega
  · by_cases e0 : p.ov = 0
    · have h3 := adr_root h hp e0
      have h4 := adr_over h hq (by omega)
      omega
    · have h0 : q.ov = 0 := by rcases ht with h | h | h <;> first | exact h | exact absurd h e | exact absurd h e0
      have h3 := adr_root h hq h0
      have h4 := adr_over h hp e0
      omega
end Go.Proofs.Ytchhjldopecliaa
namespace Go.Proofs.Ytchhjldopecliaa
open Go.RowKit

/-- What is reached from a procedure by calls. -/
inductive Rch (ps : List Pc) (x : Str) : Str → Prop
  | here : Rch ps x x
  | call {y z : Str} : Rch ps x y → z ∈ clOf ps y → Rch ps x z
/-- Names that hold all that they call. -/
def ClosedN (ps : List Pc) (S : List Str) : Prop := ∀ y ∈ S, ∀ z ∈ clOf ps y, z ∈ S
theorem Rch.sub {ps : List Pc} {x y : Str} {S : List Str} (h : Rch ps x y) (hx : x ∈ S) (hc : ClosedN ps S) : y ∈ S := by
  induction h with
  | here => exact hx
  | call _ hz ih => exact hc _ ih _ hz
theorem Rch.tr {ps : List Pc} {x y z : Str} (h : Rch ps x y) (k : Rch ps y z) : Rch ps x z := by
  induction k with
  | here => exact h
  | call _ hz ih => exact .call ih hz
theorem Rch.first {ps : List Pc} {x y z : Str} (h : y ∈ clOf ps x) (k : Rch ps y z) : Rch ps x z := Rch.tr (.call .here h) k

/-- Whatever is called is there. -/
def AllThere (ps : List Pc) : Prop := ∀ p ∈ ps, ∀ s ∈ p.cl, ∃ q, fnd s ps = some q
theorem clOf_fnd {ps : List Pc} {x : Str} {p : Pc} (h : fnd x ps = some p) : clOf ps x = p.cl := by simp [clOf, h]
theorem Rch.there {ps : List Pc} {x y : Str} (hT : AllThere ps) (h : Rch ps x y) {p : Pc} (hx : fnd x ps = some p) : ∃ q, fnd y ps = some q := by
  induction h with
  | here => exact ⟨_, hx⟩
  | call _ hz ih =>
    obtain ⟨q, hq⟩ := ih
    rw [clOf_fnd hq] at hz
    exact hT q (fnd_some hq).1 _ hz
theorem fnd_mem {ps : List Pc} {x : Str} {p : Pc} (h : fnd x ps = some p) : x ∈ ps.map (·.nm) := by
  obtain ⟨h1, h2⟩ := fnd_some h
  rw [← h2]
  exact List.mem_map_of_mem h1
theorem mem_fnd {ps : List Pc} {x : Str} (h : x ∈ ps.map (·.nm)) : ∃ p, fnd x ps = some p := by
  cases hf : fnd x ps with
  | some p => exact ⟨p, rfl⟩
  | none => exact absurd h (fnd_none.1 hf)

open Classical in
/-- Is a procedure reached from another? -/
noncomputable def rchB (ps : List Pc) (x y : Str) : Bool := decide (Rch ps x y)
theorem rchB_iff {ps : List Pc} {x y : Str} : rchB ps x y = true ↔ Rch ps x y := by
  unfold rchB
  exact @decide_eq_true_iff _ (Classical.propDecidable _)
/-- The names that are reached. -/
noncomputable def rchL (ps : List Pc) (x : Str) : List Str := (ps.map (·.nm)).filter (rchB ps x)
theorem mem_rchL {ps : List Pc} {x y : Str} : y ∈ rchL ps x ↔ y ∈ ps.map (·.nm) ∧ Rch ps x y := by
  unfold rchL
  rw [List.mem_filter, rchB_iff]

/-- What the search has found: before it, after it. -/
structure Found (ps : List Pc) (x : Str) (S S' : List Str) : Prop where
  old : ∀ y ∈ S, y ∈ S'
  here : x ∈ S'
  new : ∀ y ∈ S', y ∈ S ∨ Rch ps x y
  full : ∀ y ∈ S', y ∈ S ∨ ∀ z ∈ clOf ps y, z ∈ S'
  nodup : S'.Nodup
  there : ∀ y ∈ S', ∃ q, fnd y ps = some q
/-- A search that has begun with nothing has found just what is reached. -/
theorem Found.all {ps : List Pc} {x : Str} {S : List Str} (h : Found ps x [] S) (y : Str) : y ∈ S ↔ Rch ps x y := by
  refine ⟨fun hy => (h.new y hy).resolve_left (by simp), fun hy => hy.sub h.here fun y hy z hz => ?_⟩
  exact (h.full y hy).resolve_left (by simp) z hz
theorem Found.setS {ps : List Pc} {x : Str} {S : List Str} (h : Found ps x [] S) : setS S = setS (rchL ps x) := by
  refine setS_ext fun s => ?_
  rw [mem_rchL, h.all]
  refine ⟨fun hs => ⟨?_, hs⟩, fun hs => hs.2⟩
  obtain ⟨q, hq⟩ := h.there s ((h.all s).2 hs)
  exact fnd_mem hq

/-- What Reach tells. -/
noncomputable def rea (ms : List Md) (x : Str) : List Str × Int := if opf ms x ≠ 0 then ([], opf ms x) else (setS (rchL (prs ms) x), 0)

/-! ### trimming -/
/-- A module with some procedures alone. -/
def trimM (p : Str → Bool) (m : Md) : Md := ⟨m.nm, m.ov, ((prM m).filter (fun q => p q.nm)).map (·.nm), ((prM m).filter (fun q => p q.nm)).map (·.sz), ((prM m).filter (fun q => p q.nm)).map (·.cl)⟩
def trimL (p : Str → Bool) (ms : List Md) : List Md := (ms.map (trimM p)).filter (fun m => decide (0 < m.pr.length))
/-- What Trim tells. -/
noncomputable def trm (ms : List Md) (x : Str) : List Md × Int := if opf ms x ≠ 0 then ([], opf ms x) else (trimL (rchB (prs ms) x) ms, 0)
end Go.Proofs.Ytchhjldopecliaa
namespace Go.Proofs.Ytchhjldopecliaa
open Go.RowKit

def nx0 (root : Int) (k : Nat) : List Int := (List.range 16).map (fun o => if 0 < o ∧ o < k then root else 0)
def nxt (root : Int) (D : List Pc) : List Int := (List.range 16).map (fun o => (if 0 < o then root else 0) + szAt D o)
theorem nx0_get (root : Int) (k o : Nat) (h : o < 16) : (nx0 root k)[o]? = some (if 0 < o ∧ o < k then root else 0) := by simp [nx0, h]
theorem nxt_get (root : Int) (D : List Pc) (o : Nat) (h : o < 16) : (nxt root D)[o]? = some ((if 0 < o then root else 0) + szAt D o) := by simp [nxt, h]
theorem nx0_set (root : Int) (k : Nat) (h1 : 1 ≤ k) (h : k < 16) : (nx0 root k).set k root = nx0 root (k + 1) := by
  apply List.ext_getElem?
  intro i
  rw [List.getElem?_set]
  by_cases hi : i < 16
  · rw [nx0_get _ _ _ hi, nx0_get _ _ _ hi]
    by_cases e : k = i
    · subst e
      simp [nx0, h]
      omega
    · rw [if_neg e]
      congr 1
      have : (0 < i ∧ i < k) ↔ (0 < i ∧ i < k + 1) := by omega
      simp only [this]
  · have e1 : ∀ k, (nx0 root k)[i]? = none := fun k => List.getElem?_eq_none (by simp [nx0]; omega)
    rw [e1, e1]
    simp [nx0]
    omega
theorem nx0_start (root : Int) : nx0 root 1 = List.replicate 16 0 := by
  apply List.ext_getElem?
  intro i
  by_cases hi : i < 16
  · rw [nx0_get _ _ _ hi, if_neg (by omega), List.getElem?_replicate, if_pos hi]
  · rw [List.getElem?_eq_none (by simp [nx0]; omega), List.getElem?_eq_none (by simp; omega)]
theorem nx0_end (root : Int) : nx0 root 16 = nxt root [] := by
  apply List.ext_getElem?
  intro i
  by_cases hi : i < 16
  · rw [nx0_get _ _ _ hi, nxt_get _ _ _ hi]
    have : (0 < i ∧ i < 16) ↔ 0 < i := by omega
    simp [this, szAt]
  · rw [List.getElem?_eq_none (by simp [nx0]; omega), List.getElem?_eq_none (by simp [nxt]; omega)]
theorem nxt_snoc (root : Int) (D : List Pc) (p : Pc) (o : Nat) (ho : p.ov = o) (h : o < 16) : (nxt root D).set o ((if 0 < o then root else 0) + szAt D o + p.sz) = nxt root (D ++ [p]) := by
  apply List.ext_getElem?
  intro i
  rw [List.getElem?_set]
  by_cases hi : i < 16
  · rw [nxt_get _ _ _ hi, nxt_get _ _ _ hi, szAt_app]
    by_cases e : o = i
    · subst e
      simp [nxt, h, szAt, ho]
      omega
    · have hne : ¬ p.ov = (i : Int) := by rw [ho]; omega
      simp [e, szAt, hne]
  · have e1 : ∀ D, (nxt root D)[i]? = none := fun k => List.getElem?_eq_none (by simp [nxt]; omega)
    rw [e1, e1]
    simp [nxt]
    omega
theorem szAt_bound {D : List Pc} (h : ∀ p ∈ D, 0 ≤ p.sz ∧ p.sz ≤ 10000) (o : Nat) : 0 ≤ szAt D o ∧ szAt D o ≤ D.length * 10000 := by
  have h1 : ∀ x ∈ (D.filter (fun p => decide (p.ov = (o : Int)))).map (fun p => p.sz), 0 ≤ x ∧ x ≤ 10000 := by
    intro x hx
    obtain ⟨p, hp, rfl⟩ := List.mem_map.1 hx
    exact h p (List.mem_filter.1 hp).1
  have h2 := sum_bound h1
  have h3 : ((D.filter (fun p => decide (p.ov = (o : Int)))).map (fun p => p.sz)).length ≤ D.length := by
    rw [List.length_map]
    exact List.length_filter_le ..
  unfold szAt
  omega
theorem pcOf_at {m : Md} {j : Nat} {x : Str} {z : Int} (h1 : m.pr[j]? = some x) (h2 : m.sz[j]? = some z) : (pcOf m j).nm = x ∧ (pcOf m j).sz = z ∧ (pcOf m j).ov = m.ov := by
  unfold pcOf
  rw [getD_some h1, getD_some h2]
  exact ⟨rfl, rfl, rfl⟩

theorem indexAt77 (r jo : Nat) (h : jo < 16) (W : World) : (Instr.indexAt 77 (.pointer (some ⟨r, 0, none⟩)) (.int .i64 jo)).run Try.prog W = .ok (.pointer (some ⟨r, jo, none⟩)) W := by
  have e1 : Try.prog.arrayLen 77 = 16 := by kernel_rfl
  have e2 : Try.prog.underlying 77 = some (.array (Try.prog.arrayLen 77) (Try.prog.elem 77)) := by kernel_rfl
  have e3 : (sizeOf (Try.prog.elem 77)).run Try.prog W = .ok 1 W := by kernel_rfl
  rw [run_indexAt_array W 77 _ _ _ e2, e1, if_pos (by omega), e3]
  simp [Result.andThen, addr_addq]

/-- What Link's inner round keeps. -/
structure LkG (w0 W : World) (p r : Nat) (nx : List Int) (nm : Str) (jo : Int) (s1 s2 s3 v10 v11 : Value) (ns : List Str) (as_ : List Int) : Prop where
  o10 : W.ownsRow (r + 1) 9 1 v10 ns.length (ns.map Value.string)
  o11 : W.ownsRow (r + 1) 3 1 v11 as_.length (as_.map (Value.int .i64))
  arr : Arr W r nx
  mdb : MdB W p nm jo s1 s2 s3
  ap : Apart v10 v11
  n10 : v10.ownBlock ≠ some p
  n11 : v11.ownBlock ≠ some p
  pr : r < p
  bel : Below w0.heap.size w0 W
  lo : w0.heap.size ≤ r
section
variable {w0 W wa : World} {p r : Nat} {nx : List Int} {nm : Str} {jo : Int} {s1 s2 s3 v10 v11 v' : Value} {ns : List Str} {as_ : List Int}
theorem LkG.alloc (h : LkG w0 W p r nx nm jo s1 s2 s3 v10 v11 ns as_) (o : Obj) : LkG w0 (W.alloc o) p r nx nm jo s1 s2 s3 v10 v11 ns as_ :=
  ⟨h.o10.alloc o, h.o11.alloc o, (Below.heap_alloc _ _ _ h.arr.lt).trans h.arr, (Below.heap_alloc _ _ _ h.mdb.lt).trans h.mdb, h.ap, h.n10, h.n11, h.pr, bel_alloc2 h.bel o, h.lo⟩
theorem LkG.drew (h : LkG w0 W p r nx nm jo s1 s2 s3 v10 v11 ns as_) : LkG w0 W.drew p r nx nm jo s1 s2 s3 v10 v11 ns as_ :=
  ⟨h.o10, h.o11, h.arr, h.mdb, h.ap, h.n10, h.n11, h.pr, ⟨h.bel.os, h.bel.tape, h.bel.output, h.bel.size, h.bel.block⟩, h.lo⟩
theorem LkG.app1 (h : LkG w0 W p r nx nm jo s1 s2 s3 v10 v11 ns as_) {x : Str} (ho : wa.ownsRow (r + 1) 9 1 v' (ns.length + 1) (ns.map Value.string ++ [.string x])) (hg : W.grownBy wa v10.ownBlock) (hat : v'.ownBlock = v10.ownBlock ∨ v'.ownBlock = some W.heap.size) :
    LkG w0 wa p r nx nm jo s1 s2 s3 v' v11 (ns ++ [x]) as_ := by
  refine ⟨by simpa using ho, own_other h.o11 hg h.ap.symm, (hg.block r h.arr.lt (fun e => Nat.not_succ_le_self _ (h.o10.lt r e.symm).1)).trans h.arr, (hg.block p h.mdb.lt (fun e => h.n10 e.symm)).trans h.mdb, h.ap.step (fun B e => (h.o11.lt B e).2) (Nat.le_refl _) hat, ?_, h.n11, h.pr, h.bel.grown hg h.bel.size (fun q hq => by have := (h.o10.lt q hq).1; have := h.lo; omega), h.lo⟩
  rcases hat with e | e
  · rw [e]; exact h.n10
  · rw [e]; intro e2; injection e2 with e2; have := h.mdb.lt; omega
theorem LkG.app2 (h : LkG w0 W p r nx nm jo s1 s2 s3 v10 v11 ns as_) {x : Int} (ho : wa.ownsRow (r + 1) 3 1 v' (as_.length + 1) (as_.map (Value.int .i64) ++ [.int .i64 x])) (hg : W.grownBy wa v11.ownBlock) (hat : v'.ownBlock = v11.ownBlock ∨ v'.ownBlock = some W.heap.size) :
    LkG w0 wa p r nx nm jo s1 s2 s3 v10 v' ns (as_ ++ [x]) := by
  refine ⟨own_other h.o10 hg h.ap, by simpa using ho, (hg.block r h.arr.lt (fun e => Nat.not_succ_le_self _ (h.o11.lt r e.symm).1)).trans h.arr, (hg.block p h.mdb.lt (fun e => h.n11 e.symm)).trans h.mdb, (Apart.step (L := W.heap.size) h.ap.symm (fun B e => (h.o10.lt B e).2) (Nat.le_refl _) hat).symm, h.n10, ?_, h.pr, h.bel.grown hg h.bel.size (fun q hq => by have := (h.o11.lt q hq).1; have := h.lo; omega), h.lo⟩
  rcases hat with e | e
  · rw [e]; exact h.n11
  · rw [e]; intro e2; injection e2 with e2; have := h.mdb.lt; omega
theorem LkG.store (h : LkG w0 W p r nx nm jo s1 s2 s3 v10 v11 ns as_) (j : Nat) (x : Int) : LkG w0 (W.setCell ⟨r, j, none⟩ (.int .i64 x)) p r (nx.set j x) nm jo s1 s2 s3 v10 v11 ns as_ := by
  obtain ⟨hs1, hs2⟩ := h.arr.set j x
  have e10 : v10.ownBlock ≠ some r := fun e => Nat.not_succ_le_self _ (h.o10.lt r e).1
  have e11 : v11.ownBlock ≠ some r := fun e => Nat.not_succ_le_self _ (h.o11.lt r e).1
  exact ⟨own_other h.o10 hs2 (.inr e10), own_other h.o11 hs2 (.inr e11), hs1, (hs2.block p h.mdb.lt (fun e => by injection e with e; have := h.pr; omega)).trans h.mdb, h.ap, h.n10, h.n11, h.pr, h.bel.grown hs2 h.bel.size (fun q hq => by injection hq with hq; have := h.lo; omega), h.lo⟩
theorem LkG.size (h : LkG w0 W p r nx nm jo s1 s2 s3 v10 v11 ns as_) : r + 1 ≤ W.heap.size := h.arr.lt
theorem LkG.s (h : LkG w0 W p r nx nm jo s1 s2 s3 v10 v11 ns as_) {j : Nat} {x : Int} (hx : nx[j]? = some x) : W.cell? ⟨p, 1, none⟩ = some (.int .i64 jo) ∧ W.cell? ⟨r, j, none⟩ = some (.int .i64 x) := ⟨h.mdb.cells.2.1, h.arr.cell hx⟩
end
theorem src_cell {W : World} {p : Nat} {x : Value} (h : W.cell? ⟨p, 0, none⟩ = some x) (h1 : x.oneCell' = true) : Src W (some ⟨p, 0, none⟩) 1 1 [x] := by
  refine ⟨rfl, fun _ => ⟨_, rfl, fun j u hu => ?_⟩, by simpa using h1⟩
  cases j with
  | zero =>
    have : x = u := by simpa using hu
    subst this
    exact h
  | succ j => simp at hu

set_option maxRecDepth 100000 in
theorem index77 (x0 x1 x2 x3 x4 x5 x6 x7 x8 x9 x10 x11 x12 x13 x14 x15 : Int) (W : World) : (Instr.index 77 (.agg #[.int .i64 x0, .int .i64 x1, .int .i64 x2, .int .i64 x3, .int .i64 x4, .int .i64 x5, .int .i64 x6, .int .i64 x7, .int .i64 x8, .int .i64 x9, .int .i64 x10, .int .i64 x11, .int .i64 x12, .int .i64 x13, .int .i64 x14, .int .i64 x15]) (.int .i64 0)).run Try.prog W = .ok (.int .i64 x0) W := by kernel_rfl

set_option maxRecDepth 100000 in
set_option maxHeartbeats 8000000 in
theorem c_Link (A : Option Addr) (n c : Nat) (ms : List Md) (w : World) (h : SlR w 5 RMd A n c ms) :
    Calls Try.prog 26 #[.slice A n c] w fun e w' => ∃ A1 c1 A2 c2, e = .returned (.tuple #[.slice A1 (lnk ms).1.length c1, .slice A2 (lnk ms).2.1.length c2, .int .i64 (lnk ms).2.2]) ∧
      SlR w' 1 RStr A1 (lnk ms).1.length c1 (lnk ms).1 ∧ SlR w' 1 RInt A2 (lnk ms).2.1.length c2 (lnk ms).2.1 ∧ Below w.heap.size w w' := by
  have hlim := h.lim
  have H := Box.mk h
  clear h
  go_enter Try.func26, Try.ntmps26
  go_wp2_with fail
  refine (c_open A n c ms w H.out).mono ?_
  rintro e w1 ⟨⟨v, rfl, hv⟩, hb1⟩
  have HB1 := Box.mk hb1
  clear hb1
  generalize ho : opn ms = V at *
  by_cases h0 : V = 0
  · subst h0
    obtain ⟨hg, b, rfl, _, _⟩ := hv rfl
    have HG := Box.mk hg
    have HO : Box (lnk ms = ((prs ms).map (·.nm), adrs (endAt ms 0) [] (prs ms), 0)) := ⟨by simp [lnk, ho]⟩
    have C := Box.mk (c_ends A n c ms w1 (H.out.below mono_md HB1.out) HG.out)
    have hE : (endsL ms)[0]? = some (endAt ms 0) := by simp [endsL]
    have hRB := HG.out.endAt_bound ms.length 0
    rw [List.take_length] at hRB
    clear hv hg ho
    have hl := endsL_length ms
    generalize hq : endsL ms = Q at *
    clear hq
    match Q, hl, C, hE with
    | [x0, x1, x2, x3, x4, x5, x6, x7, x8, x9, x10, x11, x12, x13, x14, x15], _, C, hE =>
      obtain rfl : x0 = endAt ms 0 := by simpa using hE
      clear hE
      generalize endAt ms 0 = x0 at *
      go_wp2_with fail
      refine C.out.mono ?_
      rintro e w2 ⟨rfl, hb2⟩
      have HB2 := Box.mk (below_tr HB1.out HB1.out.size hb2)
      clear hb2 C
      simp only [List.map_cons, List.map_nil]
      have hix := index77 x0 x1 x2 x3 x4 x5 x6 x7 x8 x9 x10 x11 x12 x13 x14 x15
      go_wp2_with fail
      clear hix
      have HB3 : Box (Below w.heap.size w (w2.alloc (.cells (Array.replicate 16 (.int .i64 0)) 77))) := ⟨bel_alloc2 HB2.out _⟩
      have HA3 : Box (Arr (w2.alloc (.cells (Array.replicate 16 (.int .i64 0)) 77)) w2.heap.size (nx0 x0 1)) := ⟨by
        rw [nx0_start]
        exact heap_alloc_new w2 _⟩
      have hsz3 : Box (w2.heap.size + 1 = (w2.alloc (.cells (Array.replicate 16 (.int .i64 0)) 77)).heap.size) := ⟨by simp⟩
      have hlow : Box (w.heap.size ≤ w2.heap.size) := ⟨HB2.out.size⟩
      go_loopw [9] (fun i wr => ∃ k : Nat, 1 ≤ k ∧ k ≤ 16 ∧ i = .int .i64 k ∧ Box (Below w.heap.size w wr) ∧ Box (Arr wr w2.heap.size (nx0 x0 k))) (fun i _ => 16 - (intOf i).toNat)
      case atStart => exact ⟨1, Nat.le_refl _, by decide, rfl, HB3, HA3⟩
      case round =>
        obtain ⟨k, hk1, hk, rfl, HB, HA⟩ := hrel
        clear HB3 HA3 hsz3
        by_cases hlt : k < 16
        · have hxj := nx0_get x0 k k hlt
          have dj := HA.out.cell hxj
          have fj := HA.out.frozen k
          clear hxj
          go_wp2_with fail
          obtain ⟨hs1, hs2⟩ := HA.out.set k x0
          rw [nx0_set x0 k hk1 hlt] at hs1
          go_roundw
          case rel => exact ⟨k + 1, by omega, by omega, by go_num, ⟨HB.out.grown hs2 HB.out.size (fun q hq => by injection hq with hq; have := hlow.out; omega)⟩, ⟨hs1⟩⟩
          case measure => simp [intOf]; omega
        · obtain rfl : k = 16 := by omega
          rw [nx0_end] at HA
          rw [show ((16 : Nat) : Int) = 16 from rfl]
          have hp8 : Box (w2.heap.size < wr.heap.size) := ⟨HA.out.lt⟩
          go_wp2_with fail
          clear HB2
          have HPL := Box.mk HG.out.plen
          have HMD := Box.mk (fun (k : Nat) (m : Md) (h : ms[k]? = some m) => And.intro (HG.out.md (List.mem_iff_getElem?.2 ⟨k, h⟩)) (HG.out.fit (List.mem_iff_getElem?.2 ⟨k, h⟩)))
          have HBD := Box.mk (fun k o => HG.out.ps.bound k o)
          go_loopw [10, 11, 13, 14, 15, 36] (fun v10 v11 _ _ _ i wx => ∃ k : Nat, k ≤ n ∧ i = .int .i64 k ∧ Box (Below w.heap.size w wx) ∧ Box (Arr wx w2.heap.size (nxt x0 (prs (ms.take k)))) ∧
            Box (wx.ownsRow (w2.heap.size + 1) 9 1 v10 ((prs (ms.take k)).map (·.nm)).length (((prs (ms.take k)).map (·.nm)).map Value.string)) ∧ Box (wx.ownsRow (w2.heap.size + 1) 3 1 v11 (adrs x0 [] (prs (ms.take k))).length ((adrs x0 [] (prs (ms.take k))).map (Value.int .i64))) ∧ Box (Apart v10 v11)) (fun _ _ _ _ _ i _ => n - (intOf i).toNat)
          case atStart => exact ⟨0, Nat.zero_le _, rfl, HB, HA, ⟨World.ownsRow_nil _ _ _ _⟩, ⟨World.ownsRow_nil _ _ _ _⟩, ⟨.inl rfl⟩⟩
          case round =>
            clear HB HA hp8
            obtain ⟨k, hk, rfl, HB, HA, H10, H11, HAP⟩ := hrel
            have hp8 : Box (w2.heap.size < wr.heap.size) := ⟨HA.out.lt⟩
            by_cases hlt : k < n
            · obtain ⟨b, off, m, A1, n1, c1, A2, n2, c2, A3, n3, c3, rfl, hb, hm, hM, h0, h1, h2, h3, h4⟩ := H.out.md_at k hlt
              replace h0 := cellk HB.out hb h0
              replace h1 := cellk HB.out hb h1
              replace h2 := cellk HB.out hb h2
              replace h3 := cellk HB.out hb h3
              replace h4 := cellk HB.out hb h4
              obtain ⟨⟨g1, g2, g3, g4⟩, hf1, hf2⟩ := HMD.out k m hm
              rw [hM.sz.len, hM.pr.len] at hf1
              subst hf1
              have hl1 := hM.pr.lim
              obtain ⟨jo, hj⟩ : ∃ j : Nat, m.ov = j := ⟨m.ov.toNat, by omega⟩
              have hj16 : jo < 16 := by omega
              rw [hj] at h1
              have HM := Box.mk hM
              have HX := Box.mk hm
              have HJ := Box.mk hj
              have HS3 := Box.mk g3
              have HT : Box (prs (ms.take (k + 1)) = prs (ms.take k) ++ prM m) := ⟨prs_take hm⟩
              clear hM hm hj g1 g2 g3 g4 hf2
              go_wp2_with fail
              have HBW : Box (Below w.heap.size w (wr.alloc (.cells #[.string m.nm, .int .i64 jo, .slice A1 n2 c1, .slice A2 n2 c2, .slice A3 n3 c3] 33))) := ⟨bel_alloc2 HB.out _⟩
              have HAW : Box (Arr (wr.alloc (.cells #[.string m.nm, .int .i64 jo, .slice A1 n2 c1, .slice A2 n2 c2, .slice A3 n3 c3] 33)) w2.heap.size (nxt x0 (prs (ms.take k)))) := ⟨(Below.heap_alloc _ _ _ HA.out.lt).trans HA.out⟩
              have H10W := Box.mk (H10.out.alloc (.cells #[.string m.nm, .int .i64 jo, .slice A1 n2 c1, .slice A2 n2 c2, .slice A3 n3 c3] 33))
              have H11W := Box.mk (H11.out.alloc (.cells #[.string m.nm, .int .i64 jo, .slice A1 n2 c1, .slice A2 n2 c2, .slice A3 n3 c3] 33))
              have HMW : Box (MdB (wr.alloc (.cells #[.string m.nm, .int .i64 jo, .slice A1 n2 c1, .slice A2 n2 c2, .slice A3 n3 c3] 33)) wr.heap.size m.nm jo (.slice A1 n2 c1) (.slice A2 n2 c2) (.slice A3 n3 c3)) := ⟨MdB.new _ _ _ _ _ _⟩
              have N10 : Box (u10.ownBlock ≠ some wr.heap.size ∧ u11.ownBlock ≠ some wr.heap.size) := ⟨⟨fun e => by have := (H10.out.lt _ e).2; omega, fun e => by have := (H11.out.lt _ e).2; omega⟩⟩
              have hpr : Box (w2.heap.size < wr.heap.size ∧ w.heap.size ≤ w2.heap.size) := ⟨hp8.out, hlow.out⟩
              have HLEN : Box ((prs (ms.take k)).length + n2 ≤ 100) := ⟨by
                have e1 := sumL_mono ms (k + 1)
                rw [sumL_take HX.out, HM.out.pr.len] at e1
                have := HG.out.total
                rw [prs_length]
                omega⟩
              generalize hp13 : wr.heap.size = p13 at *
              clear hp13
              generalize (wr.alloc (.cells #[.string m.nm, .int .i64 jo, .slice A1 n2 c1, .slice A2 n2 c2, .slice A3 n3 c3] 33)) = W3 at *
              clear HB HA H10 H11 h0 h1 h2 h3 h4 hp8
              go_loopw [10, 11, 14, 15, 43] (fun v10 v11 _ _ i wx => ∃ j : Nat, j ≤ n2 ∧ i = .int .i64 j ∧ Box (Below w.heap.size w wx) ∧ Box (Arr wx w2.heap.size (nxt x0 (prs (ms.take k) ++ (prM m).take j))) ∧ Box (MdB wx p13 m.nm jo (.slice A1 n2 c1) (.slice A2 n2 c2) (.slice A3 n3 c3)) ∧
                Box (wx.ownsRow (w2.heap.size + 1) 9 1 v10 ((prs (ms.take k) ++ (prM m).take j).map (·.nm)).length (((prs (ms.take k) ++ (prM m).take j).map (·.nm)).map Value.string)) ∧ Box (wx.ownsRow (w2.heap.size + 1) 3 1 v11 (adrs x0 [] (prs (ms.take k) ++ (prM m).take j)).length ((adrs x0 [] (prs (ms.take k) ++ (prM m).take j)).map (Value.int .i64))) ∧ Box (Apart v10 v11) ∧ Box (v10.ownBlock ≠ some p13 ∧ v11.ownBlock ≠ some p13)) (fun _ _ _ _ i _ => n2 - (intOf i).toNat)
              case atStart => exact ⟨0, Nat.zero_le _, rfl, HBW, by simpa using HAW, HMW, by simpa using H10W, by simpa using H11W, HAP, N10⟩
              case round =>
                clear HBW HAW HMW H10W H11W HAP N10
                obtain ⟨j, hj, rfl, HB, HA, HMB, H10, H11, HAP, N10⟩ := hrel
                by_cases hjl : j < n2
                · obtain ⟨b5, o5, x, rfl, hb5, hx5, hs5, hc5⟩ := HM.out.pr.str_at j hjl
                  obtain ⟨b6, o6, z, rfl, hb6, hx6, hc6⟩ := HM.out.sz.int_at j hjl
                  replace hc5 := cellk HB.out hb5 hc5
                  have HC6 := Box.mk hc6
                  replace hc6 := cellk HB.out hb6 hc6
                  have hz := HS3.out z (List.mem_iff_getElem?.2 ⟨j, hx6⟩)
                  obtain ⟨e1, e2, e3⟩ := pcOf_at hx5 hx6
                  rw [HJ.out] at e3
                  have HPC := Box.mk (And.intro e1 (And.intro e2 e3))
                  have hjm : j < m.pr.length := by rw [HM.out.pr.len]; exact hjl
                  have HT2 : Box (prs (ms.take k) ++ (prM m).take (j + 1) = (prs (ms.take k) ++ (prM m).take j) ++ [pcOf m j]) := ⟨by rw [prM_take m j hjm, List.append_assoc]⟩
                  have hDl : (prs (ms.take k) ++ (prM m).take j).length ≤ 99 := by
                    have := HLEN.out
                    rw [List.length_append, List.length_take, prM_length]
                    omega
                  have HSZ : Box (∀ p ∈ prs (ms.take k) ++ (prM m).take j, 0 ≤ p.sz ∧ p.sz ≤ 10000) := ⟨fun p hp => by
                    have : p ∈ prs ms := by
                      rcases List.mem_append.1 hp with hp | hp
                      · obtain ⟨m', hm', hp'⟩ := List.mem_flatMap.1 hp
                        exact List.mem_flatMap.2 ⟨m', List.mem_of_mem_take hm', hp'⟩
                      · exact List.mem_flatMap.2 ⟨m, List.mem_iff_getElem?.2 ⟨k, HX.out⟩, List.mem_of_mem_take hp⟩
                    have := HG.out.ps.sz p this
                    omega⟩
                  generalize prs (ms.take k) ++ (prM m).take j = D at *
                  obtain ⟨xE, hxE⟩ : ∃ E, (if 0 < jo then x0 else 0) + szAt D jo = E := ⟨_, rfl⟩
                  have hEb : 0 ≤ xE ∧ xE ≤ 100000000 := by
                    have := szAt_bound HSZ.out jo
                    rw [← hxE]
                    split <;> omega
                  have hgE := nxt_get x0 D jo hj16
                  rw [hxE] at hgE
                  have HADR : Box (adrs x0 [] (D ++ [pcOf m j]) = adrs x0 [] D ++ [xE]) := ⟨by
                    rw [adrs_snoc, HPC.out.2.2, ← hxE]
                    simp⟩
                  have HNM : Box ((D ++ [pcOf m j]).map (·.nm) = D.map (·.nm) ++ [x]) := ⟨by rw [List.map_append]; simp [HPC.out.1]⟩
                  have HNXT : Box ((nxt x0 D).set jo (xE + z) = nxt x0 (D ++ [pcOf m j])) := ⟨by
                    rw [← nxt_snoc x0 D (pcOf m j) jo HPC.out.2.2 hj16, hxE, HPC.out.2.1]⟩
                  have HGE := Box.mk hgE
                  have HXE := Box.mk hxE
                  have G0 : Box (LkG w wr p13 w2.heap.size (nxt x0 D) m.nm jo (.slice (some ⟨b5, o5, none⟩) n2 c1) (.slice (some ⟨b6, o6, none⟩) n2 c2) (.slice A3 n3 c3) u10 u11 (D.map (·.nm)) (adrs x0 [] D)) := ⟨⟨H10.out, H11.out, HA.out, HMB.out, HAP.out, N10.out.1, N10.out.2, hpr.out.1, HB.out, hpr.out.2⟩⟩
                  have GA := Box.mk (G0.out.alloc (.cells #[.string x] 9)).drew
                  have GB := Box.mk (G0.out.alloc (.cells #[.int .i64 xE] 3)).drew
                  have GAB := Box.mk ((G0.out.alloc (.cells #[.string x] 9)).alloc (.cells #[.int .i64 xE] 3)).drew
                  have GBA := Box.mk ((G0.out.alloc (.cells #[.int .i64 xE] 3)).alloc (.cells #[.string x] 9)).drew
                  have CA : Box ((wr.alloc (.cells #[.string x] 9)).drew.cell? ⟨wr.heap.size, 0, none⟩ = some (.string x)) := ⟨by simp⟩
                  have CAB : Box (((wr.alloc (.cells #[.string x] 9)).alloc (.cells #[.int .i64 xE] 3)).drew.cell? ⟨wr.heap.size, 0, none⟩ = some (.string x)) := ⟨cell_al _ CA.out⟩
                  have EB : Box ((wr.alloc (.cells #[.int .i64 xE] 3)).drew.cell? ⟨wr.heap.size, 0, none⟩ = some (.int .i64 xE)) := ⟨by simp⟩
                  have EBA : Box (((wr.alloc (.cells #[.int .i64 xE] 3)).alloc (.cells #[.string x] 9)).drew.cell? ⟨wr.heap.size, 0, none⟩ = some (.int .i64 xE)) := ⟨cell_al _ EB.out⟩
                  have EAB : Box (((wr.alloc (.cells #[.string x] 9)).alloc (.cells #[.int .i64 xE] 3)).drew.cell? ⟨wr.heap.size + 1, 0, none⟩ = some (.int .i64 xE)) := ⟨by simp⟩
                  have CBA : Box (((wr.alloc (.cells #[.int .i64 xE] 3)).alloc (.cells #[.string x] 9)).drew.cell? ⟨wr.heap.size + 1, 0, none⟩ = some (.string x)) := ⟨by simp⟩
                  have NW : Box (∀ q, wr.heap.size ≤ q → some q ≠ u10.ownBlock) := ⟨fun q hq e => by have := (H10.out.lt q e.symm).2; omega⟩
                  obtain ⟨q0, q1, q2, q3, q4, _⟩ := HMB.out.cells
                  clear hgE hxE hx5 hx6 e1 e2 e3 hjm
                  go_upto_region 18 with fail
                  clear q0 q1 q2 q3 q4
                  have HLA : Box (((D.map (·.nm)).length + 1) * 16 ≤ 140737488355328) := ⟨by rw [List.length_map]; omega⟩
                  have HLB : Box (((adrs x0 [] D).length + 1) * 8 ≤ 140737488355328) := ⟨by rw [adrs_length]; omega⟩
                  have hia := indexAt77 w2.heap.size jo hj16
                  go_region_held3 (fun W : World => W.cell? ⟨p13, 1, none⟩ = some (.int .i64 jo) ∧ W.cell? ⟨w2.heap.size, jo, none⟩ = some (.int .i64 xE))
                    (with_reducible first | exact G0.out.drew.s HGE.out | exact GA.out.s HGE.out | exact GB.out.s HGE.out | exact GAB.out.s HGE.out | exact GBA.out.s HGE.out | exact G3.out.s HGE.out | exact (G3.out.alloc _).s HGE.out | exact G4.out.s HGE.out)
                    (first
                      | (refine step_app (o := ⟨some 51, _, _, _, _, _⟩) _ (w2.heap.size + 1) rfl _ _ 23 9 rfl (.string ByteArray.empty) 1 16 Try.underlying23 info_str rfl (by decide) (by decide) u10 _ _ rfl (by with_reducible first | exact GA.out.o10 | exact GAB.out.o10 | exact GBA.out.o10) (some ⟨_, 0, none⟩) 1 1 [.string x] rfl (by with_reducible first | exact src_cell CA.out rfl | exact src_cell CAB.out rfl | exact src_cell CBA.out rfl) HLA.out (by with_reducible first | exact GA.out.size | exact GAB.out.size | exact GBA.out.size) ?_; intro v3' wa ho3 hg3' hat3; have G3 := Box.mk (by with_reducible first | exact GA.out.app1 ho3 hg3' hat3 | exact GAB.out.app1 ho3 hg3' hat3 | exact GBA.out.app1 ho3 hg3' hat3 : LkG w wa p13 w2.heap.size (nxt x0 D) m.nm jo (.slice (some ⟨b5, o5, none⟩) n2 c1) (.slice (some ⟨b6, o6, none⟩) n2 c2) (.slice A3 n3 c3) v3' u11 (D.map (·.nm) ++ [x]) (adrs x0 [] D)); have HG3 := Box.mk hg3'; clear ho3 hg3' hat3)
                      | (refine step_app (o := ⟨some 58, _, _, _, _, _⟩) _ (w2.heap.size + 1) rfl _ _ 30 3 rfl (.int .i64 0) 1 8 Try.underlying30 info_int rfl (by decide) (by decide) u11 _ _ rfl (by with_reducible first | exact (G3.out.alloc _).o11 | exact G3.out.o11) (some ⟨_, 0, none⟩) 1 1 [.int .i64 xE] rfl (by with_reducible first | exact src_one _ _ _ rfl | exact src_cell (HG3.out.cell EAB.out (NW.out _ (Nat.le_succ _))) rfl | exact src_cell (HG3.out.cell EBA.out (NW.out _ (Nat.le_refl _))) rfl) HLB.out (by with_reducible first | exact (G3.out.alloc _).size | exact G3.out.size) ?_; intro v4' wb ho4 hg4' hat4; have G4 := Box.mk (by with_reducible first | exact (G3.out.alloc _).app2 ho4 hg4' hat4 | exact G3.out.app2 ho4 hg4' hat4 : LkG w wb p13 w2.heap.size (nxt x0 D) m.nm jo (.slice (some ⟨b5, o5, none⟩) n2 c1) (.slice (some ⟨b6, o6, none⟩) n2 c2) (.slice A3 n3 c3) v3' v4' (D.map (·.nm) ++ [x]) (adrs x0 [] D ++ [xE])); have HG4 := Box.mk hg4'; clear ho4 hg4' hat4))
                  all_goals
                    clear hia HLA HLB G0 GA GB GAB GBA CA CAB EB EBA EAB CBA NW HG3 HG4 G3 hc5 hc6
                    have hc6 := cellk G4.out.bel hb6 HC6.out
                    obtain ⟨q0, q1, q2, q3, q4, _⟩ := G4.out.mdb.cells
                    have dj := G4.out.arr.cell HGE.out
                    have fj := G4.out.arr.frozen jo
                    have hwr : IntKind.i64.wrap (xE + z) = xE + z := wrap_i64 (by omega) (by omega)
                    clear q0 q2 q4
                    go_upto_region 19 with fail
                    go_region
                    all_goals
                      have G5 := Box.mk (G4.out.store jo (xE + z)).drew
                      rw [HNXT.out] at G5
                      clear q1 q3 dj fj hwr hc6 G4
                      generalize (wb.setCell ⟨w2.heap.size, jo, none⟩ (.int .i64 (xE + z))).drew = W5 at *
                      go_wp2_with fail
                      refine ⟨⟨j + 1, by omega, by go_num, ⟨G5.out.bel⟩, ⟨by rw [HT2.out]; exact G5.out.arr⟩, ⟨G5.out.mdb⟩, ⟨by rw [HT2.out, HNM.out]; exact G5.out.o10⟩, ⟨by rw [HT2.out, HADR.out]; exact G5.out.o11⟩, ⟨G5.out.ap⟩, ⟨G5.out.n10, G5.out.n11⟩⟩, ?_⟩
                      simp [intOf] <;> omega
                · obtain rfl : j = n2 := by omega
                  have e : (prM m).take j = prM m := List.take_of_length_le (by rw [prM_length, HM.out.pr.len]; exact Nat.le_refl _)
                  rw [e, ← HT.out] at HA H10 H11
                  go_wp2_with fail
                  go_roundw
                  case rel => exact ⟨k + 1, by omega, by go_num, HB, HA, H10, H11, HAP⟩
                  case measure => simp [intOf] <;> omega
            · obtain rfl : k = n := by omega
              have e : ms.take k = ms := List.take_of_length_le (by rw [H.out.len]; exact Nat.le_refl _)
              rw [e] at H10 H11
              have hszs : ∀ x ∈ (prs ms).map (·.nm), x.size ≤ LIM := by
                rw [prs_nm]
                exact (mds_sizes H.out).2
              have hpl := HPL.out
              obtain ⟨B10, c10, e10, S10⟩ := own_strs H10.out hszs (by rw [List.length_map, LIM_eq]; omega)
              obtain ⟨B11, c11, e11, S11⟩ := own_ints H11.out (by rw [adrs_length, LIM_eq]; omega)
              have HS10 := Box.mk S10
              have HS11 := Box.mk S11
              subst e10 e11
              clear H10 H11 S10 S11 hszs e HAP
              go_wp2_with fail
              go_ret3
              rw [HO.out]
              exact ⟨_, _, _, _, rfl, HS10.out, HS11.out, HB.out⟩
  · have HO : Box (lnk ms = ([], [], V)) := ⟨by simp [lnk, ho, h0]⟩
    have h0' : (V != 0) = true := by simpa using h0
    clear ho hv
    go_wp2_with fail
    go_ret3
    rw [HO.out]
    exact ⟨_, _, _, _, rfl, slr_nil _ _ _ _ _, slr_nil _ _ _ _ _, HB1.out⟩
end Go.Proofs.Ytchhjldopecliaa
namespace Go.Proofs.Ytchhjldopecliaa
open Go.RowKit

theorem opn_good {ms : List Md} (ho : opn ms = 0) : Good ms := by
  apply vld_good
  unfold opn at ho
  by_cases hz : vld ms = 0
  · exact hz
  · rw [if_pos hz] at ho; exact ho

set_option maxRecDepth 100000 in
set_option maxHeartbeats 8000000 in
theorem r_Link (A : Option Addr) (n c : Nat) (ms : List Md) (w : World) (h : SlR w 5 RMd A n c ms) :
    Calls Try.prog 27 #[.slice A n c] w fun e w' => ∃ A1 c1 A2 c2, e = .returned (.tuple #[.slice A1 (lnk ms).1.length c1, .slice A2 (lnk ms).2.1.length c2, .int .i64 (lnk ms).2.2]) ∧
      SlR w' 1 RStr A1 (lnk ms).1.length c1 (lnk ms).1 ∧ SlR w' 1 RInt A2 (lnk ms).2.1.length c2 (lnk ms).2.1 ∧ Below w.heap.size w w' := by
  have hlim := h.lim
  have H := Box.mk h
  clear h
  go_enter Try.func27, Try.ntmps27
  go_wp2_with fail
  refine (r_whole A n c ms w H.out).mono ?_
  rintro e w1 ⟨rfl, hb1⟩
  have HB1 := Box.mk hb1
  clear hb1
  generalize ho : opn ms = V at *
  by_cases h0 : V = 0
  · subst h0
    have HG := Box.mk (opn_good ho)
    have HO : Box (lnk ms = ((prs ms).map (·.nm), adrs (endAt ms 0) [] (prs ms), 0)) := ⟨by simp [lnk, ho]⟩
    have C := Box.mk (r_all A n c ms w1 (H.out.below mono_md HB1.out) HG.out)
    have HGP := Box.mk HG.out.ps
    have HS0 : Box (endAt ms 0 = szAt (prs ms) 0) := ⟨(szAt_prs 0 ms (fun m hm => (HG.out.fit hm).1)).symm⟩
    rw [HS0.out] at HO
    have hpl := HG.out.plen
    clear ho
    generalize prs ms = ps at *
    have CS : Box (∀ (W : World) (B : Option Addr) (cb : Nat), SlR W 4 RPc B ps.length cb ps → Calls Try.prog 58 #[.slice B ps.length cb] W fun e w' => e = .returned (.agg ((szsL ps).map (Value.int .i64)).toArray) ∧ Below W.heap.size W w') := ⟨fun W B cb hW =>
      r_sizes B _ cb ps W hW HGP.out⟩
    have hE : (szsL ps)[0]? = some (szAt ps 0) := by simp [szsL]
    have hRB := HGP.out.bound ps.length 0
    rw [List.take_length] at hRB
    have hl := szsL_length ps
    generalize hq : szsL ps = Q at *
    clear hq
    match Q, hl, CS, hE with
    | [x0, x1, x2, x3, x4, x5, x6, x7, x8, x9, x10, x11, x12, x13, x14, x15], _, CS, hE =>
      have hx0 : x0 = szAt ps 0 := by simpa using hE
      have HX0 := Box.mk hx0
      rw [← hx0] at hRB HO
      clear hE hx0
      simp only [List.map_cons, List.map_nil] at CS
      go_wp2_with fail
      refine C.out.mono ?_
      rintro e w2 ⟨B, cb, rfl, hp, hb2⟩
      have HB2 := Box.mk (below_tr HB1.out HB1.out.size hb2)
      obtain ⟨np, hnp⟩ : ∃ np, np = ps.length := ⟨_, rfl⟩
      rw [← hnp] at hp hpl CS ⊢
      have HP := Box.mk hp
      have HNP := Box.mk hnp
      have hlow : Box (w.heap.size ≤ w2.heap.size) := ⟨HB2.out.size⟩
      clear hp hb2 C hnp
      go_wp2_with fail
      go_loopw [7, 8, 9, 10, 11] (fun v7 v8 i _ _ wr => ∃ k : Nat, k ≤ np ∧ i = .int .i64 k ∧ Box (Below w2.heap.size w2 wr) ∧ Box (wr.ownsRow w2.heap.size 9 1 v7 ((ps.take k).map (·.nm)).length (((ps.take k).map (·.nm)).map Value.string)) ∧ Box (wr.ownsRow w2.heap.size 3 1 v8 (adrs x0 [] (ps.take k)).length ((adrs x0 [] (ps.take k)).map (Value.int .i64))) ∧ Box (Apart v7 v8)) (fun _ _ i _ _ _ => np - (intOf i).toNat)
      case atStart => exact ⟨0, Nat.zero_le _, rfl, ⟨Below.refl _ _⟩, ⟨World.ownsRow_nil _ _ _ _⟩, ⟨World.ownsRow_nil _ _ _ _⟩, ⟨.inl rfl⟩⟩
      case round =>
        obtain ⟨k, hk, rfl, HB, H7, H8, HAP⟩ := hrel
        by_cases hlt : k < np
        · obtain ⟨b, off, p, A1, n1, c1, rfl, hb, hx, hnm, hcl, h0, h1, h2, h3⟩ := HP.out.pc_at k hlt
          have HC := Box.mk (And.intro hb (And.intro h0 (And.intro h1 h2)))
          have HX := Box.mk hx
          have hov := HGP.out.ov p (List.mem_iff_getElem?.2 ⟨k, hx⟩)
          have HNM := Box.mk hnm
          replace h1 := cellk HB.out hb h1
          generalize ho : p.ov = o at *
          have HO' := Box.mk ho
          clear h0 h2 h3 hcl hx hnm ho hb
          go_upto_if 30 with fail
          go_cut [10] (fun t10 wx => t10 = .int .i64 (if 0 < o then x0 else 0) ∧ Box (Below wr.heap.size wr wx))
          case first =>
            by_cases h0 : 0 < o
            · go_wp2_with fail
              refine (CS.out wr _ cb (HP.out.below mono_pc HB.out)).mono ?_
              rintro e w3 ⟨rfl, hb3⟩
              have HB3 := Box.mk hb3
              clear hb3
              have hix := index77 x0 x1 x2 x3 x4 x5 x6 x7 x8 x9 x10 x11 x12 x13 x14 x15
              go_wp2_with fail
              go_meet
              exact ⟨vi (by rw [if_pos h0]), HB3⟩
            · go_wp2_with fail
              go_meet
              exact ⟨vi (by rw [if_neg (by omega)]), ⟨Below.refl _ _⟩⟩
          case rest =>
            obtain ⟨rfl, HBc⟩ := hcut
            have HB3 := Box.mk (below_tr HB.out HB.out.size HBc.out)
            have H7c := Box.mk (own_below H7.out HBc.out)
            have H8c := Box.mk (own_below H8.out HBc.out)
            clear HBc H7 H8 HB h1
            have HXE : Box (0 ≤ (if 0 < o then x0 else 0) ∧ (if 0 < o then x0 else 0) ≤ 1000000) := ⟨by split <;> omega⟩
            have HADR : Box (adrs x0 [] (ps.take (k + 1)) = adrs x0 [] (ps.take k) ++ [(if 0 < o then x0 else 0) + szAt (ps.take k) o.toNat]) := ⟨by rw [adrs_take HX.out, HO'.out]⟩
            have HNM2 : Box ((ps.take (k + 1)).map (·.nm) = (ps.take k).map (·.nm) ++ [p.nm]) := ⟨by rw [List.take_add_one, HX.out]; simp⟩
            have HLA : Box ((((ps.take k).map (·.nm)).length + 1) * 16 ≤ 140737488355328) := ⟨by rw [List.length_map, List.length_take]; omega⟩
            have HLB : Box (((adrs x0 [] (ps.take k)).length + 1) * 8 ≤ 140737488355328) := ⟨by rw [adrs_length, List.length_take]; omega⟩
            generalize (if 0 < o then x0 else 0) = E0 at *
            go_wp2_with fail
            go_loopw [10, 11] (fun t10 i wx => ∃ j : Nat, j ≤ k ∧ i = .int .i64 j ∧ t10 = .int .i64 (E0 + szAt (ps.take j) o.toNat) ∧ Box (Below wc.heap.size wc wx)) (fun _ i _ => k - (intOf i).toNat)
            case atStart => exact ⟨0, Nat.zero_le _, rfl, by simp [szAt], ⟨Below.refl _ _⟩⟩
            case round =>
              obtain ⟨j, hj, rfl, rfl, HBx⟩ := hrel
              have HB4 := Box.mk (below_tr HB3.out HB3.out.size HBx.out)
              by_cases hjl : j < k
              · obtain ⟨b2, off2, p2, A2, n2, c2, e2, hb2, hx2, hnm2, hcl2, g0, g1, g2, g3⟩ := HP.out.pc_at j (by omega)
                injection e2 with e2
                injection e2 with e2 e2'
                subst e2 e2'
                obtain ⟨hb, h0, h1, h2⟩ := HC.out
                replace h1 := cellk HB4.out hb h1
                replace g1 := cellk HB4.out hb2 g1
                replace g2 := cellk HB4.out hb2 g2
                have hbd := HGP.out.bound j o.toNat
                have hsz := HGP.out.sz p2 (List.mem_iff_getElem?.2 ⟨j, hx2⟩)
                have hxe := HXE.out
                have HT : Box (szAt (ps.take (j + 1)) o.toNat = szAt (ps.take j) o.toNat + (if p2.ov = o then p2.sz else 0)) := ⟨by
                  rw [szAt_take hx2]
                  have e : ((o.toNat : Nat) : Int) = o := by omega
                  rw [e]⟩
                clear h0 h2 g0 g3 hnm2 hcl2 hx2 hb
                generalize szAt (ps.take j) o.toNat = Z at *
                generalize p2.sz = z at *
                generalize p2.ov = o2 at *
                go_upto_region 16 with fail
                go_quiet (fail)
                have HBq : Box (Below wc.heap.size wc (wr.drewN nq)) := ⟨⟨HBx.out.os, HBx.out.tape, HBx.out.output, HBx.out.size, HBx.out.block⟩⟩
                by_cases ho2 : o2 = o
                · subst ho2
                  rw [if_pos rfl] at HT
                  go_wp2_with fail
                  go_roundw
                  case rel => exact ⟨j + 1, by omega, by go_num, vi (by rw [HT.out]; omega), HBq⟩
                  case measure => simp [intOf] <;> omega
                · rw [if_neg ho2] at HT
                  have hq : (o2 == o) = false := by simpa using ho2
                  go_wp2_with fail
                  go_roundw
                  case rel => exact ⟨j + 1, by omega, by go_num, vi (by rw [HT.out]; omega), HBq⟩
                  case measure => simp [intOf] <;> omega
              · obtain rfl : j = k := by omega
                obtain ⟨hb, h0, h1, h2⟩ := HC.out
                replace h0 := cellk HB4.out hb h0
                have H7d := Box.mk (own_below H7c.out HBx.out)
                have H8d := Box.mk (own_below H8c.out HBx.out)
                have HBS : Box (w2.heap.size ≤ wr.heap.size) := ⟨HB4.out.size⟩
                clear hb h1 h2 H7c H8c HBx HB3
                generalize E0 + szAt (ps.take j) o.toNat = xE at *
                go_wp2_with (first
                  | (at_builtin; refine wpL_app (o := ⟨some 64, _, _, _, _, _⟩) _ w2.heap.size rfl _ _ 23 9 rfl (.string ByteArray.empty) 1 16 Try.underlying23 info_str rfl (by decide) (by decide) u7 _ _ rfl (H7d.out.alloc _) (some ⟨_, 0, none⟩) 1 1 [.string p.nm] rfl (src_at _ _ _ _ (by simp) rfl) HLA.out (Nat.le_trans HBS.out (bel_alloc _ _).size) ?_; intro v7' wa ho7 hg7 hat7; have H8a := Box.mk (own_other (H8d.out.alloc _) hg7 HAP.out.symm); have HBa := Box.mk ((bel_alloc2 HB4.out _).grown hg7 (Nat.le_trans HBS.out (bel_alloc _ _).size) (fun q hq => (H7d.out.lt q hq).1)); have HO7 := Box.mk ho7; have HAPa := Box.mk (HAP.out.step (L := wr.heap.size) (fun B e => (H8d.out.lt B e).2) (Nat.le_of_lt (by simp)) hat7); clear ho7 hg7 hat7)
                  | (at_builtin; refine wpL_app (o := ⟨some 68, _, _, _, _, _⟩) _ w2.heap.size rfl _ _ 30 3 rfl (.int .i64 0) 1 8 Try.underlying30 info_int rfl (by decide) (by decide) u8 _ _ rfl (H8a.out.alloc _) (some ⟨_, 0, none⟩) 1 1 [.int .i64 xE] rfl (src_at _ _ _ _ (by simp) rfl) HLB.out (Nat.le_trans HBa.out.size (bel_alloc _ _).size) ?_; intro v8' wb ho8 hg8 hat8; have H7b := Box.mk (own_other (HO7.out.alloc _) hg8 HAPa.out); have HBb := Box.mk ((bel_alloc2 HBa.out _).grown hg8 (Nat.le_trans HBa.out.size (bel_alloc _ _).size) (fun q hq => (H8a.out.lt q hq).1)); have HO8 := Box.mk ho8; have HAPb := Box.mk (Apart.step (L := wa.heap.size) HAPa.out.symm (fun B e => (HO7.out.lt B e).2) (Nat.le_of_lt (by simp)) hat8).symm; clear ho8 hg8 hat8))
                go_roundw
                case rel => exact ⟨j + 1, by omega, by go_num, HBb, ⟨by rw [HNM2.out, List.map_append, List.length_append]; exact H7b.out⟩, ⟨by rw [HADR.out, List.map_append, List.length_append]; exact HO8.out⟩, HAPb⟩
                case measure => simp [intOf] <;> omega
        · obtain rfl : k = np := by omega
          have e : ps.take k = ps := List.take_of_length_le (by rw [← HNP.out]; exact Nat.le_refl _)
          rw [e] at H7 H8
          have hszs : ∀ x ∈ ps.map (·.nm), x.size ≤ LIM := by
            intro x hx
            obtain ⟨p, hp, rfl⟩ := List.mem_map.1 hx
            obtain ⟨i, hi⟩ := List.mem_iff_getElem?.1 hp
            have hil := (List.getElem?_eq_some_iff.1 hi).1
            obtain ⟨b, off, p', A1, n1, c1, _, _, hx', hnm, _⟩ := HP.out.pc_at i (by rw [HNP.out]; exact hil)
            rw [hi] at hx'
            injection hx' with hx'
            subst hx'
            exact hnm
          obtain ⟨B7, c7, e7, S7⟩ := own_strs H7.out hszs (by rw [List.length_map, LIM_eq, ← HNP.out]; omega)
          obtain ⟨B8, c8, e8, S8⟩ := own_ints H8.out (by rw [adrs_length, LIM_eq, ← HNP.out]; omega)
          have HS7 := Box.mk S7
          have HS8 := Box.mk S8
          subst e7 e8
          clear H7 H8 S7 S8 hszs e HAP
          go_wp2_with fail
          go_ret3
          rw [HO.out]
          exact ⟨_, _, _, _, rfl, HS7.out, HS8.out, below_tr HB2.out HB2.out.size HB.out⟩
  · have HO : Box (lnk ms = ([], [], V)) := ⟨by simp [lnk, ho, h0]⟩
    have h0' : (V != 0) = true := by simpa using h0
    clear ho
    go_wp2_with fail
    go_ret3
    rw [HO.out]
    exact ⟨_, _, _, _, rfl, slr_nil _ _ _ _ _, slr_nil _ _ _ _ _, HB1.out⟩
end Go.Proofs.Ytchhjldopecliaa
namespace Go.Proofs.Ytchhjldopecliaa
open Go.RowKit

set_option maxRecDepth 100000 in
set_option maxHeartbeats 1000000 in
/-- Two slices of the same numbers are equal. -/
theorem c_SameInts (A : Option Addr) (n c : Nat) (B : Option Addr) (c' : Nat) (xs : List Int) (w : World) (h : SlR w 1 RInt A n c xs) (h' : SlR w 1 RInt B n c' xs) :
    Calls Try.prog 28 #[.slice A n c, .slice B n c'] w fun e w' => e = .returned (.bool true) ∧ Below w.heap.size w w' := by
  have hlim := h.lim
  have H := Box.mk h
  have H' := Box.mk h'
  clear h h'
  go_enter Try.func28, Try.ntmps28
  go_wp2_with fail
  go_loopw [5] (fun i wr => ∃ k : Nat, k ≤ n ∧ i = .int .i64 k ∧ Box (Below w.heap.size w wr)) (fun i _ => n - (intOf i).toNat)
  case atStart => exact ⟨0, Nat.zero_le _, rfl, ⟨Below.refl _ _⟩⟩
  case round =>
    obtain ⟨k, hk, rfl, HB⟩ := hrel
    by_cases hlt : k < n
    · obtain ⟨b, off, x, rfl, hb, hx, hc⟩ := H.out.int_at k hlt
      obtain ⟨b2, off2, y, rfl, hb2, hy, hc2⟩ := H'.out.int_at k hlt
      obtain rfl : x = y := by rw [hx] at hy; exact Option.some.inj hy
      replace hc := cellk HB.out hb hc
      replace hc2 := cellk HB.out hb2 hc2
      clear hx hy
      go_upto_region 6 with fail
      go_quiet (fail)
      have HBq : Box (Below w.heap.size w (wr.drewN nq)) := ⟨⟨HB.out.os, HB.out.tape, HB.out.output, HB.out.size, HB.out.block⟩⟩
      go_wp2_with fail
      go_roundw
      case rel => exact ⟨k + 1, by omega, by go_num, HBq⟩
      case measure => simp [intOf] <;> omega
    · go_wp2_with fail
      go_ret
      exact ⟨rfl, HB.out⟩

set_option maxRecDepth 100000 in
set_option maxHeartbeats 2000000 in
theorem c_LinkPlaces (A : Option Addr) (n c : Nat) (ms : List Md) (w : World) (h : SlR w 5 RMd A n c ms) :
    Calls Try.prog 7 #[.slice A n c] w fun e w' => e = .returned (.bool true) ∧ Below w.heap.size w w' := by
  have hlim := h.lim
  have H := Box.mk h
  clear h
  go_enter Try.func7, Try.ntmps7
  go_wp2_with fail
  refine (c_over A n c ms w H.out).mono ?_
  rintro e w1 ⟨⟨q, rfl, hq⟩, hb1⟩
  have HB1 := Box.mk hb1
  clear hb1 hq
  cases q
  case true =>
    go_wp2_with fail
    refine (c_known w1).mono ?_
    rintro e w2 ⟨rfl, hb2⟩
    have HB2 := Box.mk (below_tr HB1.out HB1.out.size hb2)
    clear hb2
    go_wp2_with fail
    go_ret
    exact ⟨rfl, HB2.out⟩
  case false =>
    go_wp2_with fail
    refine (c_Link A n c ms w1 (H.out.below mono_md HB1.out)).mono ?_
    rintro e w2 ⟨B1, d1, B2, d2, rfl, hs1, hs2, hb2⟩
    have HB2 := Box.mk (below_tr HB1.out HB1.out.size hb2)
    have HS1 := Box.mk hs1
    have HS2 := Box.mk hs2
    clear hb2 hs1 hs2
    have CM := Box.mk (r_Link A n c ms w2 (H.out.below mono_md HB2.out))
    obtain ⟨nm, hnm⟩ : ∃ nm, nm = (lnk ms).1.length := ⟨_, rfl⟩
    obtain ⟨na, hna⟩ : ∃ na, na = (lnk ms).2.1.length := ⟨_, rfl⟩
    rw [← hnm, ← hna] at CM ⊢
    rw [← hnm] at HS1
    rw [← hna] at HS2
    clear hnm hna
    generalize (lnk ms).1 = xs at *
    generalize (lnk ms).2.1 = ys at *
    generalize (lnk ms).2.2 = E at *
    go_wp2_with fail
    refine CM.out.mono ?_
    rintro e w3 ⟨B3, d3, B4, d4, rfl, hs3, hs4, hb3⟩
    have HB3 := Box.mk (below_tr HB2.out HB2.out.size hb3)
    have HS3 := Box.mk hs3
    have HS4 := Box.mk hs4
    have HS1' := Box.mk (HS1.out.below mono_str hb3)
    have HS2' := Box.mk (HS2.out.below mono_int hb3)
    clear hb3 hs3 hs4 CM
    go_wp2_with fail
    refine (c_SameTexts B1 nm d1 B3 d3 xs w3 HS1'.out HS3.out).mono ?_
    rintro e w4 ⟨rfl, hb4⟩
    have HB4 := Box.mk (below_tr HB3.out HB3.out.size hb4)
    have HS2b := Box.mk (HS2'.out.below mono_int hb4)
    have HS4b := Box.mk (HS4.out.below mono_int hb4)
    clear hb4
    go_wp2_with fail
    refine (c_SameInts B2 na d2 B4 d4 ys w4 HS2b.out HS4b.out).mono ?_
    rintro e w5 ⟨rfl, hb5⟩
    have HB5 := Box.mk (below_tr HB4.out HB4.out.size hb5)
    clear hb5
    go_wp2_with fail
    refine (c_known w5).mono ?_
    rintro e w9 ⟨rfl, hb9⟩
    have HB9 := Box.mk (below_tr HB5.out HB5.out.size hb9)
    clear hb9
    go_wp2_with fail
    go_ret
    exact ⟨rfl, HB9.out⟩
end Go.Proofs.Ytchhjldopecliaa
namespace Go.Proofs.Ytchhjldopecliaa
open Go.RowKit

theorem foldl_max_ge : ∀ (l : List Int) (a : Int), a ≤ l.foldl max a ∧ ∀ x ∈ l, x ≤ l.foldl max a
  | [], a => ⟨Int.le_refl _, by simp⟩
  | y :: r, a => by
    obtain ⟨h1, h2⟩ := foldl_max_ge r (max a y)
    refine ⟨Int.le_trans (Int.le_max_left ..) h1, fun x hx => ?_⟩
    rcases List.mem_cons.1 hx with rfl | hx
    · exact Int.le_trans (Int.le_max_right ..) h1
    · exact h2 x hx
theorem foldl_max_le {B : Int} : ∀ (l : List Int) (a : Int), a ≤ B → (∀ x ∈ l, x ≤ B) → l.foldl max a ≤ B
  | [], _, h, _ => h
  | y :: r, a, h, hl => foldl_max_le r (max a y) (Int.max_le.2 ⟨h, hl y (List.mem_cons_self ..)⟩) (fun x hx => hl x (List.mem_cons_of_mem _ hx))
theorem mxL_ge {l : List Int} {x : Int} (h : x ∈ l) : x ≤ mxL l := by
  cases l with
  | nil => cases h
  | cons y r =>
    rcases List.mem_cons.1 h with rfl | h
    · exact (foldl_max_ge r x).1
    · exact (foldl_max_ge r y).2 x h
theorem Good.room {ms : List Md} (h : Good ms) : 0 ≤ mxL (endsL ms).tail ∧ mxL (endsL ms).tail ≤ 32000000 := by
  have hb : ∀ x ∈ endsL ms, 0 ≤ x ∧ x ≤ 32000000 := by
    intro x hx
    obtain ⟨o, _, rfl⟩ := List.mem_map.1 hx
    have := h.endAt_bound ms.length o
    rwa [List.take_length] at this
  have hl := endsL_length ms
  match hq : endsL ms with
  | [] => rw [hq] at hl; cases hl
  | [x] => rw [hq] at hl; cases hl
  | x :: y :: r =>
    rw [hq] at hb
    show 0 ≤ r.foldl max y ∧ r.foldl max y ≤ 32000000
    exact ⟨Int.le_trans (hb y (by simp)).1 (foldl_max_ge r y).1, foldl_max_le r y (hb y (by simp)).2 (fun z hz => (hb z (by simp [hz])).2)⟩
theorem adr_fits {ms : List Md} (hg : Good ms) {i : Nat} {p : Pc} (hp : (prs ms)[i]? = some p) :
    0 ≤ adr (prs ms) i p ∧ adr (prs ms) i p ≤ 100000000 ∧ adr (prs ms) i p + p.sz ≤ (if p.ov = 0 then endAt ms 0 else endAt ms 0 + mxL (endsL ms).tail) := by
  have h0 := szAt_prs 0 ms (fun m hm => (hg.fit hm).1)
  obtain ⟨h1, h2⟩ := adr_end hg.ps hp
  have hov := hg.ps.ov p (List.mem_iff_getElem?.2 ⟨i, hp⟩)
  have hb := hg.endAt_bound ms.length 0
  rw [List.take_length] at hb
  have hr := hg.room
  have hsz := hg.ps.sz p (List.mem_iff_getElem?.2 ⟨i, hp⟩)
  by_cases ho : p.ov = 0
  · have := adr_root hg.ps hp ho
    rw [if_pos ho]
    omega
  · rw [if_neg ho]
    rw [if_pos (by omega), szAt_prs p.ov.toNat ms (fun m hm => (hg.fit hm).1)] at h2
    have hm : endAt ms p.ov.toNat ∈ (endsL ms).tail := by
      rw [List.mem_iff_getElem?]
      refine ⟨p.ov.toNat - 1, ?_⟩
      rw [List.getElem?_tail]
      have e : p.ov.toNat - 1 + 1 = p.ov.toNat := by omega
      rw [e]
      unfold endsL
      rw [List.getElem?_map, List.getElem?_range (by omega)]
      rfl
    have := mxL_ge hm
    omega

/-- Two rows of numbers of one's own. -/
structure TwoI (w0 W : World) (base : Nat) (v u : Value) (xs ys : List Int) : Prop where
  o1 : W.ownsRow base 3 1 v xs.length (xs.map (Value.int .i64))
  o2 : W.ownsRow base 3 1 u ys.length (ys.map (Value.int .i64))
  ap : Apart v u
  bel : Below w0.heap.size w0 W
  lo : w0.heap.size ≤ base
  hi : base ≤ W.heap.size
section
variable {w0 W wa : World} {base : Nat} {v u v' : Value} {xs ys : List Int}
theorem TwoI.alloc (h : TwoI w0 W base v u xs ys) (o : Obj) : TwoI w0 (W.alloc o) base v u xs ys :=
  ⟨h.o1.alloc o, h.o2.alloc o, h.ap, bel_alloc2 h.bel o, h.lo, Nat.le_trans h.hi (bel_alloc W o).size⟩
theorem TwoI.drew (h : TwoI w0 W base v u xs ys) : TwoI w0 W.drew base v u xs ys :=
  ⟨h.o1, h.o2, h.ap, ⟨h.bel.os, h.bel.tape, h.bel.output, h.bel.size, h.bel.block⟩, h.lo, h.hi⟩
theorem TwoI.app1 (h : TwoI w0 W base v u xs ys) {x : Int} (ho : wa.ownsRow base 3 1 v' (xs.length + 1) (xs.map (Value.int .i64) ++ [.int .i64 x])) (hg : W.grownBy wa v.ownBlock) (hat : v'.ownBlock = v.ownBlock ∨ v'.ownBlock = some W.heap.size) :
    TwoI w0 wa base v' u (xs ++ [x]) ys :=
  ⟨by simpa using ho, own_other h.o2 hg h.ap.symm, h.ap.step (fun B e => (h.o2.lt B e).2) (Nat.le_refl _) hat, h.bel.grown hg h.bel.size (fun q hq => Nat.le_trans h.lo (h.o1.lt q hq).1), h.lo, Nat.le_trans h.hi hg.size⟩
theorem TwoI.app2 (h : TwoI w0 W base v u xs ys) {x : Int} (ho : wa.ownsRow base 3 1 v' (ys.length + 1) (ys.map (Value.int .i64) ++ [.int .i64 x])) (hg : W.grownBy wa u.ownBlock) (hat : v'.ownBlock = u.ownBlock ∨ v'.ownBlock = some W.heap.size) :
    TwoI w0 wa base v v' xs (ys ++ [x]) :=
  ⟨own_other h.o1 hg h.ap, by simpa using ho, (Apart.step (L := W.heap.size) h.ap.symm (fun B e => (h.o1.lt B e).2) (Nat.le_refl _) hat).symm, h.bel.grown hg h.bel.size (fun q hq => Nat.le_trans h.lo (h.o2.lt q hq).1), h.lo, Nat.le_trans h.hi hg.size⟩
end

set_option maxRecDepth 100000 in
set_option maxHeartbeats 8000000 in
theorem c_LinkApart (A : Option Addr) (n c : Nat) (ms : List Md) (w : World) (h : SlR w 5 RMd A n c ms) :
    Calls Try.prog 6 #[.slice A n c] w fun e w' => e = .returned (.bool true) ∧ Below w.heap.size w w' := by
  have hlim := h.lim
  have H := Box.mk h
  clear h
  go_enter Try.func6, Try.ntmps6
  go_wp2_with fail
  refine (c_over A n c ms w H.out).mono ?_
  rintro e w1 ⟨⟨q, rfl, hq⟩, hb1⟩
  have HB1 := Box.mk hb1
  clear hb1 hq
  cases q
  case true =>
    go_wp2_with fail
    refine (c_known w1).mono ?_
    rintro e w2 ⟨rfl, hb2⟩
    have HB2 := Box.mk (below_tr HB1.out HB1.out.size hb2)
    clear hb2
    go_wp2_with fail
    go_ret
    exact ⟨rfl, HB2.out⟩
  case false =>
  go_wp2_with fail
  refine (c_Link A n c ms w1 (H.out.below mono_md HB1.out)).mono ?_
  rintro e w2 ⟨B1, d1, B2, d2, rfl, hs1, hs2, hb2⟩
  have HB2 := Box.mk (below_tr HB1.out HB1.out.size hb2)
  have HS2 := Box.mk hs2
  clear hb2 hs1 hs2
  by_cases h0 : opn ms = 0
  case neg =>
    have hE : ((lnk ms).2.2 != 0) = true := by simp [lnk, h0]
    generalize (lnk ms).2.2 = E at *
    go_wp2_with fail
    refine (c_known w2).mono ?_
    rintro e w3 ⟨rfl, hb3⟩
    have HB3 := Box.mk (below_tr HB2.out HB2.out.size hb3)
    clear hb3
    go_wp2_with fail
    go_ret
    exact ⟨rfl, HB3.out⟩
  case pos =>
  have hL : lnk ms = ((prs ms).map (·.nm), adrs (endAt ms 0) [] (prs ms), 0) := by simp [lnk, h0]
  have HG := Box.mk (opn_good h0)
  rw [hL] at HS2 ⊢
  have e1 : ((prs ms).map (·.nm), adrs (endAt ms 0) [] (prs ms), (0 : Int)).1.length = (prs ms).length := by simp
  have e2 : ((prs ms).map (·.nm), adrs (endAt ms 0) [] (prs ms), (0 : Int)).2.1.length = (prs ms).length := adrs_length _ _ _
  rw [e1, e2]
  rw [e2] at HS2
  have hV : vld ms = 0 := by
    by_cases hz : vld ms = 0
    · exact hz
    · rw [opn, if_pos hz] at h0; exact h0
  have hS : szs ms = (endAt ms 0, mxL (endsL ms).tail, 0) := by simp [szs, hV]
  have CS := Box.mk (c_Sizes A n c ms w2 (H.out.below mono_md HB2.out))
  rw [hS] at CS
  have hrb := HG.out.endAt_bound ms.length 0
  rw [List.take_length] at hrb
  have hrm := HG.out.room
  have HFIT : Box (∀ (i : Nat) (p : Pc), (prs ms)[i]? = some p → 0 ≤ adr (prs ms) i p ∧ adr (prs ms) i p ≤ 100000000 ∧ adr (prs ms) i p + p.sz ≤ (if p.ov = 0 then endAt ms 0 else endAt ms 0 + mxL (endsL ms).tail)) := ⟨fun i p hp => adr_fits HG.out hp⟩
  have HADR : Box (∀ (i : Nat) (p : Pc), (prs ms)[i]? = some p → (adrs (endAt ms 0) [] (prs ms))[i]? = some (adr (prs ms) i p)) := ⟨fun i p hp => by
    rw [adrs_get hp, adr, szAt_prs 0 ms (fun m hm => (HG.out.fit hm).1)]
    simp⟩
  have hpl := HG.out.plen
  have HGP := Box.mk HG.out.ps
  obtain ⟨np, hnp⟩ : ∃ np, np = (prs ms).length := ⟨_, rfl⟩
  rw [← hnp] at HS2 hpl ⊢
  have HNP := Box.mk hnp
  clear hL e1 e2 hV hS h0 hnp
  generalize endAt ms 0 = x0 at *
  generalize mxL (endsL ms).tail = xr at *
  go_wp2_with fail
  refine CS.out.mono ?_
  rintro e w3 ⟨rfl, hb3⟩
  have HB3 := Box.mk (below_tr HB2.out HB2.out.size hb3)
  have HS3 := Box.mk (HS2.out.below mono_int hb3)
  clear hb3 CS HS2
  go_wp2_with fail
  go_loopw [9, 10, 11, 12] (fun v9 v10 i _ wx => ∃ k : Nat, k ≤ n ∧ i = .int .i64 k ∧ Box (TwoI w3 wx w3.heap.size v9 v10 ((prs (ms.take k)).map (·.sz)) ((prs (ms.take k)).map (·.ov)))) (fun _ _ i _ _ => n - (intOf i).toNat)
  case atStart => exact ⟨0, Nat.zero_le _, rfl, ⟨⟨World.ownsRow_nil _ _ _ _, World.ownsRow_nil _ _ _ _, .inl rfl, Below.refl _ _, Nat.le_refl _, Nat.le_refl _⟩⟩⟩
  case round =>
    obtain ⟨k, hk, rfl, HT⟩ := hrel
    by_cases hlt : k < n
    · obtain ⟨b, off, m, A1, n1, c1, A2, n2, c2, A3, n3, c3, rfl, hb, hm, hM, h0, h1, h2, h3, h4⟩ := H.out.md_at k hlt
      obtain ⟨hf1, hf2⟩ := HG.out.fit (List.mem_iff_getElem?.2 ⟨k, hm⟩)
      rw [hM.sz.len, hM.pr.len] at hf1
      subst hf1
      have hl1 := hM.pr.lim
      have HM := Box.mk hM
      have HX := Box.mk hm
      have HTK : Box (prs (ms.take (k + 1)) = prs (ms.take k) ++ prM m) := ⟨prs_take hm⟩
      have HLEN : Box ((prs (ms.take k)).length + n2 ≤ 100) := ⟨by
        have e1 := sumL_mono ms (k + 1)
        rw [sumL_take HX.out, HM.out.pr.len] at e1
        have := HG.out.total
        rw [prs_length]
        omega⟩
      have HC := Box.mk (And.intro hb (And.intro h1 (And.intro h2 h3)))
      clear hM hm hf2 h0 h1 h2 h3 h4 hb
      go_wp2_with fail
      go_loopw [9, 10, 12] (fun v9 v10 i wx => ∃ j : Nat, j ≤ n2 ∧ i = .int .i64 j ∧ Box (TwoI w3 wx w3.heap.size v9 v10 ((prs (ms.take k) ++ (prM m).take j).map (·.sz)) ((prs (ms.take k) ++ (prM m).take j).map (·.ov)))) (fun _ _ i _ => n2 - (intOf i).toNat)
      case atStart => exact ⟨0, Nat.zero_le _, rfl, by simpa using HT⟩
      case round =>
        clear HT
        obtain ⟨j, hj, rfl, HT⟩ := hrel
        have HBw := Box.mk (below_tr HB3.out HB3.out.size HT.out.bel)
        obtain ⟨hb, h1, h2, h3⟩ := HC.out
        replace h2 := cellk HBw.out hb h2
        by_cases hjl : j < n2
        · obtain ⟨b6, o6, z, rfl, hb6, hx6, hc6⟩ := HM.out.sz.int_at j hjl
          obtain ⟨b5, o5, x5, rfl, hb5, hx5, hs5, hc5⟩ := HM.out.pr.str_at j hjl
          obtain ⟨e1, e2, e3⟩ := pcOf_at hx5 hx6
          have hjm : j < m.pr.length := by rw [HM.out.pr.len]; exact hjl
          have HT2 : Box (prs (ms.take k) ++ (prM m).take (j + 1) = (prs (ms.take k) ++ (prM m).take j) ++ [pcOf m j]) := ⟨by rw [prM_take m j hjm, List.append_assoc]⟩
          have hDl : (prs (ms.take k) ++ (prM m).take j).length ≤ 99 := by
            have := HLEN.out
            rw [List.length_append, List.length_take, prM_length]
            omega
          generalize prs (ms.take k) ++ (prM m).take j = D at *
          have HN1 : Box ((D ++ [pcOf m j]).map (·.sz) = D.map (·.sz) ++ [z]) := ⟨by rw [List.map_append]; simp [e2]⟩
          have HN2 : Box ((D ++ [pcOf m j]).map (·.ov) = D.map (·.ov) ++ [m.ov]) := ⟨by rw [List.map_append]; simp [e3]⟩
          have HSS : Box (∀ W, Below w.heap.size w W → W.cell? ⟨b, off + k * 5 + 3, none⟩ = some (.slice (some ⟨b6, o6, none⟩) n2 c2) ∧ W.cell? ⟨b6, o6 + j, none⟩ = some (.int .i64 z) ∧ W.cell? ⟨b, off + k * 5 + 1, none⟩ = some (.int .i64 m.ov)) := ⟨fun W hW => by
            obtain ⟨hb, h1, h2, h3⟩ := HC.out
            exact ⟨cellk hW hb h3, cellk hW hb6 hc6, cellk hW hb h1⟩⟩
          generalize m.ov = mo at *
          have HLA : Box (((D.map (·.sz)).length + 1) * 8 ≤ 140737488355328) := ⟨by rw [List.length_map]; omega⟩
          have HLB : Box (((D.map (·.ov)).length + 1) * 8 ≤ 140737488355328) := ⟨by rw [List.length_map]; omega⟩
          have HBX : Box (∀ W, Below w3.heap.size w3 W → Below w.heap.size w W) := ⟨fun W hW => below_tr HB3.out HB3.out.size hW⟩
          have G0 := HT
          have GA := Box.mk (G0.out.alloc (.cells #[.int .i64 z] 3)).drew
          have GB := Box.mk (G0.out.alloc (.cells #[.int .i64 mo] 3)).drew
          have GAB := Box.mk ((G0.out.alloc (.cells #[.int .i64 z] 3)).alloc (.cells #[.int .i64 mo] 3)).drew
          have GBA := Box.mk ((G0.out.alloc (.cells #[.int .i64 mo] 3)).alloc (.cells #[.int .i64 z] 3)).drew
          have CA : Box ((wr.alloc (.cells #[.int .i64 z] 3)).drew.cell? ⟨wr.heap.size, 0, none⟩ = some (.int .i64 z)) := ⟨by simp⟩
          have CAB : Box (((wr.alloc (.cells #[.int .i64 z] 3)).alloc (.cells #[.int .i64 mo] 3)).drew.cell? ⟨wr.heap.size, 0, none⟩ = some (.int .i64 z)) := ⟨cell_al _ CA.out⟩
          have EB : Box ((wr.alloc (.cells #[.int .i64 mo] 3)).drew.cell? ⟨wr.heap.size, 0, none⟩ = some (.int .i64 mo)) := ⟨by simp⟩
          have EBA : Box (((wr.alloc (.cells #[.int .i64 mo] 3)).alloc (.cells #[.int .i64 z] 3)).drew.cell? ⟨wr.heap.size, 0, none⟩ = some (.int .i64 mo)) := ⟨cell_al _ EB.out⟩
          have EAB : Box (((wr.alloc (.cells #[.int .i64 z] 3)).alloc (.cells #[.int .i64 mo] 3)).drew.cell? ⟨wr.heap.size + 1, 0, none⟩ = some (.int .i64 mo)) := ⟨by simp⟩
          have CBA : Box (((wr.alloc (.cells #[.int .i64 mo] 3)).alloc (.cells #[.int .i64 z] 3)).drew.cell? ⟨wr.heap.size + 1, 0, none⟩ = some (.int .i64 z)) := ⟨by simp⟩
          have NW : Box (∀ q, wr.heap.size ≤ q → some q ≠ u9.ownBlock) := ⟨fun q hq e => by have := (HT.out.o1.lt q e.symm).2; omega⟩
          clear e1 e2 e3 hx5 hx6 hc5 hc6 hs5 hjm h1 h3
          go_upto_region 14 with fail
          clear h2
          go_region_held3 (fun W : World => W.cell? ⟨b, off + k * 5 + 3, none⟩ = some (.slice (some ⟨b6, o6, none⟩) n2 c2) ∧ W.cell? ⟨b6, o6 + j, none⟩ = some (.int .i64 z) ∧ W.cell? ⟨b, off + k * 5 + 1, none⟩ = some (.int .i64 mo))
            (with_reducible first | exact HSS.out _ (HBX.out _ G0.out.drew.bel) | exact HSS.out _ (HBX.out _ GA.out.bel) | exact HSS.out _ (HBX.out _ GB.out.bel) | exact HSS.out _ (HBX.out _ GAB.out.bel) | exact HSS.out _ (HBX.out _ GBA.out.bel) | exact HSS.out _ (HBX.out _ G3.out.bel) | exact HSS.out _ (HBX.out _ (G3.out.alloc _).bel) | exact HSS.out _ (HBX.out _ G4.out.bel))
            (first
              | (refine step_app (o := ⟨some 61, _, _, _, _, _⟩) _ w3.heap.size rfl _ _ 30 3 rfl (.int .i64 0) 1 8 Try.underlying30 info_int rfl (by decide) (by decide) u9 _ _ rfl (by with_reducible first | exact GA.out.o1 | exact GAB.out.o1 | exact GBA.out.o1) (some ⟨_, 0, none⟩) 1 1 [.int .i64 z] rfl (by with_reducible first | exact src_cell CA.out rfl | exact src_cell CAB.out rfl | exact src_cell CBA.out rfl) HLA.out (by with_reducible first | exact GA.out.hi | exact GAB.out.hi | exact GBA.out.hi) ?_; intro v3' wa ho3 hg3' hat3; have G3 := Box.mk (by with_reducible first | exact GA.out.app1 ho3 hg3' hat3 | exact GAB.out.app1 ho3 hg3' hat3 | exact GBA.out.app1 ho3 hg3' hat3 : TwoI w3 wa w3.heap.size v3' u10 (D.map (·.sz) ++ [z]) (D.map (·.ov))); have HG3 := Box.mk hg3'; clear ho3 hg3' hat3)
              | (refine step_app (o := ⟨some 69, _, _, _, _, _⟩) _ w3.heap.size rfl _ _ 30 3 rfl (.int .i64 0) 1 8 Try.underlying30 info_int rfl (by decide) (by decide) u10 _ _ rfl (by with_reducible first | exact (G3.out.alloc _).o2 | exact G3.out.o2) (some ⟨_, 0, none⟩) 1 1 [.int .i64 mo] rfl (by with_reducible first | exact src_one _ _ _ rfl | exact src_cell (HG3.out.cell EAB.out (NW.out _ (Nat.le_succ _))) rfl | exact src_cell (HG3.out.cell EBA.out (NW.out _ (Nat.le_refl _))) rfl) HLB.out (by with_reducible first | exact (G3.out.alloc _).hi | exact G3.out.hi) ?_; intro v4' wb ho4 hg4' hat4; have G4 := Box.mk (by with_reducible first | exact (G3.out.alloc _).app2 ho4 hg4' hat4 | exact G3.out.app2 ho4 hg4' hat4 : TwoI w3 wb w3.heap.size v3' v4' (D.map (·.sz) ++ [z]) (D.map (·.ov) ++ [mo])); have HG4 := Box.mk hg4'; clear ho4 hg4' hat4))
          all_goals
            clear HLA HLB G0 GA GB GAB GBA CA CAB EB EBA EAB CBA NW HG3 HG4 G3
            go_wp2_with fail
            refine ⟨⟨j + 1, by omega, by go_num, ⟨by rw [HT2.out, HN1.out, HN2.out]; exact G4.out⟩⟩, ?_⟩
            simp [intOf] <;> omega
        · obtain rfl : j = n2 := by omega
          have e : (prM m).take j = prM m := List.take_of_length_le (by rw [prM_length, HM.out.pr.len]; exact Nat.le_refl _)
          rw [e, ← HTK.out] at HT
          go_wp2_with fail
          go_roundw
          case rel => exact ⟨k + 1, by omega, by go_num, HT⟩
          case measure => simp [intOf] <;> omega
    · obtain rfl : k = n := by omega
      have e : ms.take k = ms := List.take_of_length_le (by rw [H.out.len]; exact Nat.le_refl _)
      rw [e] at HT
      clear e
      have hw1 : IntKind.i64.wrap (x0 + xr) = x0 + xr := wrap_i64 (by omega) (by omega)
      obtain ⟨B9, c9, e9, S9⟩ := own_ints HT.out.o1 (by rw [List.length_map, LIM_eq, ← HNP.out]; omega)
      obtain ⟨B10, c10, e10, S10⟩ := own_ints HT.out.o2 (by rw [List.length_map, LIM_eq, ← HNP.out]; omega)
      rw [List.length_map, ← HNP.out] at e9 e10 S9 S10
      have HS9 := Box.mk S9
      have HS10 := Box.mk S10
      have HS4 := Box.mk (HS3.out.below mono_int HT.out.bel)
      have HBr := Box.mk (below_tr HB3.out HB3.out.size HT.out.bel)
      subst e9 e10
      clear S9 S10 HT HS3 HB3
      generalize prs ms = ps at *
      generalize hwb : wr = wb at *
      clear hwb
      go_wp2_with fail
      go_loopw [13, 14, 15, 16] (fun i _ _ _ wx => ∃ k : Nat, k ≤ np ∧ i = .int .i64 k ∧ Box (Below wb.heap.size wb wx)) (fun i _ _ _ _ => np - (intOf i).toNat)
      case atStart => exact ⟨0, Nat.zero_le _, rfl, ⟨Below.refl _ _⟩⟩
      case round =>
        obtain ⟨i, hi, rfl, HB⟩ := hrel
        by_cases hil : i < np
        · have hpi : ∃ p, ps[i]? = some p := ⟨_, List.getElem?_eq_getElem (by rw [← HNP.out]; exact hil)⟩
          obtain ⟨p, hp⟩ := hpi
          obtain ⟨f1, f2, f3⟩ := HFIT.out i p hp
          have hadr := HADR.out i p hp
          obtain ⟨b4, o4, xa, rfl, hb4, hx4, hc4⟩ := HS4.out.int_at i hil
          obtain ⟨b9, o9, xz, rfl, hb9, hx9, hc9⟩ := HS9.out.int_at i hil
          obtain ⟨b10, o10, xo, rfl, hb10, hx10, hc10⟩ := HS10.out.int_at i hil
          rw [hadr] at hx4
          rw [List.getElem?_map, hp] at hx9 hx10
          injection hx4 with hx4
          injection hx9 with hx9
          injection hx10 with hx10
          have hx4 : adr ps i p = xa := hx4
          have hx9 : p.sz = xz := hx9
          have hx10 : p.ov = xo := hx10
          have HP := Box.mk (And.intro hp (And.intro hx4 (And.intro hx9 hx10)))
          have hsz := HGP.out.sz p (List.mem_iff_getElem?.2 ⟨i, hp⟩)
          rw [hx4, hx9, hx10] at f3
          rw [hx4] at f1 f2
          rw [hx9] at hsz
          have HC := Box.mk (And.intro hc4 (And.intro hc9 hc10))
          have HBl := Box.mk (And.intro hb4 (And.intro hb9 hb10))
          replace hc4 := cellk HB.out hb4 hc4
          replace hc9 := cellk HB.out hb9 hc9
          replace hc10 := cellk HB.out hb10 hc10
          clear hx4 hx9 hx10 hp hadr hb4 hb9 hb10
          have hw2 : IntKind.i64.wrap (xa + xz) = xa + xz := wrap_i64 (by omega) (by omega)
          generalize hE : (if xo = 0 then x0 else x0 + xr) = E at f3
          have HE := Box.mk hE
          clear hE
          go_upto_if 95 with fail
          go_cut [14] (fun t14 wx => t14 = .int .i64 E ∧ wx = wr)
          case first =>
            by_cases ho : xo = 0
            · subst ho
              go_wp2_with fail
              go_meet
              exact ⟨vi (by rw [← HE.out]; simp), rfl⟩
            · have hq : (xo == 0) = false := by simpa using ho
              go_wp2_with fail
              go_meet
              exact ⟨vi (by rw [← HE.out, if_neg ho]), rfl⟩
          case rest =>
            obtain ⟨rfl, rfl⟩ := hcut
            have hnn : ¬ (xa < 0) := by omega
            have hgt : ¬ (E < xa + xz) := by omega
            go_upto_region 23 with fail
            go_quiet (fail)
            have HBq : Box (Below wb.heap.size wb (wc.drewN nq)) := ⟨⟨HB.out.os, HB.out.tape, HB.out.output, HB.out.size, HB.out.block⟩⟩
            clear hnn hgt hc4 hc9 hc10
            go_wp2_with fail
            go_loopw [15, 16] (fun j _ wx => ∃ k : Nat, k ≤ i ∧ j = .int .i64 k ∧ Box (Below wb.heap.size wb wx)) (fun j _ _ => i - (intOf j).toNat)
            case atStart => exact ⟨0, Nat.zero_le _, rfl, HBq⟩
            case round =>
              clear HBq HB
              obtain ⟨j, hj, rfl, HB⟩ := hrel
              by_cases hjl : j < i
              · obtain ⟨q, hqq⟩ : ∃ q, ps[j]? = some q := ⟨_, List.getElem?_eq_getElem (by rw [← HNP.out]; omega)⟩
                obtain ⟨g1, g2, _⟩ := HFIT.out j q hqq
                have hadr := HADR.out j q hqq
                obtain ⟨b4', o4', ya, e4, hb4, hx4, gc4⟩ := HS4.out.int_at j (by omega)
                obtain ⟨b9', o9', yz, e9, hb9, hx9, gc9⟩ := HS9.out.int_at j (by omega)
                obtain ⟨b10', o10', yo, e10, hb10, hx10, gc10⟩ := HS10.out.int_at j (by omega)
                injection e4 with e4; injection e4 with e4 e4'; subst e4 e4'
                injection e9 with e9; injection e9 with e9 e9'; subst e9 e9'
                injection e10 with e10; injection e10 with e10 e10'; subst e10 e10'
                rw [hadr] at hx4
                rw [List.getElem?_map, hqq] at hx9 hx10
                injection hx4 with hx4
                injection hx9 with hx9
                injection hx10 with hx10
                have hx4 : adr ps j q = ya := hx4
                have hx9 : q.sz = yz := hx9
                have hx10 : q.ov = yo := hx10
                have gsz := HGP.out.sz q (List.mem_iff_getElem?.2 ⟨j, hqq⟩)
                have HAP : Box ((xo = yo ∨ xo = 0 ∨ yo = 0) → ¬ (xa < ya + yz ∧ ya < xa + xz)) := ⟨fun ht => by
                  have := adr_apart HGP.out HP.out.1 hqq hjl (by rw [HP.out.2.2.2, hx10]; exact ht)
                  rwa [HP.out.2.1, HP.out.2.2.1, hx4, hx9] at this⟩
                rw [hx4] at g1 g2
                rw [hx9] at gsz
                have HG4 := Box.mk (And.intro gc4 gc9)
                replace gc4 := cellk HB.out hb4 gc4
                replace gc9 := cellk HB.out hb9 gc9
                replace gc10 := cellk HB.out hb10 gc10
                have hc4 := cellk HB.out HBl.out.1 HC.out.1
                have hc9 := cellk HB.out HBl.out.2.1 HC.out.2.1
                have hc10 := cellk HB.out HBl.out.2.2 HC.out.2.2
                have hw3 : IntKind.i64.wrap (ya + yz) = ya + yz := wrap_i64 (by omega) (by omega)
                have hj2 : j < np := by omega
                clear hx4 hx9 hx10 hadr hqq hb4 hb9 hb10
                go_upto_region 28 with fail
                go_cut [16] (fun t16 wx => t16 = .bool (decide (xo = yo ∨ xo = 0 ∨ yo = 0)) ∧ Box (Below wb.heap.size wb wx))
                case first =>
                  by_cases h1 : xo = yo
                  · have q1 : (xo == yo) = true := by simpa using h1
                    clear h1
                    go_quiet (fail)
                    have HBq : Box (Below wb.heap.size wb (wr.drewN nq)) := ⟨⟨HB.out.os, HB.out.tape, HB.out.output, HB.out.size, HB.out.block⟩⟩
                    go_wp2_with fail
                    all_goals (go_meet; exact ⟨vb (by simp at q1; simp [q1]), HBq⟩)
                  · have q1 : (xo == yo) = false := by simpa using h1
                    by_cases h2 : xo = 0
                    · have q2 : (xo == 0) = true := by simpa using h2
                      clear h1 h2
                      go_quiet (fail)
                      have HBq : Box (Below wb.heap.size wb (wr.drewN nq)) := ⟨⟨HB.out.os, HB.out.tape, HB.out.output, HB.out.size, HB.out.block⟩⟩
                      go_wp2_with fail
                      all_goals (go_meet; exact ⟨vb (by simp at q2; simp [q2]), HBq⟩)
                    · have q2 : (xo == 0) = false := by simpa using h2
                      by_cases h3 : yo = 0
                      · have q3 : (yo == 0) = true := by simpa using h3
                        clear h1 h2 h3
                        go_quiet (fail)
                        have HBq : Box (Below wb.heap.size wb (wr.drewN nq)) := ⟨⟨HB.out.os, HB.out.tape, HB.out.output, HB.out.size, HB.out.block⟩⟩
                        go_wp2_with fail
                        all_goals (go_meet; exact ⟨vb (by simp at q3; simp [q3]), HBq⟩)
                      · have q3 : (yo == 0) = false := by simpa using h3
                        clear h1 h2 h3
                        go_quiet (fail)
                        have HBq : Box (Below wb.heap.size wb (wr.drewN nq)) := ⟨⟨HB.out.os, HB.out.tape, HB.out.output, HB.out.size, HB.out.block⟩⟩
                        go_wp2_with fail
                        all_goals (go_meet; exact ⟨vb (by simp at q1 q2 q3; simp [q1, q2, q3]), HBq⟩)
                case rest =>
                  obtain ⟨rfl, HBc⟩ := hcut
                  clear hc4 hc9 hc10 gc4 gc9 gc10
                  have hc4 := cellk HBc.out HBl.out.1 HC.out.1
                  have hc9 := cellk HBc.out HBl.out.2.1 HC.out.2.1
                  have gc4 := cellk HBc.out HBl.out.1 HG4.out.1
                  have gc9 := cellk HBc.out HBl.out.2.1 HG4.out.2
                  by_cases hT : xo = yo ∨ xo = 0 ∨ yo = 0
                  · have ha := HAP.out hT
                    have eT : decide (xo = yo ∨ xo = 0 ∨ yo = 0) = true := by simpa using hT
                    rw [eT]
                    clear eT hT
                    by_cases h1 : xa < ya + yz
                    · have h2 : ¬ (ya < xa + xz) := fun h => ha ⟨h1, h⟩
                      clear ha
                      go_upto_region 29 with fail
                      go_quiet (fail)
                      have HBq : Box (Below wb.heap.size wb (wc.drewN nq)) := ⟨⟨HBc.out.os, HBc.out.tape, HBc.out.output, HBc.out.size, HBc.out.block⟩⟩
                      go_wp2_with fail
                      refine ⟨⟨j + 1, by omega, by go_num, HBq⟩, ?_⟩
                      simp [intOf] <;> omega
                    · clear ha
                      go_upto_region 29 with fail
                      go_quiet (fail)
                      have HBq : Box (Below wb.heap.size wb (wc.drewN nq)) := ⟨⟨HBc.out.os, HBc.out.tape, HBc.out.output, HBc.out.size, HBc.out.block⟩⟩
                      go_wp2_with fail
                      refine ⟨⟨j + 1, by omega, by go_num, HBq⟩, ?_⟩
                      simp [intOf] <;> omega
                  · have eT : decide (xo = yo ∨ xo = 0 ∨ yo = 0) = false := by simpa using hT
                    rw [eT]
                    clear eT hT
                    go_upto_region 29 with fail
                    go_quiet (fail)
                    have HBq : Box (Below wb.heap.size wb (wc.drewN nq)) := ⟨⟨HBc.out.os, HBc.out.tape, HBc.out.output, HBc.out.size, HBc.out.block⟩⟩
                    go_wp2_with fail
                    refine ⟨⟨j + 1, by omega, by go_num, HBq⟩, ?_⟩
                    simp [intOf] <;> omega
              · obtain rfl : j = i := by omega
                go_wp2_with fail
                go_roundw
                case rel => exact ⟨j + 1, by omega, by go_num, HB⟩
                case measure => simp [intOf] <;> omega
        · obtain rfl : i = np := by omega
          go_wp2_with fail
          refine (c_known wr).mono ?_
          rintro e w9 ⟨rfl, hb9⟩
          have HB9 := Box.mk (below_tr (below_tr HBr.out HBr.out.size HB.out) (by have := HB.out.size; have := HBr.out.size; omega) hb9)
          clear hb9
          go_wp2_with fail
          go_ret
          exact ⟨rfl, HB9.out⟩
end Go.Proofs.Ytchhjldopecliaa
