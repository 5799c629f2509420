/-
What the reference's Loads computes. Condition: the arguments are a slice of modules and a slice of texts.
-/
import Derived.Test.YtchhjldopecliaaF9
namespace Go.Proofs.Ytchhjldopecliaa
open Go.RowKit

theorem info_int : (Try.prog.info? 3).map (fun i => (i.zero, i.size, i.bytes)) = some (some (.int .i64 0), 1, 8) := by kernel_rfl

/-- A stack of numbers of procedures: the top first; the row holds it from below. -/
structure StkI (ps : List Pc) (w : World) (B : Nat) (v : Value) (top : Str) (rest : List Str) : Prop where
  own : w.ownsRow B 3 1 v (rest.length + 1) ((top :: rest).reverse.map (fun t => Value.int .i64 (fdx t ps)))
theorem StkI.form {ps : List Pc} {w : World} {B : Nat} {v : Value} {top : Str} {rest : List Str} (h : StkI ps w B v top rest) :
    ∃ g cap, v = .slice (some ⟨g, 0, none⟩) (rest.length + 1) cap ∧ B ≤ g ∧ g < w.heap.size ∧ rest.length + 1 ≤ cap ∧ cap ≤ maxLen ∧ w.cell? ⟨g, rest.length, none⟩ = some (.int .i64 (fdx top ps)) := by
  rcases h.own.2 with ⟨_, h0⟩ | ⟨g, cap, cur, rfl, hb, hg, hnc, hcm, hcs, ht⟩
  · omega
  · refine ⟨g, cap, rfl, hb, (Array.getElem?_eq_some_iff.1 hg).1, hnc, hcm, ?_⟩
    have := h.own.cells (g := g) rfl rest.length (.int .i64 (fdx top ps)) (by
      rw [List.getElem?_map, List.reverse_cons, List.getElem?_append_right (by simp)]
      simp)
    have ha : (⟨g, 0, none⟩ : Addr).add rest.length = ⟨g, rest.length, none⟩ := by unfold Addr.add; split <;> simp_all
    rwa [ha] at this
theorem StkI.pop {ps : List Pc} {w : World} {B : Nat} {g cap : Nat} {top t : Str} {rest : List Str} (h : StkI ps w B (.slice (some ⟨g, 0, none⟩) ((t :: rest).length + 1) cap) top (t :: rest)) :
    StkI ps w B (.slice (some ⟨g, 0, none⟩) (rest.length + 1) cap) t rest := by
  rcases h.own.2 with ⟨h0, _⟩ | ⟨g', cap', cur, e, hb, hg, hnc, hcm, hcs, ht⟩
  · cases h0
  · injection e with e1 e2 e3
    injection e1 with e1
    injection e1 with e1
    subst e1 e3
    refine ⟨by simp, .inr ⟨g, cap, cur, rfl, hb, hg, by simp at hnc; omega, hcm, hcs, ?_⟩⟩
    have h2 := congrArg (List.take (rest.length + 1)) ht
    rw [List.take_take] at h2
    simp only [List.length_cons, Nat.mul_one] at h2 ⊢
    rw [Nat.min_eq_left (by omega)] at h2
    rw [h2]
    rw [← List.map_take]
    congr 1
    rw [List.reverse_cons, List.take_append_of_le_length (by simp)]
    exact List.take_of_length_le (by simp)

theorem fdx_found {ps : List Pc} {t : Str} {p : Pc} (h : fnd t ps = some p) : ∃ q : Nat, fdx t ps = q ∧ ps[q]? = some p := by
  rcases fdx_spec t ps with ⟨_, h2⟩ | ⟨k, p', h1, h2, h3⟩
  · rw [h] at h2; cases h2
  · rw [h] at h3
    injection h3 with h3
    subst h3
    exact ⟨k, h1, h2⟩

set_option maxRecDepth 100000 in
set_option maxHeartbeats 8000000 in
theorem r_Loads (A : Option Addr) (n c : Nat) (ms : List Md) (x : Str) (A2 : Option Addr) (n2 c2 : Nat) (walk : List Str) (w : World) (h : SlR w 5 RMd A n c ms) (h2 : SlR w 1 RStr A2 n2 c2 walk) :
    Calls Try.prog 19 #[.slice A n c, .string x, .slice A2 n2 c2] w fun e w' => e = .returned (.tuple #[.int .i64 (lds ms x walk).1, .int .i64 (lds ms x walk).2]) ∧ Below w.heap.size w w' := by
  have hlim2 := h2.lim
  have H2 := Box.mk h2
  have C := Box.mk (r_from A n c ms x w h)
  clear h h2
  by_cases h0 : opf ms x = 0
  · have HLD : Box (lds ms x walk = if 1000 < walk.length then (0, 3) else ldsR (prs ms) x walk) := ⟨by simp [lds, h0]⟩
    have HL := Box.mk H2.out.len
    unfold FromOk at C
    rw [h0] at C
    have HGC : Box (Good ms → ∀ p ∈ prs ms, 0 ≤ p.ov) := ⟨fun hg p hp => by
      obtain ⟨m, hm, i, _, rfl⟩ := prs_mem hp
      exact (hg.md hm).1⟩
    have HTC : Box (opn ms = 0 → ∀ p ∈ prs ms, ∀ s ∈ p.cl, ∃ q, fnd s (prs ms) = some q) := ⟨fun ho p hp s hs => opn_there ho hp hs⟩
    have HCC : Box (Good ms → ∀ p ∈ prs ms, p.cl.length ≤ 100) := ⟨fun hg p hp => hg.pcalls hp⟩
    have HPC : Box (Good ms → (prs ms).length ≤ 100) := ⟨fun hg => hg.plen⟩
    clear h0
    generalize prs ms = ps at *
    go_enter Try.func19, Try.ntmps19
    go_wp2_with fail
    refine C.out.mono ?_
    rintro e w1 ⟨⟨v, k0, rfl, hv⟩, hb1⟩
    obtain ⟨hop, hg, p0, B, cb, rfl, hf0, rfl, hsl⟩ := hv trivial
    have HB1 := Box.mk hb1
    have HTH := Box.mk (HTC.out hop)
    have HOV := Box.mk (HGC.out hg)
    have HCL := Box.mk (HCC.out hg)
    have hpl := HPC.out hg
    have HP := Box.mk hsl
    have HF0 := Box.mk hf0
    clear C hop hg hb1 hv hsl hf0 HTC HGC HCC HPC
    by_cases hn2 : 1000 < n2
    · go_wp2_with fail
      go_ret2
      exact ⟨by rw [HLD.out, HL.out, if_pos hn2]; rfl, HB1.out⟩
    · generalize hfx : fdx x ps = fx at *
      have HFX := Box.mk hfx
      clear hfx
      go_wp2_with fail
      have HS0 : Box (StkI ps (w1.alloc (.cells #[.int .i64 fx] 3)) w1.heap.size (.slice (some ⟨w1.heap.size, 0, none⟩) 1 1) x []) := ⟨⟨rfl, .inr ⟨w1.heap.size, 1, #[.int .i64 fx], rfl, Nat.le_refl _, heap_alloc_new w1 _, Nat.le_refl _, by decide, rfl, by simp [HFX.out]⟩⟩⟩
      have HB0 : Box (Below w1.heap.size w1 (w1.alloc (.cells #[.int .i64 fx] 3))) := ⟨bel_alloc _ _⟩
      have HT0 : Box (∀ t ∈ [x], ∃ p ∈ ps, fnd t ps = some p) := ⟨fun t ht => by
        obtain rfl : t = x := by simpa using ht
        exact ⟨p0, (fnd_some HF0.out).1, HF0.out⟩⟩
      go_loopw [11, 12, 13, 14, 15, 16, 17, 18] (fun v11 v12 v13 i _ _ _ _ wr => ∃ (k : Nat) (top : Str) (rest : List Str) (a l : Int), k ≤ n2 + 1 ∧ i = .int .i64 ((k : Int) - 1) ∧ v12 = .int .i64 a ∧ v13 = .int .i64 l ∧ Box (StkI ps wr w1.heap.size v11 top rest) ∧ Box (Below w1.heap.size w1 wr) ∧
        Box ((k = 0 → top = x ∧ rest = [] ∧ a = 0 ∧ l = 0) ∧ (0 < k → lRun ps x [] (entR (0, 0) (ovOf ps x)) walk = lRun ps top rest (a, l) (walk.drop (k - 1)))) ∧ Box (0 ≤ l ∧ l ≤ k) ∧
        Box (∀ t ∈ top :: rest, ∃ p ∈ ps, fnd t ps = some p) ∧ Box (rest.length ≤ k)) (fun _ _ _ i _ _ _ _ _ => n2 + 1 - (intOf i + 1).toNat)
      case atStart => exact ⟨0, x, [], 0, 0, Nat.zero_le _, rfl, rfl, rfl, HS0, HB0, ⟨fun _ => ⟨rfl, rfl, rfl, rfl⟩, fun h => absurd h (Nat.lt_irrefl 0)⟩, ⟨by decide⟩, HT0, ⟨Nat.zero_le _⟩⟩
      case round =>
        clear HS0 HB0 HT0
        obtain ⟨k, top, rest, a, l, hk, rfl, rfl, rfl, HS, HB, HRUN, HLL, HT, HRL⟩ := hrel
        by_cases hlt : k ≤ n2
        · cases k with
          | zero =>
            obtain ⟨ht, rfl, ha, hl⟩ := HRUN.out.1 rfl
            obtain rfl : x = top := ht.symm
            have HAL := Box.mk (And.intro ha hl)
            obtain ⟨g, cap, rfl, hgB, hgl, hcap, hcm, htop⟩ := HS.out.form
            have e0 : (((0 : Nat) : Int) - 1) = -1 := rfl
            rw [e0]
            clear ha hl
            simp only [List.length_nil] at hcap htop
            go_upto_block 2 with fail
            go_cut [11] (fun s11 wx => Box (Below w1.heap.size w1 wx) ∧ ∃ t' r', Box (StkI ps wx w1.heap.size s11 t' r') ∧ Box (lRun ps x [] (entR (0, 0) (ovOf ps x)) walk = lRun ps t' r' (entR (a, l) (ovOf ps t')) (walk.drop (0))) ∧ Box (∀ t ∈ t' :: r', ∃ p ∈ ps, fnd t ps = some p) ∧ Box (r'.length ≤ 0 + 1))
            case first =>
              go_wp2_with fail
              go_meet
              exact ⟨HB, x, [], HS, ⟨by rw [HAL.out.1, HAL.out.2]; rfl⟩, HT, ⟨Nat.zero_le _⟩⟩
            case rest =>
              obtain ⟨HBc, t', r', HSc, HRc, HTc, HRLc⟩ := hcut
              obtain ⟨g', cap', rfl, hgB', hgl', hcap', hcm', htop'⟩ := HSc.out.form
              obtain ⟨p, hp, hpf⟩ := HTc.out t' (List.mem_cons_self ..)
              obtain ⟨q', hq1, hq2⟩ := fdx_found hpf
              rw [hq1] at htop'
              have hql : q' < ps.length := (List.getElem?_eq_some_iff.1 hq2).1
              obtain ⟨b3, off3, p3, A3, n3, c3, rfl, hb3, hp3, _, _, _, h31, _, _⟩ := HP.out.pc_at q' hql
              rw [hq2] at hp3
              injection hp3 with hp3
              subst hp3
              replace h31 := cellk HBc.out hb3 h31
              have hov : Box (ovOf ps t' = p.ov) := ⟨by simp [ovOf, hpf]⟩
              have ho0 := HOV.out p hp
              have hrl' := HRLc.out
              have hll := HLL.out
              have hwr : IntKind.i64.wrap (r'.length : Int) = r'.length := wrap_i64 (by omega) (by omega)
              clear hp hpf hq1 hq2
              generalize p.ov = o at *
              by_cases ho : o = 0
              · subst ho
                have HE : Box (entR (a, l) (ovOf ps t') = (a, l)) := ⟨by rw [hov.out]; simp [entR]⟩
                rw [HE.out] at HRc
                clear hov
                go_wp2_with fail
                go_roundw
                case rel => exact ⟨0 + 1, t', r', _, _, by omega, vi (by omega), rfl, rfl, HSc, HBc, ⟨fun h => by omega, fun _ => HRc.out⟩, ⟨by omega⟩, HTc, ⟨by omega⟩⟩
                case measure => simp [intOf] <;> omega
              · by_cases hoa : o = a
                · subst hoa
                  have HE : Box (entR (o, l) (ovOf ps t') = (o, l)) := ⟨by rw [hov.out]; simp [entR]⟩
                  rw [HE.out] at HRc
                  clear hov
                  go_wp2_with fail
                  go_roundw
                  case rel => exact ⟨0 + 1, t', r', _, _, by omega, vi (by omega), rfl, rfl, HSc, HBc, ⟨fun h => by omega, fun _ => HRc.out⟩, ⟨by omega⟩, HTc, ⟨by omega⟩⟩
                  case measure => simp [intOf] <;> omega
                · have HE : Box (entR (a, l) (ovOf ps t') = (o, l + 1)) := ⟨by rw [hov.out]; simp [entR, ho, hoa]⟩
                  rw [HE.out] at HRc
                  clear hov
                  have hoa' : (o != a) = true := by simpa using hoa
                  go_wp2_with fail
                  go_roundw
                  case rel => exact ⟨0 + 1, t', r', _, _, by omega, vi (by omega), rfl, rfl, HSc, HBc, ⟨fun h => by omega, fun _ => HRc.out⟩, ⟨by omega⟩, HTc, ⟨by omega⟩⟩
                  case measure => simp [intOf] <;> omega
          | succ q =>
            have e0 : (((q + 1 : Nat) : Int) - 1) = q := by omega
            rw [e0]
            obtain ⟨b5, o5, s, rfl, hb5, hx5, hs5, hc5⟩ := H2.out.str_at q (by omega)
            have HBw : Box (Below w.heap.size w wr) := ⟨below_tr HB1.out HB1.out.size HB.out⟩
            have HC5 := Box.mk (And.intro hb5 hc5)
            replace hc5 := cellk HBw.out hb5 hc5
            have HX : Box (walk.drop q = s :: walk.drop (q + 1)) := ⟨by
              obtain ⟨h1, h2⟩ := List.getElem?_eq_some_iff.1 hx5
              rw [← h2]
              exact List.drop_eq_getElem_cons h1⟩
            obtain ⟨g, cap, rfl, hgB, hgl, hcap, hcm, htop⟩ := HS.out.form
            have hrl := HRL.out
            have HRS : Box (lRun ps x [] (entR (0, 0) (ovOf ps x)) walk = match lStep ps top rest s with | none => none | some (t, l') => lRun ps t l' (entR (a, l) (ovOf ps t)) (walk.drop (q + 1))) := ⟨by
              have := HRUN.out.2 (by omega)
              rw [Nat.add_sub_cancel, HX.out] at this
              rw [this]
              rfl⟩
            obtain ⟨p, hp, hpf⟩ := HT.out top (List.mem_cons_self ..)
            obtain ⟨qt, hq1, hq2⟩ := fdx_found hpf
            rw [hq1] at htop
            have HTOP := Box.mk (And.intro hp (And.intro hpf hq2))
            clear hp hpf hq1 hq2
            clear hx5 hs5 hb5
            go_upto_block 2 with fail
            go_cut [11] (fun s11 wx => Box (Below w1.heap.size w1 wx) ∧ ∃ t' r', Box (StkI ps wx w1.heap.size s11 t' r') ∧ Box (lRun ps x [] (entR (0, 0) (ovOf ps x)) walk = lRun ps t' r' (entR (a, l) (ovOf ps t')) (walk.drop (q + 1))) ∧ Box (∀ t ∈ t' :: r', ∃ p ∈ ps, fnd t ps = some p) ∧ Box (r'.length ≤ q + 1 + 1))
            case first =>
              by_cases hse : s = ByteArray.empty
              · subst hse
                cases rest with
                | nil =>
                  have HR : Box (ldsR ps x walk = (0, 7)) := ⟨by unfold ldsR; rw [HRS.out]; simp [lStep]⟩
                  go_wp2_with fail
                  go_ret2
                  have e : lds ms x walk = (0, 7) := by rw [HLD.out, HL.out, if_neg hn2, HR.out]
                  exact ⟨by rw [e]; rfl, below_tr HB1.out HB1.out.size HB.out⟩
                | cons t r =>
                  have hp := HS.out.pop
                  have HP2 := Box.mk hp
                  clear hp
                  simp only [List.length_cons] at hrl hcap htop
                  have hnz : (((r.length : Int) + 1) == 0) = false := by simp; omega
                  have HRN : Box (lRun ps x [] (entR (0, 0) (ovOf ps x)) walk = lRun ps t r (entR (a, l) (ovOf ps t)) (walk.drop (q + 1))) := ⟨by rw [HRS.out]; simp [lStep]⟩
                  go_wp2_with fail
                  go_meet
                  exact ⟨HB, t, r, HP2, HRN, ⟨fun z hz => HT.out z (List.mem_cons_of_mem _ hz)⟩, ⟨by omega⟩⟩
              · obtain ⟨hp, hpf, hq2⟩ := HTOP.out
                have hql : qt < ps.length := (List.getElem?_eq_some_iff.1 hq2).1
                obtain ⟨b3, off3, p3, A3, n3, c3, rfl, hb3, hp3, _, hcl3, _, _, _, h33⟩ := HP.out.pc_at qt hql
                rw [hq2] at hp3
                injection hp3 with hp3
                subst hp3
                have h33o := Box.mk h33
                replace h33 := cellk HB.out hb3 h33
                have HC3 := Box.mk hcl3
                have hn3 : n3 ≤ 100 := by rw [← hcl3.len]; exact HCL.out p hp
                have hcl : Box (clOf ps top = p.cl) := ⟨by simp [clOf, hpf]⟩
                have HPS := Box.mk hp
                have HSE := Box.mk hse
                have hse1 : (ByteArray.toList s == []) = false := by
                  rw [← show ByteArray.toList ByteArray.empty = [] from by simp [ByteArray.toList_eq], tleq]
                  simpa using hse
                clear hp hpf hq2 hcl3 hse
                go_wp2_with fail
                have HH33 : Box (∀ W : World, Below w1.heap.size w1 W → W.cell? ⟨b3, off3 + qt * 4 + 3, none⟩ = some (.slice A3 n3 c3)) := ⟨fun W hW => cellk hW hb3 (h33o.out)⟩
                clear h33
                go_loopw [16, 17] (fun b16 i wx => ∃ j : Nat, j ≤ n3 ∧ i = .int .i64 j ∧ b16 = .bool ((p.cl.take j).any (fun y => decide (y = s))) ∧ Box (Below w1.heap.size w1 wx) ∧ Box (StkI ps wx w1.heap.size (.slice (some ⟨g, 0, none⟩) (rest.length + 1) cap) top rest)) (fun _ i _ => n3 - (intOf i).toNat)
                case atStart => exact ⟨0, Nat.zero_le _, rfl, rfl, HB, HS⟩
                case round =>
                  clear HB HS HBw hc5
                  obtain ⟨j, hj, rfl, rfl, HB, HS⟩ := hrel
                  have HBw : Box (Below w.heap.size w wr) := ⟨below_tr HB1.out HB1.out.size HB.out⟩
                  have h33 := HH33.out wr HB.out
                  have hc5 := cellk HBw.out HC5.out.1 HC5.out.2
                  by_cases hjl : j < n3
                  · obtain ⟨b7, o7, y, rfl, hb7, hx7, hs7, hc7⟩ := HC3.out.str_at j hjl
                    replace hc7 := cellk HB.out hb7 hc7
                    have htk : Box ((p.cl.take (j + 1)).any (fun y => decide (y = s)) = ((p.cl.take j).any (fun y => decide (y = s)) || decide (y = s))) := ⟨by rw [List.take_add_one, hx7, List.any_append]; simp⟩
                    clear hx7 hs7
                    generalize (p.cl.take j).any (fun y => decide (y = s)) = P at htk
                    cases P
                    case true =>
                      go_upto_region 16 with fail
                      go_quiet (fail)
                      have HBq : Box (Below w1.heap.size w1 (wr.drewN nq)) := ⟨⟨HB.out.os, HB.out.tape, HB.out.output, HB.out.size, HB.out.block⟩⟩
                      have HSq : Box (StkI ps (wr.drewN nq) w1.heap.size (.slice (some ⟨g, 0, none⟩) (rest.length + 1) cap) top rest) := ⟨⟨HS.out.own⟩⟩
                      go_wp2_with fail
                      go_roundw
                      case rel => exact ⟨j + 1, by omega, by go_num, vb (by rw [htk.out]; simp), HBq, HSq⟩
                      case measure => simp [intOf] <;> omega
                    case false =>
                      have hq : (ByteArray.toList y == ByteArray.toList s) = decide (y = s) := tleq y s
                      generalize decide (y = s) = Y at hq htk
                      go_upto_region 16 with fail
                      go_quiet (fail)
                      have HBq : Box (Below w1.heap.size w1 (wr.drewN nq)) := ⟨⟨HB.out.os, HB.out.tape, HB.out.output, HB.out.size, HB.out.block⟩⟩
                      have HSq : Box (StkI ps (wr.drewN nq) w1.heap.size (.slice (some ⟨g, 0, none⟩) (rest.length + 1) cap) top rest) := ⟨⟨HS.out.own⟩⟩
                      go_wp2_with fail
                      go_roundw
                      case rel => exact ⟨j + 1, by omega, by go_num, vb (by rw [htk.out]; simp), HBq, HSq⟩
                      case measure => simp [intOf] <;> omega
                  · obtain rfl : j = n3 := by omega
                    have e : p.cl.take j = p.cl := List.take_of_length_le (by rw [HC3.out.len]; exact Nat.le_refl _)
                    rw [e]
                    clear e
                    by_cases hin : s ∈ p.cl
                    · have hd : (p.cl.any fun y => decide (y = s)) = true := List.any_eq_true.2 ⟨s, hin, by simp⟩
                      rw [hd]
                      have HRN : Box (lRun ps x [] (entR (0, 0) (ovOf ps x)) walk = lRun ps s (top :: rest) (entR (a, l) (ovOf ps s)) (walk.drop (q + 1))) := ⟨by rw [HRS.out]; simp [lStep, HSE.out, hcl.out, hin]⟩
                      have HFS := Box.mk (HTH.out p HPS.out s hin)
                      clear hd hin
                      go_wp2_with fail
                      refine (r_find s _ ps.length cb ps wr (HP.out.below mono_pc HB.out)).mono ?_
                      rintro e w3 ⟨rfl, rfl⟩
                      generalize hfs : fdx s ps = fs
                      have HFX2 := Box.mk hfs
                      clear hfs
                      go_wp2_with (at_builtin; refine wpL_app _ w1.heap.size rfl _ _ 30 3 rfl (.int .i64 0) 1 8 Try.underlying30 info_int rfl (by decide) (by decide) (.slice (some ⟨g, 0, none⟩) (rest.length + 1) cap) (rest.length + 1) ((top :: rest).reverse.map (fun t => Value.int .i64 (fdx t ps))) rfl (HS.out.own.alloc _) (some ⟨_, 0, none⟩) 1 1 [.int .i64 fs] rfl (src_at _ _ _ _ (by simp) rfl) (by omega) (Nat.le_trans HB.out.size (bel_alloc _ _).size) ?_; intro v3' wa ho3 hg3' hat3)
                      have hg3 := grown_al wr hg3' rfl rfl rfl rfl
                      have HBa : Box (Below w1.heap.size w1 wa) := ⟨HB.out.grown hg3 HB.out.size (fun z hz => (HS.out.own.lt z hz).1)⟩
                      have HO3 : Box (StkI ps wa w1.heap.size v3' s (top :: rest)) := ⟨⟨by rw [List.reverse_cons, List.map_append, List.map_singleton, HFX2.out]; exact ho3⟩⟩
                      clear hg3 hg3' ho3 hat3
                      go_meet
                      refine ⟨HBa, s, top :: rest, HO3, HRN, ⟨fun z hz => ?_⟩, ⟨by simp; omega⟩⟩
                      rcases List.mem_cons.1 hz with rfl | hz
                      · obtain ⟨u, hu⟩ := HFS.out
                        exact ⟨u, (fnd_some hu).1, hu⟩
                      · exact HT.out z hz
                    · have hd : (p.cl.any fun y => decide (y = s)) = false := by rw [List.any_eq_false]; intro y hy; simp; exact fun e => hin (e ▸ hy)
                      rw [hd]
                      have HR : Box (ldsR ps x walk = (0, 7)) := ⟨by unfold ldsR; rw [HRS.out]; simp [lStep, HSE.out, hcl.out, hin]⟩
                      clear hd hin
                      go_wp2_with fail
                      go_ret2
                      have e : lds ms x walk = (0, 7) := by rw [HLD.out, HL.out, if_neg hn2, HR.out]
                      exact ⟨by rw [e]; rfl, HBw.out⟩
            case rest =>
              obtain ⟨HBc, t', r', HSc, HRc, HTc, HRLc⟩ := hcut
              obtain ⟨g', cap', rfl, hgB', hgl', hcap', hcm', htop'⟩ := HSc.out.form
              obtain ⟨p, hp, hpf⟩ := HTc.out t' (List.mem_cons_self ..)
              obtain ⟨q', hq1, hq2⟩ := fdx_found hpf
              rw [hq1] at htop'
              have hql : q' < ps.length := (List.getElem?_eq_some_iff.1 hq2).1
              obtain ⟨b3, off3, p3, A3, n3, c3, rfl, hb3, hp3, _, _, _, h31, _, _⟩ := HP.out.pc_at q' hql
              rw [hq2] at hp3
              injection hp3 with hp3
              subst hp3
              replace h31 := cellk HBc.out hb3 h31
              have hov : Box (ovOf ps t' = p.ov) := ⟨by simp [ovOf, hpf]⟩
              have ho0 := HOV.out p hp
              have hrl' := HRLc.out
              have hll := HLL.out
              have hwr : IntKind.i64.wrap (r'.length : Int) = r'.length := wrap_i64 (by omega) (by omega)
              clear hp hpf hq1 hq2
              generalize p.ov = o at *
              by_cases ho : o = 0
              · subst ho
                have HE : Box (entR (a, l) (ovOf ps t') = (a, l)) := ⟨by rw [hov.out]; simp [entR]⟩
                rw [HE.out] at HRc
                clear hov
                go_wp2_with fail
                go_roundw
                case rel => exact ⟨q + 1 + 1, t', r', _, _, by omega, vi (by omega), rfl, rfl, HSc, HBc, ⟨fun h => by omega, fun _ => HRc.out⟩, ⟨by omega⟩, HTc, ⟨by omega⟩⟩
                case measure => simp [intOf] <;> omega
              · by_cases hoa : o = a
                · subst hoa
                  have HE : Box (entR (o, l) (ovOf ps t') = (o, l)) := ⟨by rw [hov.out]; simp [entR]⟩
                  rw [HE.out] at HRc
                  clear hov
                  go_wp2_with fail
                  go_roundw
                  case rel => exact ⟨q + 1 + 1, t', r', _, _, by omega, vi (by omega), rfl, rfl, HSc, HBc, ⟨fun h => by omega, fun _ => HRc.out⟩, ⟨by omega⟩, HTc, ⟨by omega⟩⟩
                  case measure => simp [intOf] <;> omega
                · have HE : Box (entR (a, l) (ovOf ps t') = (o, l + 1)) := ⟨by rw [hov.out]; simp [entR, ho, hoa]⟩
                  rw [HE.out] at HRc
                  clear hov
                  have hoa' : (o != a) = true := by simpa using hoa
                  go_wp2_with fail
                  go_roundw
                  case rel => exact ⟨q + 1 + 1, t', r', _, _, by omega, vi (by omega), rfl, rfl, HSc, HBc, ⟨fun h => by omega, fun _ => HRc.out⟩, ⟨by omega⟩, HTc, ⟨by omega⟩⟩
                  case measure => simp [intOf] <;> omega
        · obtain rfl : k = n2 + 1 := by omega
          have e0 : (((n2 + 1 : Nat) : Int) - 1) = n2 := by omega
          rw [e0]
          have hd : walk.drop (n2 + 1 - 1) = [] := List.drop_eq_nil_of_le (by rw [HL.out]; omega)
          have HR : Box (ldsR ps x walk = (l, 0)) := ⟨by unfold ldsR; rw [HRUN.out.2 (by omega), hd]; rfl⟩
          clear hd
          go_wp2_with fail
          go_ret2
          have e : lds ms x walk = (l, 0) := by rw [HLD.out, HL.out, if_neg hn2, HR.out]
          exact ⟨by rw [e]; rfl, below_tr HB1.out HB1.out.size HB.out⟩
  · have HLD : Box (lds ms x walk = (0, opf ms x)) := ⟨by simp [lds, h0]⟩
    have h0' : (opf ms x != 0) = true := by simpa using h0
    go_enter Try.func19, Try.ntmps19
    go_wp2_with fail
    refine C.out.mono ?_
    rintro e w1 ⟨⟨v, k0, rfl, hv⟩, hb1⟩
    have HB1 := Box.mk hb1
    clear hb1 hv C
    generalize opf ms x = V at *
    go_wp2_with fail
    go_ret2
    exact ⟨by rw [HLD.out]; rfl, HB1.out⟩
end Go.Proofs.Ytchhjldopecliaa
