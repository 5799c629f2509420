/-
What Loads computes. Condition: the arguments are a slice of modules and a slice of texts.
-/
import Derived.Test.YtchhjldopecliaaP3
namespace Go.Proofs.Ytchhjldopecliaa
open Go.RowKit

theorem lds_of {ms : List Md} {x : Str} {walk : List Str} (h : opf ms x = 0) (hw : ¬ 1000 < walk.length) : lds ms x walk = ldsR (prs ms) x walk := by
  simp [lds, h, hw]

/-- A stack: the top first; the row holds it from below. -/
structure Stk (w : World) (B : Nat) (v : Value) (top : Str) (rest : List Str) : Prop where
  own : w.ownsRow B 9 1 v (rest.length + 1) ((top :: rest).reverse.map Value.string)
theorem Stk.form {w : World} {B : Nat} {v : Value} {top : Str} {rest : List Str} (h : Stk w B v top rest) :
    ∃ g cap, v = .slice (some ⟨g, 0, none⟩) (rest.length + 1) cap ∧ B ≤ g ∧ g < w.heap.size ∧ rest.length + 1 ≤ cap ∧ cap ≤ maxLen ∧ w.cell? ⟨g, rest.length, none⟩ = some (.string top) := by
  rcases h.own.2 with ⟨_, h0⟩ | ⟨g, cap, cur, rfl, hb, hg, hnc, hcm, hcs, ht⟩
  · omega
  · refine ⟨g, cap, rfl, hb, (Array.getElem?_eq_some_iff.1 hg).1, hnc, hcm, ?_⟩
    have := h.own.cells (g := g) rfl rest.length (.string top) (by
      rw [List.getElem?_map, List.reverse_cons, List.getElem?_append_right (by simp)]
      simp)
    have ha : (⟨g, 0, none⟩ : Addr).add rest.length = ⟨g, rest.length, none⟩ := by unfold Addr.add; split <;> simp_all
    rwa [ha] at this
theorem Stk.pop {w : World} {B : Nat} {g cap : Nat} {top t : Str} {rest : List Str} (h : Stk w B (.slice (some ⟨g, 0, none⟩) ((t :: rest).length + 1) cap) top (t :: rest)) :
    Stk w B (.slice (some ⟨g, 0, none⟩) (rest.length + 1) cap) t rest := by
  rcases h.own.2 with ⟨h0, _⟩ | ⟨g', cap', cur, e, hb, hg, hnc, hcm, hcs, ht⟩
  · cases h0
  · injection e with e1 e2 e3
    injection e1 with e1
    injection e1 with e1
    subst e1 e3
    refine ⟨by simp, .inr ⟨g, cap, cur, rfl, hb, hg, by simp at hnc; omega, hcm, hcs, ?_⟩⟩
    have h2 := congrArg (List.take (rest.length + 1)) ht
    rw [List.take_take] at h2
    simp only [List.length_cons, Nat.mul_one] at h2 ⊢
    rw [Nat.min_eq_left (by omega)] at h2
    rw [h2]
    rw [← List.map_take]
    congr 1
    rw [List.reverse_cons, List.take_append_of_le_length (by simp)]
    exact List.take_of_length_le (by simp)

theorem room_set (w : World) (r : Nat) (a l a' l' : Value) (t : TypeId) (h : w.heap[r]? = some (.cells #[a, l] t (0, 0))) :
    ((w.setCell ⟨r, 0, none⟩ a').setCell ⟨r, 1, none⟩ l').heap[r]? = some (.cells #[a', l'] t (0, 0)) ∧ w.grownBy ((w.setCell ⟨r, 0, none⟩ a').setCell ⟨r, 1, none⟩ l') (some r) := by
  refine ⟨?_, ⟨rfl, rfl, rfl, by simp [World.setCell], fun i hi hne => ?_⟩⟩
  · simp [World.setCell, Array.getElem?_modify, h]
  · simp only [World.setCell]
    have hne' : r ≠ i := fun e => hne (by rw [e])
    simp [Array.getElem?_modify, hne']
theorem wrap_i64 {z : Int} (h1 : -9223372036854775808 ≤ z) (h2 : z < 9223372036854775808) : IntKind.i64.wrap z = z := by
  simp only [IntKind.wrap, IntKind.bits, IntKind.signed]
  simp
  omega
theorem field64_0 (o : Int) (A : Option Addr) (n c : Nat) (W : World) : (Instr.field 64 (.agg #[.int .i64 o, .slice A n c]) 0).run Try.prog W = .ok (.int .i64 o) W := by kernel_rfl
theorem field64_1 (o : Int) (A : Option Addr) (n c : Nat) (W : World) : (Instr.field 64 (.agg #[.int .i64 o, .slice A n c]) 1).run Try.prog W = .ok (.slice A n c) W := by kernel_rfl

set_option maxRecDepth 100000 in
set_option maxHeartbeats 4000000 in
theorem c_Loads (A : Option Addr) (n c : Nat) (ms : List Md) (x : Str) (A2 : Option Addr) (n2 c2 : Nat) (walk : List Str) (w : World) (h : SlR w 5 RMd A n c ms) (h2 : SlR w 1 RStr A2 n2 c2 walk) :
    Calls Try.prog 17 #[.slice A n c, .string x, .slice A2 n2 c2] w fun e w' => e = .returned (.tuple #[.int .i64 (lds ms x walk).1, .int .i64 (lds ms x walk).2]) ∧ Below w.heap.size w w' := by
  have hlim := h.lim
  have hlim2 := h2.lim
  have H := Box.mk h
  have H2 := Box.mk h2
  clear h h2
  go_enter Try.func17, Try.ntmps17
  go_wp2_with fail
  refine (c_openFrom A n c ms x w H.out).mono ?_
  rintro e w1 ⟨⟨v, rfl, hv⟩, hb1⟩
  have HB1 := Box.mk hb1
  clear hb1
  by_cases h0 : opf ms x = 0
  · obtain ⟨hop, hg, ⟨p0, hp0⟩, b, rfl, hm, hbl⟩ := hv h0
    have HTH : Box (∀ p ∈ prs ms, ∀ s ∈ p.cl, ∃ q, fnd s (prs ms) = some q) := ⟨fun p hp s hs => opn_there hop hp hs⟩
    have HLD : Box (lds ms x walk = if 1000 < walk.length then (0, 3) else ldsR (prs ms) x walk) := ⟨by simp [lds, h0]⟩
    have HM := Box.mk hm
    have HP0 := Box.mk hp0
    have HBL := Box.mk hbl
    have HL := Box.mk H2.out.len
    rw [h0]
    clear hop hg hm hbl hp0 h0 hv
    generalize hps : prs ms = ps at *
    clear hps
    by_cases hn2 : 1000 < n2
    · go_wp2_with fail
      go_ret2
      exact ⟨by rw [HLD.out, HL.out, if_pos hn2]; rfl, HB1.out⟩
    · obtain ⟨kvs, hk, hpv⟩ := HM.out
      obtain ⟨v0, hv0, A7, n7, c7, rfl, hq⟩ := hpv.get_some HP0.out
      have e0 : ∀ W : World, Below w1.heap.size w1 W → (Instr.lookup 57 (.map (some b)) (.string x) false).run Try.prog W = .ok (.agg #[.int .i64 p0.ov, .slice A7 n7 c7]) W := fun W hW => ((hk.below hW).look keyS Try.underlying57 (zero_proc W) hv0).1
      have hlk := e0 _ (bel_alloc w1 (.cells #[.string x] 9))
      have hfd := field64_0 p0.ov A7 n7 c7
      clear hk hpv hv0 hq e0
      go_wp2_with fail
      refine (c_enter 0 0 p0.ov _ (by omega)).mono ?_
      rintro e w2 ⟨rfl, hb2⟩
      have HB2 : Box (Below w1.heap.size w1 w2) := ⟨below_tr (bel_alloc w1 (.cells #[.string x] 9)) (by simp) hb2⟩
      have HR0 : Box (entR (0, 0) (ovOf ps x) = entR (0, 0) p0.ov) := ⟨by simp [ovOf, HP0.out]⟩
      have HG2 : Box (w2.heap[w1.heap.size]? = some (.cells #[.string x] 9 (0, 0)) ∧ w1.heap.size < w2.heap.size) := ⟨by
        refine ⟨?_, by have := hb2.size; simp at this; omega⟩
        rw [hb2.block w1.heap.size (by simp)]
        exact heap_alloc_new w1 _⟩
      have HE0 : Box (0 ≤ (entR (0, 0) p0.ov).2 ∧ (entR (0, 0) p0.ov).2 ≤ 1) := ⟨by have := entR_loads (0, 0) p0.ov; simpa using this⟩
      clear hb2 hlk hfd
      go_wp2_with fail
      rw [show entR (0, 0) p0.ov = ((entR (0, 0) p0.ov).1, (entR (0, 0) p0.ov).2) from rfl] at HR0
      have HBW : Box (Below w1.heap.size w1 (w2.alloc (.cells #[.int .i64 (entR (0, 0) p0.ov).1, .int .i64 (entR (0, 0) p0.ov).2] 61))) := ⟨bel_alloc2 HB2.out _⟩
      have HS0 : Box (Stk (w2.alloc (.cells #[.int .i64 (entR (0, 0) p0.ov).1, .int .i64 (entR (0, 0) p0.ov).2] 61)) w1.heap.size (.slice (some ⟨w1.heap.size, 0, none⟩) 1 1) x []) := ⟨⟨rfl, .inr ⟨w1.heap.size, 1, #[.string x], rfl, Nat.le_refl _, (Below.heap_alloc _ _ _ HG2.out.2).trans HG2.out.1, Nat.le_refl _, by decide, rfl, rfl⟩⟩⟩
      have HC0 : Box ((w2.alloc (.cells #[.int .i64 (entR (0, 0) p0.ov).1, .int .i64 (entR (0, 0) p0.ov).2] 61)).heap[w2.heap.size]? = some (.cells #[.int .i64 (entR (0, 0) p0.ov).1, .int .i64 (entR (0, 0) p0.ov).2] 61 (0, 0))) := ⟨heap_alloc_new w2 _⟩
      have HT0 : Box (∀ t ∈ [x], ∃ p ∈ ps, fnd t ps = some p) := ⟨fun t ht => by
        obtain rfl : t = x := by simpa using ht
        exact ⟨p0, (fnd_some HP0.out).1, HP0.out⟩⟩
      go_loopw [10, 12, 14, 15, 38] (fun v10 v12 _ _ i wr => ∃ (k : Nat) (top : Str) (rest : List Str) (a l : Int), k ≤ n2 ∧ i = .int .i64 k ∧ v12 = .bool true ∧ Box (Stk wr w1.heap.size v10 top rest) ∧ Box (Below w1.heap.size w1 wr) ∧
        Box (wr.heap[w2.heap.size]? = some (.cells #[.int .i64 a, .int .i64 l] 61 (0, 0))) ∧ Box (lRun ps x [] (entR (0, 0) (ovOf ps x)) walk = lRun ps top rest (a, l) (walk.drop k)) ∧ Box (0 ≤ l ∧ l ≤ k + 1) ∧
        Box (∀ t ∈ top :: rest, ∃ p ∈ ps, fnd t ps = some p) ∧ Box (rest.length ≤ k) ∧ Box (v10.ownBlock ≠ some w2.heap.size)) (fun _ _ _ _ i _ => n2 - (intOf i).toNat)
      case atStart => exact ⟨0, x, [], _, _, Nat.zero_le _, rfl, rfl, HS0, HBW, HC0, ⟨by rw [HR0.out]; rfl⟩, ⟨by simpa using HE0.out⟩, HT0, ⟨Nat.le_refl _⟩, ⟨fun e => by
        injection e with e
        have e : w1.heap.size = w2.heap.size := e
        have := HG2.out.2
        omega⟩⟩
      case round =>
        clear HBW HS0 HC0 HT0 HE0
        obtain ⟨k, top, rest, a, l, hk, rfl, rfl, HS, HB, HC, HRUN, HLL, HT, HRL, HNE⟩ := hrel
        by_cases hlt : k < n2
        · obtain ⟨b5, o5, s, rfl, hb5, hx5, hs5, hc5⟩ := H2.out.str_at k hlt
          have HBw : Box (Below w.heap.size w wr) := ⟨below_tr HB1.out HB1.out.size HB.out⟩
          replace hc5 := cellk HBw.out hb5 hc5
          have HX : Box (walk.drop k = s :: walk.drop (k + 1)) := ⟨by
            obtain ⟨h1, h2⟩ := List.getElem?_eq_some_iff.1 hx5
            rw [← h2]
            exact List.drop_eq_getElem_cons h1⟩
          obtain ⟨g, cap, rfl, hgB, hgl, hcap, hcm, htop⟩ := HS.out.form
          have hrl := HRL.out
          clear hx5 hs5
          go_upto_block 2 with fail
          go_cut [10, 12] (fun s10 s12 wx => Box (Below w1.heap.size w1 wx) ∧ Box (wx.heap[w2.heap.size]? = some (.cells #[.int .i64 a, .int .i64 l] 61 (0, 0))) ∧
            ((s12 = .bool false ∧ Box (lStep ps top rest s = none)) ∨ (s12 = .bool true ∧ ∃ t' r', Box (lStep ps top rest s = some (t', r')) ∧ Box (Stk wx w1.heap.size s10 t' r') ∧ Box (s10.ownBlock ≠ some w2.heap.size) ∧ Box (∀ t ∈ t' :: r', ∃ p ∈ ps, fnd t ps = some p) ∧ Box (r'.length ≤ k + 1))))
          case first =>
            by_cases hse : s = ByteArray.empty
            · subst hse
              cases rest with
              | nil =>
                have hst : Box (lStep ps top [] ByteArray.empty = none) := ⟨by simp [lStep]⟩
                go_wp2_with fail
                go_meet
                exact ⟨HB, HC, .inl ⟨rfl, hst⟩⟩
              | cons t r =>
                have hst : Box (lStep ps top (t :: r) ByteArray.empty = some (t, r)) := ⟨by simp [lStep]⟩
                have hp := HS.out.pop
                have HP := Box.mk hp
                clear hp
                simp only [List.length_cons] at hrl hcap htop
                go_wp2_with fail
                go_meet
                refine ⟨HB, HC, .inr ⟨rfl, t, r, hst, ?_, ?_, ⟨fun q hq => HT.out q (List.mem_cons_of_mem _ hq)⟩, ⟨by omega⟩⟩⟩
                · exact HP
                · exact HNE
            · obtain ⟨p, hp, hpf⟩ := HT.out top (List.mem_cons_self ..)
              obtain ⟨kvs, hk, hpv⟩ := HM.out
              obtain ⟨v0, hv0, A8, n8, c8, rfl, hq⟩ := hpv.get_some hpf
              have hlk : (Instr.lookup 57 (.map (some b)) (.string top) false).run Try.prog wr = .ok (.agg #[.int .i64 p.ov, .slice A8 n8 c8]) wr := ((hk.below HB.out).look keyS Try.underlying57 (zero_proc wr) hv0).1
              have hq' := hq.below mono_str HB.out
              have HQ := Box.mk hq'
              have hcl : Box (clOf ps top = p.cl) := ⟨by simp [clOf, hpf]⟩
              have HPS := Box.mk hp
              have hfd := field64_1 p.ov A8 n8 c8
              have HSE := Box.mk hse
              have hse1 : (ByteArray.toList s == []) = false := by
                rw [← show ByteArray.toList ByteArray.empty = [] from by simp [ByteArray.toList_eq], tleq]
                simpa using hse
              clear hp hpf hk hpv hv0 hq hq' hse
              go_wp2_with fail
              refine (c_Contains s A8 n8 c8 p.cl wr HQ.out).mono ?_
              rintro e w3 ⟨rfl, rfl⟩
              by_cases hin : s ∈ p.cl
              · have hd : decide (s ∈ p.cl) = true := by simpa using hin
                rw [hd]
                have hst : Box (lStep ps top rest s = some (s, top :: rest)) := ⟨by simp [lStep, HSE.out, hcl.out, hin]⟩
                have HIN := Box.mk hin
                clear hd hin
                go_wp2_with (at_builtin; refine wpL_app _ w1.heap.size rfl _ _ 23 9 rfl (.string ByteArray.empty) 1 16 Try.underlying23 info_str rfl (by decide) (by decide) (.slice (some ⟨g, 0, none⟩) (rest.length + 1) cap) (rest.length + 1) ((top :: rest).reverse.map Value.string) rfl (HS.out.own.alloc _) (some ⟨_, 0, none⟩) 1 1 [.string s] rfl (src_at _ _ _ _ (by simp) rfl) (by omega) (by have := HB.out.size; simp; omega) ?_; intro v3' wa ho3 hg3' hat3)
                have hg3 : wr.grownBy wa (some g) := ⟨hg3'.os, hg3'.tape, hg3'.output, by have := hg3'.size; simp at this; omega, fun i hi hne => by rw [hg3'.block i (by simp; omega) hne, Below.heap_alloc _ _ _ hi]⟩
                have HO3 := Box.mk ho3
                have HG3 := Box.mk hg3
                have HAT := Box.mk hat3
                clear hg3' hg3 ho3 hat3
                go_meet
                have hgne : g ≠ w2.heap.size := fun e => HNE.out (by rw [e]; rfl)
                have hR0 : w2.heap.size < wr.heap.size := (Array.getElem?_eq_some_iff.1 HC.out).1
                refine ⟨⟨HB.out.grown HG3.out HB.out.size (fun q hq => by injection hq with hq; omega)⟩, ⟨(HG3.out.block _ hR0 (fun e => by injection e with e; exact hgne e.symm)).trans HC.out⟩, .inr ⟨rfl, s, top :: rest, hst, ⟨⟨?_⟩⟩, ⟨?_⟩, ⟨fun q hq => ?_⟩, ⟨by simp; omega⟩⟩⟩
                · have := HO3.out
                  rw [List.reverse_cons, List.map_append]
                  exact this
                · rcases HAT.out with e | e
                  · rw [e]; exact HNE.out
                  · rw [e]; intro e'; injection e' with e'; simp at e'; omega
                · rcases List.mem_cons.1 hq with rfl | hq
                  · obtain ⟨z, hz⟩ := HTH.out p HPS.out _ HIN.out
                    exact ⟨z, (fnd_some hz).1, hz⟩
                  · exact HT.out q hq
              · have hd : decide (s ∈ p.cl) = false := by simpa using hin
                rw [hd]
                have hst : Box (lStep ps top rest s = none) := ⟨by simp [lStep, HSE.out, hcl.out, hin]⟩
                clear hd hin
                go_wp2_with fail
                go_meet
                exact ⟨HB, HC, .inl ⟨rfl, hst⟩⟩
          case rest =>
            obtain ⟨HBc, HCc, hor⟩ := hcut
            rcases hor with ⟨rfl, hst⟩ | ⟨rfl, t', r', hst, HSc, HNEc, HTc, HRLc⟩
            · have HR : Box (ldsR ps x walk = (0, 7)) := ⟨by unfold ldsR; rw [HRUN.out, HX.out]; unfold lRun; rw [hst.out]⟩
              go_wp2_with fail
              go_ret2
              have e : lds ms x walk = (0, 7) := by rw [HLD.out, HL.out, if_neg hn2, HR.out]
              exact ⟨by rw [e]; rfl, below_tr HB1.out HB1.out.size HBc.out⟩
            · obtain ⟨g', cap', rfl, hgB', hgl', hcap', hcm', htop'⟩ := HSc.out.form
              obtain ⟨p, hp, hpf⟩ := HTc.out t' (List.mem_cons_self ..)
              obtain ⟨kvs, hk, hpv⟩ := HM.out
              obtain ⟨v0, hv0, A8, n8, c8, rfl, hq⟩ := hpv.get_some hpf
              have hlk : (Instr.lookup 57 (.map (some b)) (.string t') false).run Try.prog wc.drew = .ok (.agg #[.int .i64 p.ov, .slice A8 n8 c8]) wc.drew := ((hk.below HBc.out).drew.look keyS Try.underlying57 (zero_proc wc.drew) hv0).1
              have hfd := field64_0 p.ov A8 n8 c8
              have hov : Box (ovOf ps t' = p.ov) := ⟨by simp [ovOf, hpf]⟩
              have dd0 : wc.cell? ⟨w2.heap.size, 0, none⟩ = some (.int .i64 a) := by simp [World.cell?, HCc.out]
              have dd1 : wc.cell? ⟨w2.heap.size, 1, none⟩ = some (.int .i64 l) := by simp [World.cell?, HCc.out]
              have hrl' := HRLc.out
              have hll := HLL.out
              have hR0 : w2.heap.size < wc.heap.size := (Array.getElem?_eq_some_iff.1 HCc.out).1
              have CE : Box (∀ W, Calls Try.prog 46 #[.agg #[.int .i64 a, .int .i64 l], .int .i64 p.ov] W fun e w' => e = .returned (.agg #[.int .i64 (entR (a, l) p.ov).1, .int .i64 (entR (a, l) p.ov).2]) ∧ Below W.heap.size W w') := ⟨fun W => c_enter a l p.ov W (by omega)⟩
              have hwr : IntKind.i64.wrap (r'.length : Int) = r'.length := wrap_i64 (by omega) (by omega)
              clear hp hpf hk hpv hv0 hq htop
              go_upto_region 20 with fail
              go_region_with (refine (CE.out _).mono ?_; rintro e w3 ⟨rfl, hb3⟩; have hc3 := (hb3.block _ hR0).trans HCc.out; have e0 : w3.cell? ⟨w2.heap.size, 0, none⟩ = some (.int .i64 a) := (by simp [World.cell?, hc3]); have e1 : w3.cell? ⟨w2.heap.size, 1, none⟩ = some (.int .i64 l) := (by simp [World.cell?, hc3]); have f0 : w3.frozen? ⟨w2.heap.size, 0, none⟩ = false := (by simp [World.frozen?, hc3]); have f1 : w3.frozen? ⟨w2.heap.size, 1, none⟩ = false := (by simp [World.frozen?, hc3]); have HC3 := Box.mk hc3; have HB3 : Box (Below wc.heap.size wc w3) := ⟨⟨hb3.os, hb3.tape, hb3.output, hb3.size, hb3.block⟩⟩; clear hc3 hb3)
              all_goals
                obtain ⟨hc4, hg4⟩ := room_set w3 w2.heap.size _ _ (.int .i64 (entR (a, l) p.ov).1) (.int .i64 (entR (a, l) p.ov).2) 61 HC3.out
                have HC4 := Box.mk hc4
                have HG4 := Box.mk hg4
                have hR3 : w1.heap.size ≤ w2.heap.size := HB2.out.size
                have HB4 : Box (Below w1.heap.size w1 w3) := ⟨below_tr HBc.out HBc.out.size HB3.out⟩
                have HB5 : Box (Below w1.heap.size w1 ((w3.setCell ⟨w2.heap.size, 0, none⟩ (.int .i64 (entR (a, l) p.ov).1)).setCell ⟨w2.heap.size, 1, none⟩ (.int .i64 (entR (a, l) p.ov).2))) := ⟨HB4.out.grown HG4.out HB4.out.size (fun q hq => by injection hq with hq; omega)⟩
                have HS5 : Box (Stk ((w3.setCell ⟨w2.heap.size, 0, none⟩ (.int .i64 (entR (a, l) p.ov).1)).setCell ⟨w2.heap.size, 1, none⟩ (.int .i64 (entR (a, l) p.ov).2)) w1.heap.size (.slice (some ⟨g', 0, none⟩) (r'.length + 1) cap') t' r') := ⟨⟨own_other (own_below HSc.out.own HB3.out) HG4.out (.inr (fun e => HNEc.out (by rw [e])))⟩⟩
                have HLL' := entR_loads (a, l) p.ov
                have HLQ := Box.mk HLL'
                clear hc4 hg4 HLL' e0 e1 f0 f1 hR3
                generalize ((w3.setCell ⟨w2.heap.size, 0, none⟩ (.int .i64 (entR (a, l) p.ov).1)).setCell ⟨w2.heap.size, 1, none⟩ (.int .i64 (entR (a, l) p.ov).2)) = w5 at *
                go_wp2_with fail
                go_roundw
                case rel =>
                  refine ⟨k + 1, t', r', _, _, by omega, by go_num, rfl, HS5, HB5, HC4, ⟨?_⟩, ⟨by have := HLQ.out; have := HLL.out; simp at *; omega⟩, HTc, ⟨by omega⟩, HNEc⟩
                  rw [HRUN.out, HX.out]
                  conv => lhs; unfold lRun
                  rw [hst.out]
                  show lRun ps t' r' (entR (a, l) (ovOf ps t')) _ = _
                  rw [hov.out]
                case measure => simp [intOf]; omega
        · obtain rfl : k = n2 := by omega
          have hd : walk.drop k = [] := List.drop_eq_nil_of_le (by rw [HL.out]; exact Nat.le_refl _)
          have HR : Box (ldsR ps x walk = (l, 0)) := ⟨by unfold ldsR; rw [HRUN.out, hd]; rfl⟩
          have dd1 : wr.cell? ⟨w2.heap.size, 1, none⟩ = some (.int .i64 l) := by simp [World.cell?, HC.out]
          clear hd
          go_wp2_with fail
          go_ret2
          have e : lds ms x walk = (l, 0) := by rw [HLD.out, HL.out, if_neg hn2, HR.out]
          exact ⟨by rw [e]; rfl, below_tr HB1.out HB1.out.size HB.out⟩
  · have HLD : Box (lds ms x walk = (0, opf ms x)) := ⟨by simp [lds, h0]⟩
    have h0' : ¬ ((opf ms x : Int) == 0) = true := by simpa using h0
    clear hv
    go_wp2_with fail
    go_ret2
    exact ⟨by rw [HLD.out]; rfl, HB1.out⟩
end Go.Proofs.Ytchhjldopecliaa
